/- Drawn regions: what is bound behind what. -/
import Derived.Test.YtjkbljgolcdhhaaGreatDoorDB
set_option autoImplicit false
set_option linter.unusedVariables false
set_option linter.constructorNameAsVariable false
set_option linter.unusedSimpArgs false
namespace Go.Proofs.YtjkbljgolcdhhaaGreatDoor.Fw.Cm
open Go Go.RowKit Go.WideShapes
theorem tb_eq (m j : Nat) : tb m j = m.testBit j := by
  unfold tb Nat.testBit
  show Nat.beq (1 &&& (m >>> j)) 1 = _
  rw [Nat.and_comm, Nat.and_one_is_mod]
  rcases Nat.mod_two_eq_zero_or_one (m >>> j) with h | h <;> rw [h] <;> rfl
theorem imp'_iff {a b : Bool} : imp' a b = true ↔ (a = true → b = true) := by cases a <;> cases b <;> simp [imp']
theorem or'_iff {a b : Bool} : or' a b = true ↔ a = true ∨ b = true := by cases a <;> cases b <;> simp [or']
theorem not'_iff {a : Bool} : not' a = true ↔ a = false := by cases a <;> simp [not']
theorem memN_iff {t : Nat} : ∀ {l : List Nat}, memN t l = true ↔ t ∈ l
  | [] => by simp [memN]
  | a :: l => by
    have e : memN t (a :: l) = not' (and' (not' (Nat.beq t a)) (not' (memN t l))) := rfl
    have ih := memN_iff (t := t) (l := l)
    rw [e, List.mem_cons, ← ih]
    have hb : Nat.beq t a = true ↔ t = a := beq_iff
    rw [← hb]
    cases Nat.beq t a <;> cases memN t l <;> simp [not', and']
theorem memO_iff {d : Option Tmp} {l : List Nat} : memO d l = true ↔ ∃ t, d = some t ∧ t ∈ l := by
  cases d with
  | none => simp [memO]
  | some t => simp [memO, memN_iff]
theorem hit_of {d : Option Tmp} {l : List Nat} {t : Nat} (hd : d = some t) (ht : t ∈ l) : hit d l = true := by
  subst hd
  have h1 : ∀ (l : List Nat), t ∈ l → (msk l).testBit t = true := by
    intro l
    induction l with
    | nil => intro h; cases h
    | cons a l ih =>
      intro h
      show ((1 <<< a) ||| msk l).testBit t = true
      rw [Nat.testBit_or, Bool.or_eq_true]
      rcases List.mem_cons.1 h with rfl | h
      · left; rw [Nat.one_shiftLeft, Nat.testBit_two_pow]; simp
      · exact .inr (ih h)
  have h2 : (bitO (some t)).testBit t = true := by
    show (1 <<< t).testBit t = true
    rw [Nat.one_shiftLeft, Nat.testBit_two_pow]; simp
  unfold hit
  cases hb : Nat.beq (Nat.land (bitO (some t)) (msk l)) 0 with
  | false => rfl
  | true =>
    exfalso
    have h3 := Nat.eq_of_beq_eq_true hb
    have h4 : (bitO (some t) &&& msk l).testBit t = true := by rw [Nat.testBit_and, h2, h1 l ht]; rfl
    have h5 : bitO (some t) &&& msk l = 0 := h3
    rw [h5] at h4
    simp at h4
theorem same_iff {d d' : Option Tmp} : same d d' = true ↔ ∃ t, d = some t ∧ d' = some t := by
  cases d with
  | none => simp [same]
  | some t => cases d' with
    | none => simp [same]
    | some t' =>
      have hb : Nat.beq t t' = true ↔ t = t' := beq_iff
      simp only [same, hb, Option.some.injEq]
      constructor
      · rintro rfl; exact ⟨_, rfl, rfl⟩
      · rintro ⟨_, rfl, rfl⟩; rfl
/-- bound behind, over any number of edges -/
inductive Cl (ops : Array Oper) : Nat → Nat → Prop
  | one {i : Nat} {o : Oper} {e : Edge} (ho : ops[i]? = some o) (he : e ∈ o.after) (hb : Region.binds .any e = true) : Cl ops i e.on
  | more {i k : Nat} {o : Oper} {e : Edge} (ho : ops[i]? = some o) (he : e ∈ o.after) (hb : Region.binds .any e = true) (h : Cl ops e.on k) : Cl ops i k
def Closed (ops : Array Oper) (L : Nat → Prop) : Prop := ∀ j, L j → ∀ o, ops[j]? = some o → ∀ e ∈ o.after, Region.binds .any e = true → L e.on
theorem Cl.done {ops : Array Oper} {L : Nat → Prop} (hL : Closed ops L) {i k : Nat} (h : Cl ops i k) : (∀ o, ops[i]? = some o → ∀ e ∈ o.after, Region.binds .any e = true → L e.on) → L k := by
  induction h with
  | one ho he hb => intro h; exact h _ ho _ he hb
  | more ho he hb _ ih => intro h; exact ih fun o' ho' e' he' hb' => hL _ (h _ ho _ he hb) _ ho' _ he' hb'
section
variable (T : TT) (ops : Array Oper)
/-- what came before the i-th -/
noncomputable def preF : Nat → List PI
  | 0 => []
  | i + 1 => match ops[i]? with
    | some o => .mk o (maskOf i (preF i) o) (gTs ops.toList o) (cls T o) :: preF i
    | none => preF i
noncomputable def mkF (i : Nat) (o : Oper) : Nat := maskOf i (preF T ops i) o
noncomputable def piF (i : Nat) (o : Oper) : PI := .mk o (mkF T ops i o) (gTs ops.toList o) (cls T o)
/-- how many big ones came before -/
def epF : Nat → Nat
  | 0 => 0
  | i + 1 => epF i + match ops[i]? with
    | some o => if cls T o = 3 then 1 else 0
    | none => 0
end
section
variable {T : TT} {ops : Array Oper}
theorem preF_succ {i : Nat} {o : Oper} (h : ops[i]? = some o) : preF T ops (i + 1) = piF T ops i o :: preF T ops i := by
  show (match ops[i]? with | some o => PI.mk o (maskOf i (preF T ops i) o) (gTs ops.toList o) (cls T o) :: preF T ops i | none => preF T ops i) = _
  rw [h]; rfl
theorem epF_succ {i : Nat} {o : Oper} (h : ops[i]? = some o) : epF T ops (i + 1) = epF T ops i + if cls T o = 3 then 1 else 0 := by
  show epF T ops i + (match ops[i]? with | some o => if cls T o = 3 then 1 else 0 | none => 0) = _
  rw [h]
theorem epF_mono {i j : Nat} (h : i ≤ j) : epF T ops i ≤ epF T ops j := by
  induction h with
  | refl => exact Nat.le_refl _
  | step _ ih => exact Nat.le_trans ih (Nat.le_add_right _ _)
theorem preF_get : ∀ {i : Nat}, i ≤ ops.size → (preF T ops i).length = i ∧ ∀ j o, j < i → ops[j]? = some o → (preF T ops i)[i - 1 - j]? = some (piF T ops j o)
  | 0, _ => ⟨rfl, fun j o h => by omega⟩
  | i + 1, hi => by
    obtain ⟨h1, h2⟩ := preF_get (i := i) (by omega)
    have ho : ops[i]? = some ops[i] := Array.getElem?_eq_getElem (by omega)
    rw [preF_succ ho]
    refine ⟨by simp [h1], fun j o hj ho' => ?_⟩
    by_cases hji : j = i
    · subst hji
      rw [ho] at ho'; injection ho' with ho'; subst ho'
      have : j + 1 - 1 - j = 0 := by omega
      rw [this]; rfl
    · have : i + 1 - 1 - j = (i - 1 - j) + 1 := by omega
      rw [this, List.getElem?_cons_succ]
      exact h2 j o (by omega) ho'
theorem maskL {i : Nat} {pre : List PI} {k : Nat} : ∀ {l : List Edge}, (List.rec (motive := fun _ => Nat) 0 (fun e _ ih => match Region.binds .any e with | true => Nat.lor (Nat.lor (Nat.shiftLeft 1 e.on) (preM pre (i - 1 - e.on))) ih | false => ih) l : Nat).testBit k = true →
    ∃ e ∈ l, Region.binds .any e = true ∧ (k = e.on ∨ (preM pre (i - 1 - e.on)).testBit k = true)
  | [], h => by simp at h
  | e :: l, h => by
    simp only at h
    split at h
    · rename_i hb
      have h : ((1 <<< e.on ||| preM pre (i - 1 - e.on)) ||| (List.rec (motive := fun _ => Nat) 0 (fun e _ ih => match Region.binds .any e with | true => Nat.lor (Nat.lor (Nat.shiftLeft 1 e.on) (preM pre (i - 1 - e.on))) ih | false => ih) l : Nat)).testBit k = true := h
      rw [Nat.testBit_or, Nat.testBit_or, Bool.or_eq_true, Bool.or_eq_true] at h
      rcases h with (h | h) | h
      · refine ⟨e, List.mem_cons_self .., hb, .inl ?_⟩
        rw [Nat.one_shiftLeft, Nat.testBit_two_pow] at h
        simpa using (of_decide_eq_true h).symm
      · exact ⟨e, List.mem_cons_self .., hb, .inr h⟩
      · obtain ⟨e', h1, h2⟩ := maskL h
        exact ⟨e', List.mem_cons_of_mem _ h1, h2⟩
    · obtain ⟨e', h1, h2⟩ := maskL h
      exact ⟨e', List.mem_cons_of_mem _ h1, h2⟩
theorem mask_cl (hf : fwd ops) : ∀ (i : Nat) (o : Oper), ops[i]? = some o → ∀ k, tb (mkF T ops i o) k = true → k < i ∧ Cl ops i k := by
  intro i
  induction i using Nat.strongRecOn with
  | _ i ih =>
    intro o ho k hk
    rw [tb_eq] at hk
    obtain ⟨e, h1, h2, h3⟩ := maskL (show (List.rec (motive := fun _ => Nat) 0 _ o.after.toList : Nat).testBit k = true from hk)
    have h1 : e ∈ o.after := by simpa using h1
    have hlt := hf i o ho e h1 h2
    rcases h3 with rfl | h3
    · exact ⟨hlt, .one ho h1 h2⟩
    · have hi : i < ops.size := (Array.getElem?_eq_some_iff.1 ho).1
      have ho' : ops[e.on]? = some ops[e.on] := Array.getElem?_eq_getElem (by omega)
      have hg := (preF_get (T := T) (ops := ops) (i := i) (by omega)).2 e.on _ hlt ho'
      have hm : preM (preF T ops i) (i - 1 - e.on) = mkF T ops e.on ops[e.on] := by
        unfold preM
        rw [nth_eq, hg]; rfl
      rw [hm, ← tb_eq] at h3
      obtain ⟨h4, h5⟩ := ih e.on hlt _ ho' k h3
      exact ⟨by omega, .more ho h1 h2 h5⟩
theorem fwdB_ok {i : Nat} {o : Oper} (h : fwdB i o = true) : ∀ e ∈ o.after, Region.binds .any e = true → e.on < i := by
  have : ∀ (l : List Edge), (List.rec (motive := fun _ => Bool) true (fun e _ ih => and' (imp' (Region.binds .any e) (Nat.blt e.on i)) ih) l : Bool) = true → ∀ e ∈ l, Region.binds .any e = true → e.on < i := by
    intro l
    induction l with
    | nil => intro _ e he; cases he
    | cons a l ih =>
      intro h e he hb
      obtain ⟨h1, h2⟩ := and'_iff.1 (show and' (imp' (Region.binds .any a) (Nat.blt a.on i)) _ = true from h)
      rcases List.mem_cons.1 he with rfl | he
      · exact blt_iff.1 (imp'_iff.1 h1 hb)
      · exact ih h2 e he hb
  intro e he
  exact this _ h e (by simpa using he)
theorem pairsB_ok {sx m : Nat} {d : Option Tmp} {ts : List Nat} {c : Nat} : ∀ {pre : List PI} {i : Nat}, pairsB sx m d ts c pre i = true → ∀ q p, pre[q]? = some p → pairB sx m d ts c (i - 1 - q) p = true
  | [], i, h, q, p, hq => by simp at hq
  | a :: pre, i, h, q, p, hq => by
    obtain ⟨h1, h2⟩ := and'_iff.1 (show and' (pairB sx m d ts c (i - 1) a) (pairsB sx m d ts c pre (i - 1)) = true from h)
    cases q with
    | zero => simp at hq; subst hq; exact h1
    | succ q =>
      have := pairsB_ok h2 q p (by simpa using hq)
      have e : i - 1 - (q + 1) = i - 1 - 1 - q := by omega
      rw [e]; exact this
theorem below510_ok {ts : List Nat} (h : below510 ts = true) : ∀ t ∈ ts, t < 510 := by
  induction ts with
  | nil => intro t ht; cases ht
  | cons a l ih =>
    obtain ⟨h1, h2⟩ := and'_iff.1 (show and' (Nat.blt a 510) (below510 l) = true from h)
    intro t ht
    rcases List.mem_cons.1 ht with rfl | ht
    · exact blt_iff.1 h1
    · exact ih h2 t ht
/-- what the check of a region has seen -/
structure StatD (T : TT) (ops : Array Oper) (sp sq : Nat) : Prop where
  fw : fwd ops
  self : ∀ (i : Nat) (o : Oper), ops[i]? = some o → ∀ t, o.dst = some t → t ∉ gTs ops.toList o
  lt : ∀ (i : Nat) (o : Oper), ops[i]? = some o → ∀ t ∈ gTs ops.toList o, t < 510
  use : ∀ (i : Nat) (o : Oper) (j : Nat) (o' : Oper), ops[i]? = some o → ops[j]? = some o' → j < i → ∀ t, o'.dst = some t → t ∈ gTs ops.toList o → tb (mkF T ops i o) j = true
  uniq : ∀ (i : Nat) (o : Oper) (j : Nat) (o' : Oper), ops[i]? = some o → ops[j]? = some o' → j < i → ∀ t, o.dst = some t → o'.dst ≠ some t
  late : ∀ (i : Nat) (o : Oper) (j : Nat) (o' : Oper), ops[i]? = some o → ops[j]? = some o' → j < i → ∀ t, o.dst = some t → t ∈ gTs ops.toList o' → cls T o' ≠ 2 ∧ tb (mkF T ops i o) j = true
  big : ∀ (i : Nat) (o : Oper) (j : Nat) (o' : Oper), ops[i]? = some o → ops[j]? = some o' → j < i → cls T o = 3 → cls T o' = 3 ∨ cls T o' = 1 → tb (mkF T ops i o) j = true ∨ (i = sq ∧ j = sp ∧ cls T o' = 3)
theorem stat_of {sp sq : Nat} (h : ∀ (i : Nat) (o : Oper), ops[i]? = some o → statB (sxN sp sq i) i (preF T ops i) (mkF T ops i o) (gTs ops.toList o) (cls T o) o = true) : StatD T ops sp sq := by
  have pr : ∀ i o j o', ops[i]? = some o → ops[j]? = some o' → j < i → pairB (sxN sp sq i) (mkF T ops i o) o.dst (gTs ops.toList o) (cls T o) j (piF T ops j o') = true := by
    intro i o j o' ho ho' hj
    have h1 := (and'_iff.1 (and'_iff.1 (and'_iff.1 (h i o ho)).2).2).2
    have hi : i < ops.size := (Array.getElem?_eq_some_iff.1 ho).1
    have h2 := pairsB_ok h1 (i - 1 - j) _ ((preF_get (T := T) (ops := ops) (i := i) (by omega)).2 j o' hj ho')
    have e : i - 1 - (i - 1 - j) = j := by omega
    rw [e] at h2; exact h2
  refine ⟨fun i o ho => fwdB_ok (and'_iff.1 (h i o ho)).1, fun i o ho t hd ht => ?_, fun i o ho => below510_ok (and'_iff.1 (and'_iff.1 (and'_iff.1 (h i o ho)).2).2).1, fun i o j o' ho ho' hj t hd ht => ?_, fun i o j o' ho ho' hj t hd hd' => ?_, fun i o j o' ho ho' hj t hd ht => ?_, fun i o j o' ho ho' hj h3 h4 => ?_⟩
  · have h1 := (and'_iff.1 (and'_iff.1 (h i o ho)).2).1
    rw [not'_iff] at h1
    rw [hit_of hd ht] at h1; cases h1
  · have h1 := (and'_iff.1 (pr i o j o' ho ho' hj)).1
    exact imp'_iff.1 h1 (hit_of hd ht)
  · have h1 := (and'_iff.1 (and'_iff.1 (pr i o j o' ho ho' hj)).2).1
    rw [not'_iff] at h1
    rw [same_iff.2 ⟨t, hd, hd'⟩] at h1; cases h1
  · have h1 := (and'_iff.1 (and'_iff.1 (and'_iff.1 (pr i o j o' ho ho' hj)).2).2).1
    obtain ⟨h2, h3⟩ := and'_iff.1 (imp'_iff.1 h1 (hit_of hd ht))
    refine ⟨fun e => ?_, h3⟩
    rw [not'_iff, e] at h2; cases h2
  · have h1 := (and'_iff.1 (and'_iff.1 (and'_iff.1 (pr i o j o' ho ho' hj)).2).2).2
    have h5 := imp'_iff.1 h1 (and'_iff.2 ⟨by rw [h3]; rfl, by rcases h4 with h4 | h4 <;> rw [h4] <;> rfl⟩)
    rcases or'_iff.1 h5 with h5 | h5
    · exact .inl h5
    · obtain ⟨h6, h7⟩ := and'_iff.1 h5
      have h6 := beq_iff.1 h6
      unfold sxN at h6
      split at h6
      · rename_i hb; exact .inr ⟨beq_iff.1 hb, h6, beq_iff.1 h7⟩
      · omega
/-- a big one of each number -/
theorem ep_exists : ∀ {i k : Nat}, i ≤ ops.size → k < epF T ops i → ∃ j o, j < i ∧ ops[j]? = some o ∧ cls T o = 3 ∧ epF T ops j = k
  | 0, k, _, h => by simp [epF] at h
  | i + 1, k, hi, h => by
    have ho : ops[i]? = some ops[i] := Array.getElem?_eq_getElem (by omega)
    rw [epF_succ ho] at h
    by_cases hk : k < epF T ops i
    · obtain ⟨j, o, h1, h2⟩ := ep_exists (by omega) hk
      exact ⟨j, o, by omega, h2⟩
    · by_cases hc : cls T ops[i] = 3
      · rw [if_pos hc] at h
        exact ⟨i, _, by omega, ho, hc, by omega⟩
      · rw [if_neg hc] at h; omega
theorem freeB_le {m k : Nat} : ∀ {i : Nat}, i ≤ ops.size → (∀ j o, j < i → ops[j]? = some o → cls T o = 3 → k ≤ epF T ops j → tb m j = false) → epF T ops i - k ≤ freeB m (preF T ops i) i
  | 0, _, _ => by simp [epF]
  | i + 1, hi, h => by
    have ho : ops[i]? = some ops[i] := Array.getElem?_eq_getElem (by omega)
    have ih := freeB_le (i := i) (by omega) fun j o hj => h j o (by omega)
    rw [preF_succ ho, epF_succ ho]
    have e : freeB m (piF T ops i ops[i] :: preF T ops i) (i + 1) = Bool.rec (motive := fun _ => Nat) (freeB m (preF T ops i) i) (Nat.succ (freeB m (preF T ops i) i)) (and' (Nat.beq (cls T ops[i]) 3) (not' (tb m i))) := rfl
    rw [e]
    by_cases hc : cls T ops[i] = 3
    · rw [if_pos hc]
      by_cases hk : k ≤ epF T ops i
      · have ht := h i _ (by omega) ho hc hk
        rw [hc, ht]
        show epF T ops i + 1 - k ≤ Nat.succ (freeB m (preF T ops i) i)
        omega
      · omega
    · rw [if_neg hc]
      have : Nat.beq (cls T ops[i]) 3 = false := by
        cases hb : Nat.beq (cls T ops[i]) 3 with
        | false => rfl
        | true => exact absurd (beq_iff.1 hb) hc
      rw [this]
      exact ih
end
end Go.Proofs.YtjkbljgolcdhhaaGreatDoor.Fw.Cm

/- Drawn regions: what the evaluator has seen of each operation. -/
namespace Go.Proofs.YtjkbljgolcdhhaaGreatDoor.Fw.Cm
open Go Go.RowKit Go.WideShapes
variable {P : Program} {T : TT}
/-- the temporaries of a list hold what the environment says -/
def Va (κ : Kap) (e : E) (ts : List Nat) (tmps : Array Value) : Prop := κ.x 0 = some (#[], #[]) ∧ ∀ t ∈ ts, WR κ (getE t e) (tmps.getD t undef)
def PF (P : Program) (o : Oper) (e : E) (v : W) : Prop := ∀ {B : Nat} {κ : Kap} {a : Act} {w : World} {h : H} {top : Nat}, HR B κ h top w → Va κ e (opTs o) a.tmps → ∃ u, (execOp a.eval o).run P w = .ok (.value u) w ∧ WR κ v u
def LF (P : Program) (o : Oper) (e : E) (v : W) (h : H) (top : Nat) : Prop := ∀ {B : Nat} {κ : Kap} {a : Act} {w : World}, HR B κ h top w → Va κ e (opTs o) a.tmps → ∃ u, (execOp a.eval o).run P w = .ok (.value u) w ∧ WR κ v u
def AF (P : Program) (o : Oper) (e : E) (v : W) (top : Nat) (ob : Ob) : Prop := ∀ {κ : Kap} {a : Act} {w : World}, Va κ e (opTs o) a.tmps → Mkd P o v top κ a w ob
def BF (P : Program) (o : Oper) (e : E) (v : W) (h : H) (top : Nat) (h' : H) (top' : Nat) : Prop := ∀ {B A : Nat} {κ : Kap} {rnd : Option Nat} {N : Nat} {a : Act} {w : World}, HR B κ h top w → B ≤ w.heap.size → A ≤ w.heap.size → a.tmps.size = N → N ≤ 500 → Va κ e (opTs o) a.tmps →
  DR P A κ w (getE 511 e) a.defers → RR κ (getE 510 e) rnd → ∀ (next : Act → World → Prop) (Q : Exit → Act → World → Prop),
  (∀ κ' u w', Ext κ κ' w → Frm κ w w' → HR B κ' h' top' w' → WR κ' v u → next (a.put o.dst u) w') → o.uponIn (Fx rnd) 0 P a next Q ((o.semAt (Fx rnd).round a.eval).run P w)
/-- what a guard says -/
def GuardIs (ops : Array Oper) (o : Oper) (e : E) (b : Bool) : Prop := match o.guard with
  | none => b = true
  | some q => ∃ o' t, ops[q.1]? = some o' ∧ o'.dst = some t ∧ t < 510 ∧ ((∃ x, getE t e = .o (.b x) ∧ b = (x == q.2)) ∨ (getE t e = .tn ∧ b = false))
theorem GuardIs.one {ops : Array Oper} {o : Oper} {e e' : E} {b b' : Bool} (h : GuardIs ops o e b) (h' : GuardIs ops o e' b') (he : ∀ t ∈ gTs ops.toList o, getE t e' = getE t e) : b = b' := by
  unfold GuardIs at h h'
  unfold gTs at he
  cases hg : o.guard with
  | none => rw [hg] at h h'; rw [h, h']
  | some q =>
    rw [hg] at h h' he
    obtain ⟨o1, t, h1, h2, h3, h4⟩ := h
    obtain ⟨o2, t2, k1, k2, k3, k4⟩ := h'
    rw [h1] at k1; injection k1 with k1; subst k1
    rw [h2] at k2; injection k2 with k2; subst k2
    have ht := he t (by
      simp only [nth_eq, Array.getElem?_toList, h1, h2]
      exact List.mem_cons_self ..)
    rw [ht] at k4
    rcases h4 with ⟨x, e1, e2⟩ | ⟨e1, e2⟩ <;> rcases k4 with ⟨x', f1, f2⟩ | ⟨f1, f2⟩
    · rw [e1] at f1; injection f1 with f1; injection f1 with f1; subst f1; rw [e2, f2]
    · rw [e1] at f1; cases f1
    · rw [e1] at f1; cases f1
    · rw [e2, f2]
theorem guard_wanted {ops : Array Oper} {o : Oper} {e : E} {b : Bool} (h : GuardIs ops o e b) {κ : Kap} {tmps : Array Value} (hv : ∀ t ∈ gTs ops.toList o, WR κ (getE t e) (tmps.getD t undef)) : Region.wanted o (yielded ops tmps) = b := by
  unfold GuardIs at h
  unfold Region.wanted
  unfold gTs at hv
  cases hg : o.guard with
  | none => rw [hg] at h; rw [h]
  | some q =>
    rw [hg] at h hv
    obtain ⟨o1, t, h1, h2, h3, h4⟩ := h
    have ht := hv t (by
      simp only [nth_eq, Array.getElem?_toList, h1, h2]
      exact List.mem_cons_self ..)
    simp only
    rcases h4 with ⟨x, e1, e2⟩ | ⟨e1, e2⟩
    · rw [e1] at ht
      have h5 : tmps.getD t undef = .bool x := ht
      have : yielded ops tmps q.1 = some x := by
        unfold yielded
        simp only [h1, h2, Option.bind_some]
        rw [Array.getD_eq_getD_getElem?] at h5
        cases hq : tmps[t]? with
        | none => rw [hq] at h5; cases h5
        | some v => rw [hq] at h5; simp at h5; subst h5; rfl
      rw [this, e2]
      cases x <;> cases q.2 <;> rfl
    · rw [e1] at ht
      have h5 : tmps.getD t undef = .tuple #[] := WR.tn.1 ht
      have : yielded ops tmps q.1 = none := by
        unfold yielded
        simp only [h1, h2, Option.bind_some]
        rw [Array.getD_eq_getD_getElem?] at h5
        cases hq : tmps[t]? with
        | none => rfl
        | some v => rw [hq] at h5; simp at h5; subst h5; rfl
      rw [this, e2]; rfl
/-- where the result goes -/
def EnvIs (N : Nat) (o : Oper) (v : W) (e e' : E) : Prop := (∀ t, o.dst = some t → t < N) ∧ ∀ t, t < 512 → getE t e' = if o.dst = some t then v else getE t e
structure S4 where
  e : E
  h : H
  t : Nat
  hs : HL
noncomputable def HL.list (l : HL) : List (H × Nat) := HL.rec [] (fun h t _ ih => (h, t) :: ih) l
def Bls (o : Oper) (top : Nat) (e : E) : Prop := ∀ t ∈ opTs o, blW top (getE t e) = true
/-- an operation that looks was asked again -/
def RecOk (P : Program) (T : TT) (ops : Array Oper) (i : Nat) (o : Oper) (e : E) (h : H) (top : Nat) : Prop := ∀ j o', j < i → ops[j]? = some o' → cls T o' = 2 → tb (mkF T ops i o) j = false →
  GuardIs ops o' e false ∨ (GuardIs ops o' e true ∧ ∃ v', LF P o' e v' h top ∧ ∀ t, o'.dst = some t → v' = getE t e)
/-- a store, at whatever heap that has the same object -/
def SF (P : Program) (o : Oper) (e : E) (ob : Nat) (x0 x1 : Ob) : Prop := ∀ {B : Nat} {κ : Kap} {a : Act} {w : World} {h : H} {top : Nat}, HR B κ h top w → B ≤ w.heap.size → obj ob h = x0 → Va κ e (opTs o) a.tmps →
  ∃ κ' u w' nx, (execOp a.eval o).run P w = .ok nx w' ∧ (nx = .value u ∨ (nx = .skip ∧ u = undef)) ∧ HR B κ' (seto ob x1 h) top w' ∧ Ext κ κ' w ∧ Frm κ w w' ∧ WR κ' .tn u
def SFact (P : Program) (o : Oper) (s s' : S4) : Prop := ∀ ty a v, o.op = .store ty a v → ∃ ob g off x1 f, evb a = .mk f ∧ f s.e = .o (.p ob g off) ∧ s'.h = seto ob x1 s.h ∧ s'.t = s.t ∧ SF P o s.e ob (obj ob s.h) x1
inductive Stp (P : Program) (T : TT) (ops : Array Oper) (N : Nat) (i : Nat) (o : Oper) (s s' : S4) : Prop
  | skip (hc : cls T o ≠ 3) (hg : GuardIs ops o s.e false) (he : EnvIs N o .tn s.e s'.e) (hh : s'.h = s.h) (ht : s'.t = s.t) (hs : s'.hs = s.hs)
  | pure (v : W) (hd : ∀ c, o.op ≠ .defer c) (hc : cls T o = 0) (hg : GuardIs ops o s.e true) (he : EnvIs N o v s.e s'.e) (hh : s'.h = s.h) (ht : s'.t = s.t) (hs : s'.hs = s.hs) (hf : PF P o s.e v)
  | alloc (v : W) (ob : Ob) (hd : ∀ c, o.op ≠ .defer c) (hc : cls T o = 1) (hg : GuardIs ops o s.e true) (he : EnvIs N o v s.e s'.e) (hh : s'.h = seto s.t ob s.h) (ht : s'.t = s.t + 1) (hs : s'.hs = s.hs) (hb : Bls o s.t s.e) (hf : AF P o s.e v s.t ob)
  | look (v : W) (hd : ∀ c, o.op ≠ .defer c) (hc : cls T o = 2) (hg : GuardIs ops o s.e true) (he : EnvIs N o v s.e s'.e) (hh : s'.h = s.h) (ht : s'.t = s.t) (hs : s'.hs = s.hs)
      (hb : ∃ p, s.hs.list[freeB (mkF T ops i o) (preF T ops i) i]? = some p ∧ Bls o p.2 s.e) (hf : ∀ d p, d ≤ freeB (mkF T ops i o) (preF T ops i) i → s.hs.list[d]? = some p → LF P o s.e v p.1 p.2)
  | bigskip (hc : cls T o = 3) (hg : GuardIs ops o s.e false) (he : EnvIs N o .tn s.e s'.e) (hh : s'.h = s.h) (ht : s'.t = s.t) (hs : s'.hs = .cons s'.h s'.t s.hs) (hr : RecOk P T ops i o s.e s'.h s'.t)
  | big (v : W) (hc : cls T o = 3) (hg : GuardIs ops o s.e true) (he : EnvIs N o v s.e s'.e) (ht : s.t ≤ s'.t) (hs : s'.hs = .cons s'.h s'.t s.hs) (hr : RecOk P T ops i o s.e s'.h s'.t) (hb : Bls o s.t s.e) (hf : BF P o s.e v s.h s.t s'.h s'.t) (hsf : SFact P o s s')

/-! ### Masks -/
theorem opTs_mem {o : Oper} {t : Nat} : t ∈ opTs o ↔ .tmp t ∈ o.op.operands := by
  unfold opTs
  have : ∀ (l : List Operand), t ∈ tmpL l ↔ .tmp t ∈ l := by
    intro l
    induction l with
    | nil => simp [tmpL]
    | cons x l ih =>
      cases x with
      | tmp t' =>
        have e : tmpL (.tmp t' :: l) = t' :: tmpL l := rfl
        rw [e, List.mem_cons, List.mem_cons, ih]
        simp
      | _ => exact ⟨fun h => List.mem_cons_of_mem _ (ih.1 h), fun h => by
          rcases List.mem_cons.1 h with h | h
          · cases h
          · exact ih.2 h⟩
  rw [this]; simp
/-- the environment of an operation: what it looks at, and nothing else -/
noncomputable def Mk (o : Oper) (e : E) : E := maskE (fun t => getE t e) (opTs o) (baseE e)
theorem mk_congr (hT : T.okB P = true) {o : Oper} {f : Op'} (h : opB P T o = .mk f) {e : E} (hlt : ∀ t ∈ opTs o, t < 510) : ∀ rc hh top K, f rc e hh top K = f rc (Mk o e) hh top K :=
  op_congr hT h fun x hx => agr_mask (val := fun t => getE t e) (fun t ht => Nat.lt_trans (hlt t ht) (by decide)) fun t hxt => ⟨opTs_mem.2 (by rw [← hxt]; exact hx), rfl⟩
theorem mk_er {o : Oper} {e : E} {κ : Kap} {tmps : Array Value} (hlt : ∀ t ∈ opTs o, t < 510) (hv : Va κ e (opTs o) tmps) : ER κ (Mk o e) tmps := er_mask hv.1 hlt hv.2
theorem opB_nodefer {o : Oper} {f : Op'} (h : opB P T o = .mk f) : ∀ c, o.op ≠ .defer c := by
  intro c hd
  obtain ⟨dst, op, ty, pos, after, guard⟩ := o
  have hd : op = _ := hd
  subst hd
  cases h
theorem opTs_sub {ops : Array Oper} {o : Oper} : ∀ t ∈ opTs o, t ∈ gTs ops.toList o := by
  intro t ht
  unfold gTs
  split
  · exact ht
  · split
    · split
      · exact List.mem_cons_of_mem _ ht
      · exact ht
    · exact ht
theorem dstB_env {N : Nat} (hN : N ≤ 500) {o : Oper} {s : W → E → E} (h : dstB N o.dst = .mk s) (v : W) (e : E) : EnvIs N o v e (s v e) := by
  unfold EnvIs
  cases hd : o.dst with
  | none =>
    rw [hd] at h
    injection h with h; subst h
    exact ⟨fun t ht => (by cases ht), fun t _ => by simp⟩
  | some t =>
    rw [hd] at h
    unfold dstB at h
    simp only at h
    split at h
    · rename_i hb
      rw [setB_setE h]
      have hlt : @LT.lt Nat _ t N := blt_iff.1 hb
      refine ⟨fun t' ht' => by injection ht' with ht'; subst ht'; exact hlt, fun t' ht' => ?_⟩
      have h512 : @LT.lt Nat _ t 512 := by
        have : N ≤ 500 := hN
        exact Nat.lt_of_lt_of_le hlt (Nat.le_trans this (by decide))
      rw [getE_setE ht' h512]
      by_cases he : t' = t
      · subst he; simp
      · rw [if_neg he, if_neg (fun h => he (by injection h with h; exact h.symm))]
    · cases h
theorem grdB_ok {ops : Array Oper} {o : Oper} {run skip F : Rc → E → H → Nat → HL → KD → R} (h : grdB ops.toList o run skip = .mk F) {rc : Rc} {e : E} {hh : H} {top : Nat} {hs : HL} {K : KD} {r : R} (hr : Good r) (he : F rc e hh top hs K = r) :
    (GuardIs ops o e true ∧ run rc e hh top hs K = r) ∨ (GuardIs ops o e false ∧ skip rc e hh top hs K = r) := by
  unfold grdB at h
  unfold GuardIs
  cases hg : o.guard with
  | none =>
    rw [hg] at h
    injection h with h; subst h
    exact .inl ⟨rfl, he⟩
  | some q =>
    rw [hg] at h
    simp only at h
    cases hc : gdst ops.toList q.1 with
    | no => rw [hc] at h; cases h
    | mk c =>
      rw [hc] at h
      injection h with h; subst h
      obtain ⟨o', t, g1, g2, g3, rfl⟩ := gdst_ok hc
      rcases guardK_ok he hr with ⟨b, hb, hk⟩ | ⟨hb, hk⟩
      · by_cases hq : b = q.2
        · rw [if_pos hq] at hk
          exact .inl ⟨⟨o', t, g1, g2, g3, .inl ⟨b, hb, by rw [hq]; cases q.2 <;> rfl⟩⟩, hk⟩
        · rw [if_neg hq] at hk
          exact .inr ⟨⟨o', t, g1, g2, g3, .inl ⟨b, hb, by
            cases hb2 : (b == q.2) with
            | false => rfl
            | true => exact absurd (by simpa using hb2) hq⟩⟩, hk⟩
      · exact .inr ⟨⟨o', t, g1, g2, g3, .inr ⟨hb, rfl⟩⟩, hk⟩
theorem blB_ok : ∀ {ts : List Nat} {bl : Nat → E → Bool}, blB ts = .mk bl → ∀ top e, bl top e = true → ∀ t ∈ ts, blW top (getE t e) = true
  | [], bl, h, top, e, _, t, ht => by cases ht
  | t0 :: ts, bl, h, top, e, hb, t, ht => by
    have h' : BB.rec (motive := fun _ => BB) (fun q => GB.rec (motive := fun _ => BB) (fun g => .mk fun top e => and' (blW top (g e)) (q top e)) (getB t0)) (blB ts) = BB.mk bl := h
    cases hq : blB ts with
    | mk q =>
      rw [hq] at h'
      cases hg : getB t0 with
      | mk g =>
        rw [hg] at h'
        injection h' with h'; subst h'
        have hg' : g = getE t0 := by unfold getE; rw [hg]; rfl
        obtain ⟨h1, h2⟩ := and'_iff.1 hb
        rcases List.mem_cons.1 ht with rfl | ht
        · rw [← hg']; exact h1
        · exact blB_ok hq top e h2 t ht
theorem lookN_ok {o : Oper} {f : Op'} {bl : Nat → E → Bool} (hbl : blB (opTs o) = .mk bl) {rc : Rc} {e : E} (hf : ∀ {h : H} {top : Nat} {K : K} {r : R}, Good r → f rc e h top K = r → ∃ v, K v h top = r ∧ LF P o e v h top) : ∀ (d : Nat) {hs : HL} {K : W → R} {r : R}, Good r → lookN f bl d rc e hs K = r →
    ∃ v, K v = r ∧ (∃ p, hs.list[d]? = some p ∧ Bls o p.2 e) ∧ ∀ d' p, d' ≤ d → hs.list[d']? = some p → LF P o e v p.1 p.2
  | 0, .nil, K, r, hr, he => by have he : R.bad 91 = r := he; subst he; exact hr.bad
  | 0, .cons h top q, K, r, hr, he => by
    have he : gd (bl top e) (f rc e h top fun v _ _ => K v) = r := he
    obtain ⟨h1, he⟩ := gd_ok he hr
    obtain ⟨v, h2, h3⟩ := hf hr he
    refine ⟨v, h2, ⟨(h, top), rfl, blB_ok hbl top e h1⟩, fun d' p hd hp => ?_⟩
    have : d' = 0 := by omega
    subst this
    injection hp with hp; subst hp; exact @h3
  | d + 1, .nil, K, r, hr, he => by have he : R.bad 91 = r := he; subst he; exact hr.bad
  | d + 1, .cons h top q, K, r, hr, he => by
    have he : (f rc e h top fun v _ _ => lookN f bl d rc e q fun v' => gd (eqW v v') (K v)) = r := he
    obtain ⟨v, he, h3⟩ := hf hr he
    obtain ⟨v', he, h4, h5⟩ := lookN_ok hbl hf d hr he
    obtain ⟨h6, h7⟩ := gd_ok he hr
    have := eqW_ok h6
    subst this
    refine ⟨v, h7, h4, fun d' p hd hp => ?_⟩
    cases d' with
    | zero => injection hp with hp; subst hp; exact @h3
    | succ d' => exact h5 d' p (by omega) hp
theorem look_lf (hT : T.okB P = true) {o : Oper} {f : Op'} (h : opB P T o = .mk f) (hp : lookO o = true) (hlt : ∀ t ∈ opTs o, t < 510) {rc : Rc} {e : E} {hh : H} {top : Nat} {K : K} {r : R} (hr : Good r) (he : f rc e hh top K = r) : ∃ v, K v hh top = r ∧ LF P o e v hh top := by
  rw [mk_congr hT h hlt] at he
  obtain ⟨v, h1, h2⟩ := (look_ok hT h hp).out hr he
  exact ⟨v, h1, fun {B κ a w} hH hv => h2 hH (mk_er hlt hv)⟩
theorem oStore_at {sz : Nat} {fa fv : E → W} {rc : Rc} {e : E} {h : H} {top : Nat} {K : K} {r : R} (hr : Good r) (he : oStore sz fa fv rc e h top K = r) : ∃ ob g off x1, fa e = .o (.p ob g off) ∧ K .tn (seto ob x1 h) top = r ∧
    ∀ (h' : H) (top' : Nat) (K' : Cm.K), obj ob h' = obj ob h → oStore sz fa fv rc e h' top' K' = K' .tn (seto ob x1 h') top' := by
  obtain ⟨v, h1, he⟩ := W.v_ok he hr
  replace he := V.ptr_ok he hr; obtain ⟨o, q, off, rfl, he⟩ := he
  have key : ∀ (cs : L), (∀ (h : H) (top : Nat) (K : Cm.K), oStore sz fa fv rc e h top K = gd (Nat.beq cs.len sz) ((obj o h).cellW q (off + sz) fun l => K .tn (seto o (.c q q (cs.put off l)) h) top)) →
      gd (Nat.beq cs.len sz) ((obj o h).cellW q (off + sz) fun l => K .tn (seto o (.c q q (cs.put off l)) h) top) = r → ∃ ob g off' x1, fa e = .o (.p ob g off') ∧ K .tn (seto ob x1 h) top = r ∧
      ∀ (h' : H) (top' : Nat) (K' : Cm.K), obj ob h' = obj ob h → oStore sz fa fv rc e h' top' K' = K' .tn (seto ob x1 h') top' := by
    intro cs hcs he
    obtain ⟨g1, he⟩ := gd_ok he hr
    obtain ⟨lo, l, hob, hlo, hhi, he⟩ := Ob.cellW_ok he hr
    refine ⟨o, q, off, _, h1, he, fun h' top' K' ho => ?_⟩
    rw [hcs, g1, ho, hob]
    show gd (Nat.ble lo q) (gd (Nat.beq q q) (gd (Nat.ble (off + sz) q) _)) = _
    rw [Nat.ble_eq_true_of_le hlo, Nat.ble_eq_true_of_le hhi, Nat.beq_refl]; rfl
  cases hv : fv e with
  | o x => exact key (.cons x .nil) (fun h top K => by simp only [oStore, h1, hv]; rfl) (by rw [hv] at he; exact he)
  | ag l => exact key l (fun h top K => by simp only [oStore, h1, hv]; rfl) (by rw [hv] at he; exact he)
  | tn => rw [hv] at he; subst he; exact hr.bad
  | tu _ _ => rw [hv] at he; subst he; exact hr.bad
  | un => rw [hv] at he; subst he; exact hr.bad
theorem store_sf (hT : T.okB P = true) {o : Oper} {f : Op'} (hf : opB P T o = .mk f) {ty : TypeId} {x y : Operand} (hop : o.op = .store ty x y) (hlt : ∀ t ∈ opTs o, t < 510) {rc : Rc} {e : E} {hh : H} {top : Nat} {K : K} {r : R} (hr : Good r) (he : f rc e hh top K = r) :
    ∃ ob g off x1 fa, evb x = .mk fa ∧ fa e = .o (.p ob g off) ∧ K .tn (seto ob x1 hh) top = r ∧ SF P o e ob (obj ob hh) x1 := by
  have hS : OpS P o f := op_ok hT hf (by rw [hop]; rfl)
  obtain ⟨dst, op, tyo, pos, after, guard⟩ := o
  have hop : op = _ := hop
  subst hop
  have hf0 := hf
  unfold opB at hf0; simp only at hf0
  obtain ⟨ti, i, d, z, F, hf0⟩ := tB_ok hT hf0
  obtain ⟨fa, h1, hf0⟩ := oB_ok hf0
  obtain ⟨fv, h2, hf0⟩ := oB_ok hf0
  injection hf0 with hf0
  subst hf0
  obtain ⟨ob, g, off, x1, k1, k2, k3⟩ := oStore_at hr he
  refine ⟨ob, g, off, x1, fa, h1, k1, k2, fun {B κ a w h top'} hH hB hob hv => ?_⟩
  have hgood : Good (.fin .tn (seto ob x1 h) top') := by intro _ h; cases h
  have e1 : oStore ti.sz fa fv rc (Mk ⟨dst, .store ty x y, tyo, pos, after, guard⟩ e) h top' (fun w h t => .fin w h t) = .fin .tn (seto ob x1 h) top' := by
    rw [← mk_congr hT hf hlt]
    exact k3 h top' _ hob
  obtain ⟨v, h', top'', q1, _, q2⟩ := hS.out hgood e1
  injection q1 with q1 q3 q4
  subst q1; subst q3; subst q4
  obtain ⟨κ', u, w', nx, p1, p2, p3, p4, p5, p6⟩ := q2 hH hB (mk_er hlt hv)
  exact ⟨κ', u, w', nx, p1, p2, p3, p4, p5, p6⟩
theorem SF.bf {o : Oper} {e : E} {ob : Nat} {x1 : Ob} {h : H} {top : Nat} (hd : ∀ c, o.op ≠ .defer c) (hs : SF P o e ob (obj ob h) x1) : BF P o e .tn h top (seto ob x1 h) top := by
  intro B A κ rnd N a w hH hB hA hn hN hv hdr hrr next Q hnext
  obtain ⟨κ', u, w', nx, p1, p2, p3, p4, p5, p6⟩ := hs hH hB rfl hv
  rw [Oper.semAt_eq _ _ _ hd, p1]
  rcases p2 with rfl | ⟨rfl, rfl⟩
  · rw [Oper.uponIn_value]; exact hnext κ' u w' p4 p5 p3 p6
  · rw [Oper.uponIn_skip]; exact hnext κ' undef w' p4 p5 p3 p6
theorem cls_0 {o : Oper} (h : cls T o = 0) : pureO T o = true := by
  unfold cls at h
  split at h <;> first | assumption | cases h
theorem cls_1 {o : Oper} (h : cls T o = 1) : allocO o = true := by
  unfold cls at h
  split at h <;> first | assumption | cases h
theorem cls_2 {o : Oper} (h : cls T o = 2) : lookO o = true := by
  unfold cls at h
  split at h <;> first | assumption | cases h
theorem getB_getE {t : Nat} {g : E → W} (h : getB t = .mk g) : g = getE t := by unfold getE; rw [h]; rfl
theorem rkB_ok (hT : T.okB P = true) {ops : Array Oper} {o : Oper} (h2 : cls T o = 2) (hlt : ∀ t ∈ opTs o, t < 510) {q : Rc → E → H → Nat → R → R} (h : rkB P T ops.toList o = .mk q) {rc : Rc} {e : E} {hh : H} {top : Nat} {k r : R} (hr : Good r) (he : q rc e hh top k = r) :
    k = r ∧ (GuardIs ops o e false ∨ (GuardIs ops o e true ∧ ∃ v', LF P o e v' hh top ∧ ∀ t, o.dst = some t → v' = getE t e)) := by
  unfold rkB at h
  cases hf : opB P T o with
  | no => rw [hf] at h; cases h
  | mk f =>
    rw [hf] at h
    replace h : RK.rec (motive := fun _ => RK) (fun q => rk1 ops.toList o.guard q) RK.no (rk0 o.dst f) = RK.mk q := h
    have base : ∀ {q0 : Rc → E → H → Nat → R → R}, rk0 o.dst f = .mk q0 → q0 rc e hh top k = r → k = r ∧ ∃ v', LF P o e v' hh top ∧ ∀ t, o.dst = some t → v' = getE t e := by
      intro q0 hq he
      unfold rk0 at hq
      cases hd : o.dst with
      | none =>
        rw [hd] at hq
        injection hq with hq; subst hq
        obtain ⟨v, h3, h4⟩ := look_lf hT hf (cls_2 h2) hlt hr he
        exact ⟨h3, v, h4, fun t ht => by cases ht⟩
      | some t =>
        rw [hd] at hq
        have hq : GB.rec (motive := fun _ => RK) (fun g => .mk fun rc e h top k => f rc e h top fun v _ _ => gd (eqW v (g e)) k) (getB t) = RK.mk q0 := hq
        cases hg : getB t with
        | mk g =>
          rw [hg] at hq
          injection hq with hq; subst hq
          obtain ⟨v, h3, h4⟩ := look_lf hT hf (cls_2 h2) hlt hr he
          obtain ⟨h5, h3⟩ := gd_ok h3 hr
          refine ⟨h3, v, h4, fun t' ht' => ?_⟩
          injection ht' with ht'; subst ht'
          rw [← getB_getE hg]; exact eqW_ok h5
    cases hq : rk0 o.dst f with
    | no => rw [hq] at h; cases h
    | mk q0 =>
      rw [hq] at h
      have h : rk1 ops.toList o.guard q0 = .mk q := h
      unfold rk1 at h
      unfold GuardIs
      cases hg : o.guard with
      | none =>
        rw [hg] at h
        injection h with h; subst h
        obtain ⟨h3, h4⟩ := base hq he
        exact ⟨h3, .inr ⟨rfl, h4⟩⟩
      | some g =>
        rw [hg] at h
        simp only at h
        cases hc : gdst ops.toList g.1 with
        | no => rw [hc] at h; cases h
        | mk c =>
          rw [hc] at h
          injection h with h; subst h
          obtain ⟨o', t, g1, g2, g3, rfl⟩ := gdst_ok hc
          rcases guardK_ok he hr with ⟨b, hb, hk⟩ | ⟨hb, hk⟩
          · by_cases hq2 : b = g.2
            · rw [if_pos hq2] at hk
              obtain ⟨h3, h4⟩ := base hq hk
              exact ⟨h3, .inr ⟨⟨o', t, g1, g2, g3, .inl ⟨b, hb, by rw [hq2]; cases g.2 <;> rfl⟩⟩, h4⟩⟩
            · rw [if_neg hq2] at hk
              exact ⟨hk, .inl ⟨o', t, g1, g2, g3, .inl ⟨b, hb, by
                cases hb2 : (b == g.2) with
                | false => rfl
                | true => exact absurd (by simpa using hb2) hq2⟩⟩⟩
          · exact ⟨hk, .inl ⟨o', t, g1, g2, g3, .inr ⟨hb, rfl⟩⟩⟩
theorem rksB_ok (hT : T.okB P = true) {ops : Array Oper} {m : Nat} {rc : Rc} {e : E} {hh : H} {top : Nat} : ∀ {i : Nat} {q : Rc → E → H → Nat → R → R}, i ≤ ops.size → (∀ j o, j < i → ops[j]? = some o → ∀ t ∈ gTs ops.toList o, t < 510) → rksB P T ops.toList m (preF T ops i) i = .mk q → ∀ {k r : R}, Good r → q rc e hh top k = r →
    k = r ∧ ∀ j o', j < i → ops[j]? = some o' → cls T o' = 2 → tb m j = false → GuardIs ops o' e false ∨ (GuardIs ops o' e true ∧ ∃ v', LF P o' e v' hh top ∧ ∀ t, o'.dst = some t → v' = getE t e)
  | 0, q, _, _, h, k, r, hr, he => by
    have h : RK.mk (fun _ _ _ _ k => k) = RK.mk q := h
    injection h with h; subst h
    exact ⟨he, fun j o' hj => by omega⟩
  | i + 1, q, hi, hlt, h, k, r, hr, he => by
    have ho : ops[i]? = some ops[i] := Array.getElem?_eq_getElem (by omega)
    rw [preF_succ ho] at h
    have h : (match and' (Nat.beq (cls T ops[i]) 2) (not' (tb m i)) with
      | true => RK.rec (motive := fun _ => RK) (fun q => RK.rec (motive := fun _ => RK) (fun q' => .mk fun rc e h top k => q rc e h top (q' rc e h top k)) .no (rksB P T ops.toList m (preF T ops i) i)) .no (rkB P T ops.toList ops[i])
      | false => rksB P T ops.toList m (preF T ops i) i) = .mk q := h
    split at h
    · rename_i hc
      obtain ⟨c1, c2⟩ := and'_iff.1 hc
      have c1 := beq_iff.1 c1
      cases h1 : rkB P T ops.toList ops[i] with
      | no => rw [h1] at h; cases h
      | mk q1 =>
        rw [h1] at h
        cases h2 : rksB P T ops.toList m (preF T ops i) i with
        | no => rw [h2] at h; cases h
        | mk q2 =>
          rw [h2] at h
          injection h with h; subst h
          obtain ⟨he, k1⟩ := rkB_ok hT c1 (fun t ht => hlt i _ (by omega) ho t (opTs_sub t ht)) h1 hr he
          obtain ⟨he, k2⟩ := rksB_ok hT (by omega) (fun j o hj => hlt j o (by omega)) h2 hr he
          refine ⟨he, fun j o' hj ho' hc' ht => ?_⟩
          by_cases hji : j = i
          · subst hji; rw [ho] at ho'; injection ho' with ho'; subst ho'; exact k1
          · exact k2 j o' (by omega) ho' hc' ht
    · rename_i hc
      obtain ⟨he, k2⟩ := rksB_ok hT (by omega) (fun j o hj => hlt j o (by omega)) h hr he
      refine ⟨he, fun j o' hj ho' hc' ht => ?_⟩
      by_cases hji : j = i
      · subst hji; rw [ho] at ho'; injection ho' with ho'; subst ho'
        rw [hc', ht] at hc; cases hc
      · exact k2 j o' (by omega) ho' hc' ht
end Go.Proofs.YtjkbljgolcdhhaaGreatDoor.Fw.Cm

/- Drawn regions: what the evaluator has seen of a whole region. -/
namespace Go.Proofs.YtjkbljgolcdhhaaGreatDoor.Fw.Cm
open Go Go.RowKit Go.WideShapes
variable {P : Program} {T : TT}
theorem St.masked {B A : Nat} {κ : Kap} {h : H} {top : Nat} {w : World} {rnd : Option Nat} {N : Nat} {a : Act} {o : Oper} {e : E} (hlt : ∀ t ∈ opTs o, t < 510) (hH : HR B κ h top w) (hB : B ≤ w.heap.size) (hA : A ≤ w.heap.size) (hn : a.tmps.size = N) (hN : N ≤ 500)
    (hv : Va κ e (opTs o) a.tmps) (hd : DR P A κ w (getE 511 e) a.defers) (hr : RR κ (getE 510 e) rnd) : St P B A κ (Mk o e) h top rnd N a w := by
  refine ⟨hH, hB, hA, hn, hN, mk_er hlt hv, ?_, ?_⟩
  · unfold Mk; rw [mask_slots hlt (by omega) (by omega)]; exact hd
  · unfold Mk; rw [mask_slots hlt (by omega) (by omega)]; exact hr
theorem goD_ok (hT : T.okB P = true) {ops : Array Oper} {N sx : Nat} (hN : N ≤ 500) {i : Nat} {o : Oper} (ho : ops[i]? = some o) (hlt : ∀ j o, j < i → ops[j]? = some o → ∀ t ∈ gTs ops.toList o, t < 510) {F : Rc → E → H → Nat → HL → KD → R}
    (h : goD P T N ops.toList sx i (preF T ops i) (mkF T ops i o) (gTs ops.toList o) (cls T o) o = .mk F) :
    statB sx i (preF T ops i) (mkF T ops i o) (gTs ops.toList o) (cls T o) o = true ∧
    ∀ {rc : Rc} {e : E} {hh : H} {top : Nat} {hs : HL} {K : KD} {r : R}, RcS P rc → Good r → F rc e hh top hs K = r → ∃ s' : S4, K s'.e s'.h s'.t s'.hs = r ∧ Stp P T ops N i o ⟨e, hh, top, hs⟩ s' := by
  have hi : i < ops.size := (Array.getElem?_eq_some_iff.1 ho).1
  unfold goD at h
  split at h
  · cases h
  rename_i hst
  refine ⟨hst, ?_⟩
  have hlo : ∀ t ∈ opTs o, t < 510 := fun t ht => below510_ok (and'_iff.1 (and'_iff.1 (and'_iff.1 hst).2).2).1 t (opTs_sub t ht)
  cases hf : opB P T o with
  | no => rw [hf] at h; cases h
  | mk f =>
  rw [hf] at h
  cases hs : dstB N o.dst with
  | no => rw [hs] at h; cases h
  | mk s =>
  rw [hs] at h
  cases hb : blB (opTs o) with
  | mk bl =>
  rw [hb] at h
  have h : clsB P T ops.toList i (preF T ops i) (mkF T ops i o) (cls T o) o f s bl = .mk F := h
  have hnd := opB_nodefer hf
  unfold clsB at h
  split at h
  · rename_i hc
    intro rc e hh top hs' K r hrc hr he
    rcases grdB_ok h hr he with ⟨hg, he⟩ | ⟨hg, he⟩
    · rw [mk_congr hT hf hlo] at he
      obtain ⟨v, h1, h2⟩ := (pure_ok hT hf (cls_0 hc)).out hr he
      exact ⟨⟨s v e, hh, top, hs'⟩, h1, .pure v hnd hc hg (dstB_env hN hs v e) rfl rfl rfl fun {B κ a w h top} hH hv => h2 hH (mk_er hlo hv)⟩
    · exact ⟨⟨s .tn e, hh, top, hs'⟩, he, .skip (by rw [hc]; decide) hg (dstB_env hN hs .tn e) rfl rfl rfl⟩
  · rename_i hc
    intro rc e hh top hs' K r hrc hr he
    rcases grdB_ok h hr he with ⟨hg, he⟩ | ⟨hg, he⟩
    · obtain ⟨hbl, he⟩ := gd_ok he hr
      rw [mk_congr hT hf hlo] at he
      obtain ⟨v, ob, h1, h2⟩ := (alloc_ok hT hf (cls_1 hc)).out hr he
      exact ⟨⟨s v e, _, _, hs'⟩, h1, .alloc v ob hnd hc hg (dstB_env hN hs v e) rfl rfl rfl (blB_ok hb top e hbl) fun {κ a w} hv => h2 (mk_er hlo hv)⟩
    · exact ⟨⟨s .tn e, hh, top, hs'⟩, he, .skip (by rw [hc]; decide) hg (dstB_env hN hs .tn e) rfl rfl rfl⟩
  · rename_i hc
    intro rc e hh top hs' K r hrc hr he
    rcases grdB_ok h hr he with ⟨hg, he⟩ | ⟨hg, he⟩
    · obtain ⟨v, h1, h2, h3⟩ := lookN_ok hb (fun hr he => look_lf hT hf (cls_2 hc) hlo hr he) _ hr he
      exact ⟨⟨s v e, hh, top, hs'⟩, h1, .look v hnd hc hg (dstB_env hN hs v e) rfl rfl rfl h2 h3⟩
    · exact ⟨⟨s .tn e, hh, top, hs'⟩, he, .skip (by rw [hc]; decide) hg (dstB_env hN hs .tn e) rfl rfl rfl⟩
  · rename_i h0 h1 h2
    have hc : cls T o = 3 := by
      unfold cls at h0 h1 h2 ⊢
      split <;> first | rfl | (rename_i e1 e2 e3; exfalso; simp_all; done) | (exfalso; simp_all; done)
    cases hq : rksB P T ops.toList (mkF T ops i o) (preF T ops i) i with
    | no => rw [hq] at h; cases h
    | mk q =>
      rw [hq] at h
      intro rc e hh top hs' K r hrc hr he
      rcases grdB_ok h hr he with ⟨hg, he⟩ | ⟨hg, he⟩
      · obtain ⟨hbl, he⟩ := gd_ok he hr
        by_cases hst' : ∃ ty x y, o.op = .store ty x y
        · obtain ⟨ty, x, y, hop⟩ := hst'
          obtain ⟨ob, g, off, x1, fa, q1, q2, k1, q3⟩ := store_sf hT hf hop hlo hr he
          obtain ⟨k3, k1⟩ := gd_ok k1 hr
          obtain ⟨k1, k4⟩ := rksB_ok hT (by omega) hlt hq hr k1
          refine ⟨⟨s .tn e, seto ob x1 hh, top, .cons (seto ob x1 hh) top hs'⟩, k1, .big .tn hc hg (dstB_env hN hs .tn e) (Nat.le_of_ble_eq_true k3) rfl k4 (blB_ok hb top e hbl) (SF.bf hnd @q3) fun ty' x' y' hop' => ?_⟩
          rw [hop] at hop'
          injection hop' with _ hx _
          subst hx
          exact ⟨ob, g, off, x1, fa, q1, q2, rfl, rfl, @q3⟩
        · rw [mk_congr hT hf hlo] at he
          obtain ⟨v, h', top', k1, k2⟩ := (op_g hT hf).out hrc hr he
          obtain ⟨k3, k1⟩ := gd_ok k1 hr
          obtain ⟨k1, k4⟩ := rksB_ok hT (by omega) hlt hq hr k1
          refine ⟨⟨s v e, h', top', .cons h' top' hs'⟩, k1, .big v hc hg (dstB_env hN hs v e) (Nat.le_of_ble_eq_true k3) rfl k4 (blB_ok hb top e hbl) ?_ fun ty x y hop => absurd ⟨ty, x, y, hop⟩ hst'⟩
          intro B A κ rnd N' a w hH hB hA hn hN' hv hd hr'
          exact k2 (St.masked hlo hH hB hA hn hN' hv hd hr')
      · obtain ⟨k1, k4⟩ := rksB_ok hT (by omega) hlt hq hr he
        exact ⟨⟨s .tn e, hh, top, .cons hh top hs'⟩, k1, .bigskip hc hg (dstB_env hN hs .tn e) rfl rfl rfl k4⟩
theorem regD_ok (hT : T.okB P = true) {ops : Array Oper} {N sp sq : Nat} (hN : N ≤ 500) : ∀ (l : List Oper) (i : Nat) {F : Rc → E → H → Nat → HL → KD → R}, ops.toList.drop i = l → (∀ j o, j < i → ops[j]? = some o → ∀ t ∈ gTs ops.toList o, t < 510) → regD P T N ops.toList sp sq l i (preF T ops i) = .mk F →
    (∀ j o, i ≤ j → ops[j]? = some o → statB (sxN sp sq j) j (preF T ops j) (mkF T ops j o) (gTs ops.toList o) (cls T o) o = true) ∧
    ∀ {rc : Rc} {s : S4} {K : KD} {r : R}, RcS P rc → Good r → F rc s.e s.h s.t s.hs K = r → ∃ st : Nat → S4, st i = s ∧ K (st ops.size).e (st ops.size).h (st ops.size).t (st ops.size).hs = r ∧ ∀ j o, i ≤ j → ops[j]? = some o → Stp P T ops N j o (st j) (st (j + 1))
  | [], i, F, hd, hlt, h => by
    injection h with h; subst h
    have hsz : ops.size ≤ i := by
      have := congrArg List.length hd
      simp at this; omega
    refine ⟨fun j o hj ho => ?_, fun {rc s K r} hrc hr he => ⟨fun _ => s, rfl, he, fun j o hj ho => ?_⟩⟩
    · have := (Array.getElem?_eq_some_iff.1 ho).1; omega
    · have := (Array.getElem?_eq_some_iff.1 ho).1; omega
  | o :: l, i, F, hd, hlt, h => by
    have ho : ops[i]? = some o := by
      have : ops.toList[i]? = some o := by
        have := congrArg List.head? hd
        simpa [List.head?_drop] using this
      simpa using this
    have hi : i < ops.size := (Array.getElem?_eq_some_iff.1 ho).1
    have hd' : ops.toList.drop (i + 1) = l := by
      have := congrArg List.tail hd
      simpa [List.tail_drop] using this
    have h' : GD.rec (motive := fun _ => GD) (fun f => GD.rec (motive := fun _ => GD) (fun g => .mk fun rc e h top hs K => f rc e h top hs fun e h top hs => g rc e h top hs K) .no (regD P T N ops.toList sp sq l (i + 1) (piF T ops i o :: preF T ops i))) .no (goD P T N ops.toList (sxN sp sq i) i (preF T ops i) (mkF T ops i o) (gTs ops.toList o) (cls T o) o) = GD.mk F := h
    rw [← preF_succ ho] at h'
    cases hg : goD P T N ops.toList (sxN sp sq i) i (preF T ops i) (mkF T ops i o) (gTs ops.toList o) (cls T o) o with
    | no => rw [hg] at h'; cases h'
    | mk f1 =>
      rw [hg] at h'
      cases hl : regD P T N ops.toList sp sq l (i + 1) (preF T ops (i + 1)) with
      | no => rw [hl] at h'; cases h'
      | mk f2 =>
        rw [hl] at h'
        injection h' with h'; subst h'
        obtain ⟨hst, k1⟩ := goD_ok hT hN ho hlt hg
        have hlt' : ∀ j o, j < i + 1 → ops[j]? = some o → ∀ t ∈ gTs ops.toList o, t < 510 := by
          intro j o' hj ho'
          by_cases hji : j = i
          · subst hji
            rw [ho] at ho'; injection ho' with ho'; subst ho'
            exact below510_ok (and'_iff.1 (and'_iff.1 (and'_iff.1 hst).2).2).1
          · exact hlt j o' (by omega) ho'
        obtain ⟨h1, h2⟩ := regD_ok hT hN l (i + 1) hd' hlt' hl
        refine ⟨fun j o' hj ho' => ?_, fun {rc s K r} hrc hr he => ?_⟩
        · by_cases hji : j = i
          · subst hji; rw [ho] at ho'; injection ho' with ho'; subst ho'; exact hst
          · exact h1 j o' (by omega) ho'
        · obtain ⟨s1, he, k2⟩ := k1 hrc hr he
          obtain ⟨st, q1, q2, q3⟩ := h2 (s := s1) hrc hr he
          refine ⟨fun j => if j ≤ i then s else st j, if_pos (Nat.le_refl _), ?_, fun j o' hj ho' => ?_⟩
          · dsimp only; rw [if_neg (by omega)]; exact q2
          · dsimp only
            by_cases hji : j = i
            · subst hji
              rw [ho] at ho'; injection ho' with ho'; subst ho'
              rw [if_pos (Nat.le_refl _), if_neg (by omega), q1]; exact k2
            · rw [if_neg (by omega), if_neg (by omega)]; exact q3 j o' (by omega) ho'
end Go.Proofs.YtjkbljgolcdhhaaGreatDoor.Fw.Cm

/- Drawn regions: what holds while the operations run in any order. -/
namespace Go.Proofs.YtjkbljgolcdhhaaGreatDoor.Fw.Cm
open Go Go.RowKit Go.WideShapes
variable {P : Program} {T : TT} {ops : Array Oper} {N : Nat} {st : Nat → S4}
theorem Stp.env {i : Nat} {o : Oper} {s s' : S4} (h : Stp P T ops N i o s s') : ∃ v, EnvIs N o v s.e s'.e := by
  cases h <;> exact ⟨_, by assumption⟩
theorem Stp.top {i : Nat} {o : Oper} {s s' : S4} (h : Stp P T ops N i o s s') : s.t ≤ s'.t := by
  cases h <;> omega
theorem Stp.hist {i : Nat} {o : Oper} {s s' : S4} (h : Stp P T ops N i o s s') : (cls T o = 3 → s'.hs = .cons s'.h s'.t s.hs) ∧ (cls T o ≠ 3 → s'.hs = s.hs) := by
  cases h <;> exact ⟨fun h => by first | assumption | (exfalso; omega), fun h => by first | assumption | (exfalso; omega)⟩
section
theorem env_later (hst : ∀ j o, ops[j]? = some o → Stp P T ops N j o (st j) (st (j + 1))) {i i' : Nat} (hii : i ≤ i') (hi : i' ≤ ops.size) {t : Nat} (ht : t < 512) (hno : ∀ j o, i ≤ j → j < i' → ops[j]? = some o → o.dst ≠ some t) : getE t (st i').e = getE t (st i).e := by
  induction hii with
  | refl => rfl
  | @step m hm ih =>
    have ho : ops[m]? = some ops[m] := Array.getElem?_eq_getElem (by omega)
    obtain ⟨v, _, hv⟩ := (hst m _ ho).env
    rw [hv t ht, if_neg (hno m _ hm (by omega) ho)]
    exact ih (by omega) fun j o a b => hno j o a (by omega)
theorem slot_later (hst : ∀ j o, ops[j]? = some o → Stp P T ops N j o (st j) (st (j + 1))) (hN : N ≤ 500) {i : Nat} (hi : i ≤ ops.size) {t : Nat} (ht : t < 512) (h5 : 510 ≤ t) : getE t (st i).e = getE t (st 0).e :=
  env_later hst (Nat.zero_le _) hi ht fun j o _ _ ho hd => by
    obtain ⟨v, h1, _⟩ := (hst j o ho).env
    have : @LT.lt Nat _ t N := h1 t hd
    omega
theorem top_mono (hst : ∀ j o, ops[j]? = some o → Stp P T ops N j o (st j) (st (j + 1))) {i i' : Nat} (hii : i ≤ i') (hi : i' ≤ ops.size) : (st i).t ≤ (st i').t := by
  induction hii with
  | refl => exact Nat.le_refl _
  | @step m hm ih =>
    have ho : ops[m]? = some ops[m] := Array.getElem?_eq_getElem (by omega)
    exact Nat.le_trans (ih (by omega)) (hst m _ ho).top
theorem hist_suf (hst : ∀ j o, ops[j]? = some o → Stp P T ops N j o (st j) (st (j + 1))) {i i' : Nat} (hii : i ≤ i') (hi : i' ≤ ops.size) : ∃ pre, (st i').hs.list = pre ++ (st i).hs.list := by
  induction hii with
  | refl => exact ⟨[], rfl⟩
  | @step m hm ih =>
    have ho : ops[m]? = some ops[m] := Array.getElem?_eq_getElem (by omega)
    obtain ⟨pre, hp⟩ := ih (by omega)
    obtain ⟨h1, h2⟩ := (hst m _ ho).hist
    by_cases hc : cls T ops[m] = 3
    · exact ⟨((st (m + 1)).h, (st (m + 1)).t) :: pre, by rw [h1 hc]; show _ :: (st m).hs.list = _; rw [hp]; rfl⟩
    · exact ⟨pre, by rw [h2 hc]; exact hp⟩
theorem hist_len (hst : ∀ j o, ops[j]? = some o → Stp P T ops N j o (st j) (st (j + 1))) (h0 : (st 0).hs = .cons (st 0).h (st 0).t .nil) : ∀ {i : Nat}, i ≤ ops.size → (st i).hs.list.length = epF T ops i + 1
  | 0, _ => by rw [h0]; rfl
  | i + 1, hi => by
    have ho : ops[i]? = some ops[i] := Array.getElem?_eq_getElem (by omega)
    have ih := hist_len hst h0 (i := i) (by omega)
    obtain ⟨h1, h2⟩ := (hst i _ ho).hist
    rw [epF_succ ho]
    by_cases hc : cls T ops[i] = 3
    · rw [if_pos hc, h1 hc]; show (st i).hs.list.length + 1 = _; omega
    · rw [if_neg hc, h2 hc]; exact ih
end
/-- the heap behind the k-th big operation -/
noncomputable def Ek (ops : Array Oper) (st : Nat → S4) (k : Nat) : H × Nat := ((st ops.size).hs.list.reverse[k]?).getD (.e, 0)
section
theorem Ek_front (hst : ∀ j o, ops[j]? = some o → Stp P T ops N j o (st j) (st (j + 1))) (h0 : (st 0).hs = .cons (st 0).h (st 0).t .nil) {i d : Nat} (hi : i ≤ ops.size) (hd : d ≤ epF T ops i) : (st i).hs.list[d]? = some (Ek ops st (epF T ops i - d)) := by
  obtain ⟨pre, hp⟩ := hist_suf hst hi (Nat.le_refl _)
  have hl := hist_len hst h0 hi
  unfold Ek
  rw [hp, List.reverse_append, List.getElem?_append_left (by rw [List.length_reverse]; omega), List.getElem?_reverse (by omega)]
  have : (st i).hs.list.length - 1 - (epF T ops i - d) = d := by omega
  rw [this, List.getElem?_eq_getElem (by omega)]; rfl
theorem Ek_zero (hst : ∀ j o, ops[j]? = some o → Stp P T ops N j o (st j) (st (j + 1))) (h0 : (st 0).hs = .cons (st 0).h (st 0).t .nil) : Ek ops st 0 = ((st 0).h, (st 0).t) := by
  have := Ek_front hst h0 (i := 0) (d := 0) (Nat.zero_le _) (Nat.zero_le _)
  rw [h0] at this
  injection this with this
  exact this.symm
theorem Ek_big (hst : ∀ j o, ops[j]? = some o → Stp P T ops N j o (st j) (st (j + 1))) (h0 : (st 0).hs = .cons (st 0).h (st 0).t .nil) {j : Nat} {o : Oper} (ho : ops[j]? = some o) (hc : cls T o = 3) : Ek ops st (epF T ops j + 1) = ((st (j + 1)).h, (st (j + 1)).t) := by
  have hj : j < ops.size := (Array.getElem?_eq_some_iff.1 ho).1
  have := Ek_front hst h0 (i := j + 1) (d := 0) (by omega) (Nat.zero_le _)
  rw [(hst j o ho).hist.1 hc, epF_succ ho, if_pos hc] at this
  injection this with this
  exact this.symm
theorem Ek_le (hst : ∀ j o, ops[j]? = some o → Stp P T ops N j o (st j) (st (j + 1))) (h0 : (st 0).hs = .cons (st 0).h (st 0).t .nil) {k : Nat} : ∀ {i : Nat}, i ≤ ops.size → k ≤ epF T ops i → (Ek ops st k).2 ≤ (st i).t
  | 0, _, hk => by
    have : k = 0 := Nat.le_zero.1 hk
    subst this
    rw [Ek_zero hst h0]; exact Nat.le_refl _
  | i + 1, hi, hk => by
    have ho : ops[i]? = some ops[i] := Array.getElem?_eq_getElem (by omega)
    by_cases hk' : k ≤ epF T ops i
    · exact Nat.le_trans (Ek_le hst h0 (by omega) hk') (hst i _ ho).top
    · rw [epF_succ ho] at hk
      by_cases hc : cls T ops[i] = 3
      · rw [if_pos hc] at hk
        have : k = epF T ops i + 1 := by omega
        subst this
        rw [Ek_big hst h0 ho hc]; exact Nat.le_refl _
      · rw [if_neg hc] at hk; omega
end
/-! ### Blocks made ahead -/
theorem Ex.head {κ : Kap} {B : Nat} {w : World} {xs : List (Nat × Nat × Ob)} {n b : Nat} {l : Ob} (hx : Ex n κ B w xs) (hm : (n, b, l) ∈ xs) : ∃ r, xs = (n, b, l) :: r := by
  cases xs with
  | nil => cases hm
  | cons x r =>
    obtain ⟨o1, b1, l1⟩ := x
    rcases List.mem_cons.1 hm with e | hm
    · exact ⟨r, by rw [e]⟩
    · have h5 := hx.2.2.2.2
      have := h5.lt n b l hm
      have := hx.1
      omega
theorem Ex.nonmem {κ : Kap} {B : Nat} {w : World} : ∀ {xs : List (Nat × Nat × Ob)} {n o : Nat}, Ex n κ B w xs → n ≤ o → (∀ b l, (o, b, l) ∉ xs) → κ.non o
  | [], n, o, hx, hn, _ => hx o hn
  | (o1, b1, l1) :: xs, n, o, hx, hn, hm => by
    rcases Nat.lt_trichotomy o o1 with h | h | h
    · exact hx.2.1 o hn h
    · subst h; exact absurd (List.mem_cons_self ..) (hm b1 l1)
    · exact Ex.nonmem hx.2.2.2.2 (by omega) fun b l h => hm b l (List.mem_cons_of_mem _ h)
theorem le_below {κ0 κ : Kap} {B t0 t : Nat} {h : H} {w : World} (hr : HR B κ0 h t0 w) (hle : κ0.le κ) (ht : t0 ≤ t) : κ0.le (κ.below t) := by
  refine ⟨fun o g r hm => ?_, fun o r hm => ?_, fun o b hm => ?_⟩
  · have := hr.topm o g r hm; rw [Kap.below_m (by omega)]; exact hle.m _ _ _ hm
  · have := hr.topx o r hm; rw [Kap.below_x (by omega)]; exact hle.x _ _ hm
  · have := hr.topq o b hm; rw [Kap.below_q (by omega)]; exact hle.q _ _ hm
theorem below_all {κ : Kap} {n : Nat} (h : ∀ o, n ≤ o → κ.non o) : κ.below n = κ := by
  refine Kap.ext' (fun p g => ?_) (fun p => ?_) (fun p => ?_) <;> simp only [Kap.below] <;> split <;> first | rfl | skip
  · exact ((h p (by omega)).1 g).symm
  · exact (h p (by omega)).2.1.symm
  · exact (h p (by omega)).2.2.symm
/-- while the operations of Lp have run; k of them were big -/
structure Inv (T : TT) (ops : Array Oper) (N : Nat) (st : Nat → S4) (B : Nat) (κ0 : Kap) (w0 : World) (ds : List Deferred) (Lp : Nat → Prop) (k : Nat) (κ : Kap) (xs : List (Nat × Nat × Ob)) (a : Act) (w : World) : Prop where
  hr : HR B (κ.below (Ek ops st k).2) (Ek ops st k).1 (Ek ops st k).2 w
  ex : Ex (Ek ops st k).2 κ B w xs
  le : Ext κ0 κ w0
  frm : Frm κ0 w0 w
  n : a.tmps.size = N
  dfs : a.defers = ds
  xin : ∀ o b l, (o, b, l) ∈ xs → ∃ j oj, Lp j ∧ ops[j]? = some oj ∧ cls T oj = 1 ∧ (st j).t = o ∧ (st (j + 1)).t = o + 1 ∧ k ≤ epF T ops j
  xout : ∀ j oj, Lp j → ops[j]? = some oj → cls T oj = 1 → (st (j + 1)).t = (st j).t + 1 → k ≤ epF T ops j → ∃ b ob, ((st j).t, b, ob) ∈ xs ∧ (st (j + 1)).h = seto (st j).t ob (st j).h
  env : ∀ t, t < 510 → (∀ j o, ops[j]? = some o → o.dst = some t → Lp j) → WR κ (getE t (st ops.size).e) (a.tmps.getD t undef)
  old : ∀ t, t < 510 → (∀ j o, ops[j]? = some o → o.dst = some t → ¬ Lp j) → WR κ (getE t (st 0).e) (a.tmps.getD t undef)
  big : ∀ j o, ops[j]? = some o → cls T o = 3 → (Lp j ↔ epF T ops j < k)
  hk : k = 0 ∨ ∃ j o, ops[j]? = some o ∧ cls T o = 3 ∧ epF T ops j + 1 = k ∧ Lp j
section
variable {B : Nat} {κ0 : Kap} {w0 : World} {ds : List Deferred} {Lp : Nat → Prop} {k : Nat} {κ : Kap} {xs : List (Nat × Nat × Ob)} {a : Act} {w : World}
theorem Inv.kle (hst : ∀ j o, ops[j]? = some o → Stp P T ops N j o (st j) (st (j + 1))) (h0 : (st 0).hs = .cons (st 0).h (st 0).t .nil) (I : Inv T ops N st B κ0 w0 ds Lp k κ xs a w) : k ≤ epF T ops ops.size := by
  rcases I.hk with h | ⟨j, o, h1, h2, h3, _⟩
  · omega
  · have hj : j < ops.size := (Array.getElem?_eq_some_iff.1 h1).1
    have := epF_mono (T := T) (ops := ops) (i := j + 1) (j := ops.size) (by omega)
    rw [epF_succ h1, if_pos h2] at this
    omega
/-- the blocks of the present time are taken in, up to the i-th operation -/
theorem Inv.adopt (hst : ∀ j o, ops[j]? = some o → Stp P T ops N j o (st j) (st (j + 1))) (h0 : (st 0).hs = .cons (st 0).h (st 0).t .nil) (I : Inv T ops N st B κ0 w0 ds Lp k κ xs a w) : ∀ {i : Nat}, i ≤ ops.size → epF T ops i = k → (∀ j oj, j < i → ops[j]? = some oj → cls T oj = 1 → epF T ops j = k → Lp j) →
    ∃ xs', HR B (κ.below (st i).t) (st i).h (st i).t w ∧ Ex (st i).t κ B w xs' ∧ (∀ p ∈ xs', p ∈ xs) ∧ ∀ p ∈ xs, (st i).t ≤ p.1 → p ∈ xs'
  | 0, _, hk, _ => by
    have hk : 0 = k := hk
    subst hk
    have h1 := I.hr
    have h2 := I.ex
    rw [Ek_zero hst h0] at h1 h2
    exact ⟨xs, h1, h2, fun p h => h, fun p h _ => h⟩
  | i + 1, hi, hk, hall => by
    have ho : ops[i]? = some ops[i] := Array.getElem?_eq_getElem (by omega)
    by_cases hc : cls T ops[i] = 3
    · rw [epF_succ ho, if_pos hc] at hk
      have h1 := I.hr
      have h2 := I.ex
      rw [← hk, Ek_big hst h0 ho hc] at h1 h2
      exact ⟨xs, h1, h2, fun p h => h, fun p h _ => h⟩
    · have hk' : epF T ops i = k := by rw [epF_succ ho, if_neg hc] at hk; omega
      obtain ⟨xs', h1, h2, h3, h4⟩ := I.adopt hst h0 (i := i) (by omega) hk' fun j oj hj => hall j oj (by omega)
      have same : (st (i + 1)).h = (st i).h → (st (i + 1)).t = (st i).t → ∃ xs', HR B (κ.below (st (i + 1)).t) (st (i + 1)).h (st (i + 1)).t w ∧ Ex (st (i + 1)).t κ B w xs' ∧ (∀ p ∈ xs', p ∈ xs) ∧ ∀ p ∈ xs, (st (i + 1)).t ≤ p.1 → p ∈ xs' := by
        intro e1 e2
        rw [e1, e2]
        exact ⟨xs', h1, h2, h3, h4⟩
      cases hst i _ ho with
      | skip _ _ _ hh ht _ => exact same hh ht
      | pure _ _ _ _ _ hh ht _ _ => exact same hh ht
      | look _ _ _ _ _ hh ht _ _ _ => exact same hh ht
      | bigskip hc' => exact absurd hc' hc
      | big _ hc' => exact absurd hc' hc
      | alloc v ob _ hc1 _ _ hh ht _ _ _ =>
        obtain ⟨b, l', m1, m2⟩ := I.xout i _ (hall i _ (by omega) ho hc1 hk') ho hc1 ht (by omega)
        have m1' := h4 _ m1 (Nat.le_refl _)
        obtain ⟨r, hr⟩ := h2.head m1'
        subst hr
        obtain ⟨n1, n3⟩ := Ex.first h1 (Nat.le_refl _) h2
        rw [← m2, ← ht] at n1
        rw [← ht] at n3
        refine ⟨r, n1, n3, fun p hp => h3 p (List.mem_cons_of_mem _ hp), fun p hp hle => ?_⟩
        rcases List.mem_cons.1 (h4 p hp (by omega)) with e | h
        · rw [e] at hle; simp only at hle; omega
        · exact h
end
end Go.Proofs.YtjkbljgolcdhhaaGreatDoor.Fw.Cm

/- Drawn regions: any order will do. -/
namespace Go.Proofs.YtjkbljgolcdhhaaGreatDoor.Fw.Cm
open Go Go.RowKit Go.WideShapes
theorem put_defers (a : Act) (d : Option Tmp) (u : Value) : (a.put d u).defers = a.defers := by cases d <;> rfl
theorem put_size (a : Act) (d : Option Tmp) (u : Value) : (a.put d u).tmps.size = a.tmps.size := by cases d <;> simp [Act.put]
theorem put_self {a : Act} {t : Nat} {u : Value} (h : t < a.tmps.size) : (a.put (some t) u).tmps.getD t undef = u := by
  simp only [Act.put]
  rw [Array.getD_eq_getD_getElem?, Array.getElem?_setIfInBounds, if_pos rfl, if_pos h]; rfl
theorem put_other {a : Act} {d : Option Tmp} {t : Nat} {u : Value} (h : d ≠ some t) : (a.put d u).tmps.getD t undef = a.tmps.getD t undef := by
  cases d with
  | none => rfl
  | some d =>
    simp only [Act.put]
    rw [Array.getD_eq_getD_getElem?, Array.getElem?_setIfInBounds, if_neg (fun e => h (by rw [e])), ← Array.getD_eq_getD_getElem?]
theorem join_im' {κ κ2 : Kap} {n k : Nat} (hi : (κ.join κ2 n).im k) : κ.im k ∨ κ2.im k := by
  rcases hi with ⟨p, q, d, n', h⟩ | ⟨p, h⟩
  · simp only [Kap.join] at h
    split at h
    · exact .inl (.inl ⟨p, q, d, n', h⟩)
    · exact .inr (.inl ⟨p, q, d, n', h⟩)
  · simp only [Kap.join] at h
    split at h
    · exact .inl (.inr ⟨p, h⟩)
    · exact .inr (.inr ⟨p, h⟩)
variable {P : Program} {T : TT} {ops : Array Oper} {N sp sq : Nat} {st : Nat → S4}
variable {B A : Nat} {rnd : Option Nat} {κ0 : Kap} {w0 : World} {ds : List Deferred} {Lp : Nat → Prop} {k : Nat} {κ : Kap} {xs : List (Nat × Nat × Ob)} {a : Act} {w : World}
/-- a region and where it begins -/
structure Reg (P : Program) (T : TT) (ops : Array Oper) (N sp sq : Nat) (st : Nat → S4) (B A : Nat) (rnd : Option Nat) (κ0 : Kap) (w0 : World) (ds : List Deferred) : Prop where
  hst : ∀ j o, ops[j]? = some o → Stp P T ops N j o (st j) (st (j + 1))
  h0 : (st 0).hs = .cons (st 0).h (st 0).t .nil
  S : StatD T ops sp sq
  hN : N ≤ 500
  hr : HR B κ0 (st 0).h (st 0).t w0
  x0 : κ0.x 0 = some (#[], #[])
  dr : DR P A κ0 w0 (getE 511 (st 0).e) ds
  rr : RR κ0 (getE 510 (st 0).e) rnd
  hB : B ≤ w0.heap.size
  hA : A ≤ w0.heap.size
section
theorem Reg.valsG (R : Reg P T ops N sp sq st B A rnd κ0 w0 ds) (henv : ∀ t, t < 510 → (∀ j o, ops[j]? = some o → o.dst = some t → Lp j) → WR κ (getE t (st ops.size).e) (a.tmps.getD t undef)) (hold : ∀ t, t < 510 → (∀ j o, ops[j]? = some o → o.dst = some t → ¬ Lp j) → WR κ (getE t (st 0).e) (a.tmps.getD t undef)) (hcl : Closed ops Lp) {i : Nat} {o : Oper} (ho : ops[i]? = some o) (hn : ¬ Lp i) (he : ∀ o', ops[i]? = some o' → ∀ e ∈ o'.after, Region.binds .any e = true → Lp e.on) : ∀ t ∈ gTs ops.toList o, WR κ (getE t (st i).e) (a.tmps.getD t undef) := by
  intro t ht
  have hlt := R.S.lt i o ho t ht
  have hi : i < ops.size := (Array.getElem?_eq_some_iff.1 ho).1
  have hself : ∀ oj, ops[i]? = some oj → oj.dst ≠ some t := by
    intro oj hoj hd
    rw [ho] at hoj; injection hoj with hoj; subst hoj; exact R.S.self i o ho t hd ht
  by_cases hw : ∃ j oj, i < j ∧ ops[j]? = some oj ∧ oj.dst = some t
  · obtain ⟨j, oj, h1, h2, h3⟩ := hw
    have hjs : j < ops.size := (Array.getElem?_eq_some_iff.1 h2).1
    have hcl' := (mask_cl R.S.fw j oj h2 i (R.S.late j oj i o h2 ho h1 t h3 ht).2).2
    have hnj : ¬ Lp j := fun hL => hn (hcl'.done hcl fun o' ho' e => hcl j hL o' ho' e)
    have honly : ∀ j' oj', ops[j']? = some oj' → oj'.dst = some t → j' = j := by
      intro j' oj' k1 k2
      rcases Nat.lt_trichotomy j' j with h | h | h
      · exact absurd k2 (R.S.uniq j oj j' oj' h2 k1 h t h3)
      · exact h
      · exact absurd h3 (R.S.uniq j' oj' j oj k1 h2 h t k2)
    rw [env_later R.hst (Nat.zero_le i) (Nat.le_of_lt hi) (by omega) fun j' oj' _ q2 q3 q4 => by have := honly j' oj' q3 q4; omega]
    exact hold t hlt fun j' oj' q1 q2 => by rw [honly j' oj' q1 q2]; exact hnj
  · have hno : ∀ j oj, i ≤ j → ops[j]? = some oj → oj.dst ≠ some t := by
      intro j oj hj hoj hd
      by_cases hji : j = i
      · subst hji; exact hself oj hoj hd
      · exact hw ⟨j, oj, by omega, hoj, hd⟩
    rw [← env_later R.hst (Nat.le_of_lt hi) (Nat.le_refl _) (by omega) fun j oj h1 h2 h3 => hno j oj h1 h3]
    refine henv t hlt fun j oj hoj hd => ?_
    by_cases hj : j < i
    · exact (mask_cl R.S.fw i o ho j (R.S.use i o j oj ho hoj hj t hd ht)).2.done hcl he
    · exact absurd hd (hno j oj (by omega) hoj)
theorem Reg.vals (R : Reg P T ops N sp sq st B A rnd κ0 w0 ds) (I : Inv T ops N st B κ0 w0 ds Lp k κ xs a w) (hcl : Closed ops Lp) {i : Nat} {o : Oper} (ho : ops[i]? = some o) (hn : ¬ Lp i) (he : ∀ o', ops[i]? = some o' → ∀ e ∈ o'.after, Region.binds .any e = true → Lp e.on) : ∀ t ∈ gTs ops.toList o, WR κ (getE t (st i).e) (a.tmps.getD t undef) :=
  R.valsG I.env I.old hcl ho hn he
theorem Reg.oldputG (R : Reg P T ops N sp sq st B A rnd κ0 w0 ds) (hold : ∀ t, t < 510 → (∀ j o, ops[j]? = some o → o.dst = some t → ¬ Lp j) → WR κ (getE t (st 0).e) (a.tmps.getD t undef)) {i : Nat} {o : Oper} (ho : ops[i]? = some o) {κ' : Kap} (hle : κ.le κ') {u : Value} :
    ∀ t, t < 510 → (∀ j o', ops[j]? = some o' → o'.dst = some t → ¬ (Lp j ∨ j = i)) → WR κ' (getE t (st 0).e) ((a.put o.dst u).tmps.getD t undef) := by
  intro t ht hall
  rw [put_other fun hd => hall i o ho hd (.inr rfl)]
  exact (hold t ht fun j oj hoj hd h => hall j oj hoj hd (.inl h)).mono hle
theorem Reg.envputG (R : Reg P T ops N sp sq st B A rnd κ0 w0 ds) (hsz : a.tmps.size = N) (henv : ∀ t, t < 510 → (∀ j o, ops[j]? = some o → o.dst = some t → Lp j) → WR κ (getE t (st ops.size).e) (a.tmps.getD t undef)) {i : Nat} {o : Oper} (ho : ops[i]? = some o) {κ' : Kap} (hle : κ.le κ') {v : W} (hv : EnvIs N o v (st i).e (st (i + 1)).e) {u : Value} (hu : ∀ t, o.dst = some t → WR κ' v u) :
    ∀ t, t < 510 → (∀ j o', ops[j]? = some o' → o'.dst = some t → Lp j ∨ j = i) → WR κ' (getE t (st ops.size).e) ((a.put o.dst u).tmps.getD t undef) := by
  intro t ht hall
  have hi : i < ops.size := (Array.getElem?_eq_some_iff.1 ho).1
  by_cases hd : o.dst = some t
  · rw [env_later R.hst (i := i + 1) (by omega) (Nat.le_refl _) (by omega) fun j oj h1 h2 h3 h4 => R.S.uniq j oj i o h3 ho (by omega) t h4 hd, hv.2 t (by omega), if_pos hd, hd, put_self (by rw [hsz]; exact hv.1 t hd)]
    exact hu t hd
  · rw [put_other hd]
    refine (henv t ht fun j oj hoj hdj => ?_).mono hle
    rcases hall j oj hoj hdj with h | h
    · exact h
    · subst h; rw [ho] at hoj; injection hoj with hoj; subst hoj; exact absurd hdj hd
theorem Reg.next1 (R : Reg P T ops N sp sq st B A rnd κ0 w0 ds) (I : Inv T ops N st B κ0 w0 ds Lp k κ xs a w) {i : Nat} {o : Oper} (ho : ops[i]? = some o) (hc : cls T o ≠ 3) (ht : (st (i + 1)).t = (st i).t) {v : W} (hv : EnvIs N o v (st i).e (st (i + 1)).e) {u : Value} (hu : ∀ t, o.dst = some t → WR κ v u) :
    Inv T ops N st B κ0 w0 ds (fun j => Lp j ∨ j = i) k κ xs (a.put o.dst u) w := by
  refine ⟨I.hr, I.ex, I.le, I.frm, by rw [put_size]; exact I.n, by rw [put_defers]; exact I.dfs, fun o' b l hm => ?_, fun j oj hj hoj hcj htj hkj => ?_, R.envputG I.n I.env ho (Kap.le.refl κ) hv hu, R.oldputG I.old ho (Kap.le.refl κ), fun j oj hoj hcj => ?_, ?_⟩
  · obtain ⟨j, oj, h1, h2⟩ := I.xin o' b l hm
    exact ⟨j, oj, .inl h1, h2⟩
  · rcases hj with hj | hj
    · exact I.xout j oj hj hoj hcj htj hkj
    · subst hj; omega
  · rw [← I.big j oj hoj hcj]
    constructor
    · rintro (h | h)
      · exact h
      · subst h; rw [ho] at hoj; injection hoj with hoj; subst hoj; exact absurd hcj hc
    · exact .inl
  · rcases I.hk with h | ⟨j, oj, h1, h2, h3, h4⟩
    · exact .inl h
    · exact .inr ⟨j, oj, h1, h2, h3, .inl h4⟩
theorem Reg.x0' (R : Reg P T ops N sp sq st B A rnd κ0 w0 ds) (I : Inv T ops N st B κ0 w0 ds Lp k κ xs a w) {t : Nat} (ht : (st 0).t ≤ t) : (κ.below t).x 0 = some (#[], #[]) := (le_below R.hr I.le.le ht).x _ _ R.x0
/-- of the heaps behind big operations, the later ones have more objects -/
theorem Reg.ekle (R : Reg P T ops N sp sq st B A rnd κ0 w0 ds) (I : Inv T ops N st B κ0 w0 ds Lp k κ xs a w) {m : Nat} (hm : m ≤ k) : (Ek ops st m).2 ≤ (Ek ops st k).2 := by
  rcases I.hk with h | ⟨j, oj, h1, h2, h3, h4⟩
  · have : m = k := by omega
    subst this; exact Nat.le_refl _
  · have hj : j < ops.size := (Array.getElem?_eq_some_iff.1 h1).1
    have hek := Ek_big R.hst R.h0 h1 h2
    rw [h3] at hek
    rw [hek]
    exact Ek_le R.hst R.h0 (i := j + 1) (by omega) (by rw [epF_succ h1, if_pos h2]; omega)
end
theorem wp_value {o : Oper} (hd : ∀ c, o.op ≠ .defer c) {u : Value} {w w' : World} {a : Act} {next : Act → World → Prop} {Q : Exit → Act → World → Prop} (hrun : (execOp a.eval o).run P w = .ok (.value u) w') (hn : next (a.put o.dst u) w') : o.wpIn (Fx rnd) 0 P a w next Q :=
  ⟨fun f _ => Fx.fn rnd f, by rw [Oper.semAt_eq _ _ _ hd, hrun, Oper.uponIn_value]; exact hn⟩
section
theorem Reg.look (R : Reg P T ops N sp sq st B A rnd κ0 w0 ds) (I : Inv T ops N st B κ0 w0 ds Lp k κ xs a w) (hcl : Closed ops Lp) {i : Nat} {o : Oper} (ho : ops[i]? = some o) (hn : ¬ Lp i) (he : ∀ o', ops[i]? = some o' → ∀ e ∈ o'.after, Region.binds .any e = true → Lp e.on)
    {v : W} (hc : cls T o = 2) (hg : GuardIs ops o (st i).e true) (hv : EnvIs N o v (st i).e (st (i + 1)).e)
    (hb : ∃ p, (st i).hs.list[freeB (mkF T ops i o) (preF T ops i) i]? = some p ∧ Bls o p.2 (st i).e) (hf : ∀ d p, d ≤ freeB (mkF T ops i o) (preF T ops i) i → (st i).hs.list[d]? = some p → LF P o (st i).e v p.1 p.2) :
    ∃ u, (execOp a.eval o).run P w = .ok (.value u) w ∧ ∀ t, o.dst = some t → WR κ v u := by
  have hi : i < ops.size := (Array.getElem?_eq_some_iff.1 ho).1
  have hvals := R.vals I hcl ho hn he
  have hfree : epF T ops i - k ≤ freeB (mkF T ops i o) (preF T ops i) i := by
    refine freeB_le (Nat.le_of_lt hi) fun j oj hj hoj hcj hkj => ?_
    cases htb : tb (mkF T ops i o) j with
    | false => rfl
    | true =>
      have := (mask_cl R.S.fw i o ho j htb).2.done hcl he
      have := (I.big j oj hoj hcj).1 this
      omega
  -- the operands name old objects alone
  have hva : Va (κ.below (Ek ops st k).2) (st i).e (opTs o) a.tmps := by
    obtain ⟨p, hp, hbl⟩ := hb
    have hlen := hist_len R.hst R.h0 (i := i) (Nat.le_of_lt hi)
    have hlt := (List.getElem?_eq_some_iff.1 hp).1
    have hp2 := Ek_front R.hst R.h0 (i := i) (d := freeB (mkF T ops i o) (preF T ops i) i) (Nat.le_of_lt hi) (by omega)
    rw [hp] at hp2
    injection hp2 with hp2
    have hle : p.2 ≤ (Ek ops st k).2 := by rw [hp2]; exact R.ekle I (by omega)
    refine ⟨R.x0' I ?_, fun t ht => ?_⟩
    · have := R.ekle I (Nat.zero_le k)
      rw [Ek_zero R.hst R.h0] at this; exact this
    · exact ((hvals t (opTs_sub t ht)).cut (hbl t ht)).mono (Kap.below_mono hle)
  by_cases hki : k ≤ epF T ops i
  · have h1 := Ek_front R.hst R.h0 (i := i) (d := epF T ops i - k) (Nat.le_of_lt hi) (by omega)
    have h2 : epF T ops i - (epF T ops i - k) = k := by omega
    rw [h2] at h1
    obtain ⟨u, k1, k2⟩ := hf _ _ hfree h1 I.hr hva
    exact ⟨u, k1, fun t _ => k2.mono (Kap.below_le _ _)⟩
  · rcases I.hk with h | ⟨j, oj, j1, j2, j3, j4⟩
    · omega
    · have hjs : j < ops.size := (Array.getElem?_eq_some_iff.1 j1).1
      have hji : i < j := by
        rcases Nat.lt_trichotomy j i with h | h | h
        · have := epF_mono (T := T) (ops := ops) (i := j + 1) (j := i) (by omega)
          rw [epF_succ j1, if_pos j2] at this; omega
        · subst h; rw [ho] at j1; injection j1 with j1; subst j1; omega
        · exact h
      have htb : tb (mkF T ops j oj) i = false := by
        cases htb : tb (mkF T ops j oj) i with
        | false => rfl
        | true => exact absurd ((mask_cl R.S.fw j oj j1 i htb).2.done hcl fun o' ho' e => hcl j j4 o' ho' e) hn
      have hrec : RecOk P T ops j oj (st j).e (st (j + 1)).h (st (j + 1)).t := by
        cases R.hst j oj j1 with
        | bigskip _ _ _ _ _ _ hr => exact hr
        | big _ _ _ _ _ _ hr => exact hr
        | skip hc' => exact absurd j2 hc'
        | pure _ _ hc' => omega
        | alloc _ _ _ _ hc' => omega
        | look _ _ hc' => omega
      have hsame : ∀ t ∈ gTs ops.toList o, getE t (st j).e = getE t (st i).e := by
        intro t ht
        have hlt := R.S.lt i o ho t ht
        refine env_later R.hst (by omega) (by omega) (by omega) fun j' oj' h1 h2 h3 h4 => ?_
        by_cases hji' : j' = i
        · subst hji'; rw [ho] at h3; injection h3 with h3; subst h3; exact R.S.self j' o ho t h4 ht
        · exact (R.S.late j' oj' i o h3 ho (by omega) t h4 ht).1 hc
      rcases hrec i o hji ho hc htb with hgf | ⟨_, v', h1, h2⟩
      · have := hg.one hgf hsame
        cases this
      · have hek := Ek_big R.hst R.h0 j1 j2
        rw [j3] at hek
        have hH := I.hr
        have hva' : Va (κ.below (Ek ops st k).2) (st j).e (opTs o) a.tmps := ⟨hva.1, fun t ht => by rw [hsame t (opTs_sub t ht)]; exact hva.2 t ht⟩
        rw [hek] at hH hva'
        obtain ⟨u, k1, k2⟩ := h1 hH hva'
        refine ⟨u, k1, fun t hd => ?_⟩
        have e1 : v' = v := by
          rw [h2 t hd, env_later R.hst (i := i + 1) (by omega) (by omega) (by have : @LT.lt Nat _ t N := hv.1 t hd; have := R.hN; omega) fun j' oj' q1 q2 q3 q4 => R.S.uniq j' oj' i o q3 ho (by omega) t q4 hd, hv.2 t (by have : @LT.lt Nat _ t N := hv.1 t hd; have := R.hN; omega), if_pos hd]
        rw [← e1]
        exact k2.mono (Kap.below_le _ _)
theorem Reg.alloc (R : Reg P T ops N sp sq st B A rnd κ0 w0 ds) (I : Inv T ops N st B κ0 w0 ds Lp k κ xs a w) (hcl : Closed ops Lp) {i : Nat} {o : Oper} (ho : ops[i]? = some o) (hn : ¬ Lp i) (he : ∀ o', ops[i]? = some o' → ∀ e ∈ o'.after, Region.binds .any e = true → Lp e.on)
    {v : W} {ob : Ob} (hc : cls T o = 1) (hv : EnvIs N o v (st i).e (st (i + 1)).e) (hh : (st (i + 1)).h = seto (st i).t ob (st i).h) (ht : (st (i + 1)).t = (st i).t + 1) (hb : Bls o (st i).t (st i).e) (hf : AF P o (st i).e v (st i).t ob) :
    ∃ u w' κ' xs', (execOp a.eval o).run P w = .ok (.value u) w' ∧ Inv T ops N st B κ0 w0 ds (fun j => Lp j ∨ j = i) k κ' xs' (a.put o.dst u) w' := by
  have hi : i < ops.size := (Array.getElem?_eq_some_iff.1 ho).1
  have hvals := R.vals I hcl ho hn he
  have hki : k ≤ epF T ops i := by
    rcases Nat.lt_or_ge (epF T ops i) k with h | h
    · obtain ⟨j, oj, j0, j1, j2, j3⟩ := ep_exists (T := T) (ops := ops) (Nat.le_refl _) (Nat.lt_of_lt_of_le h (I.kle R.hst R.h0))
      have hL := (I.big j oj j1 j2).2 (by omega)
      rcases Nat.lt_trichotomy j i with h' | h' | h'
      · have := epF_mono (T := T) (ops := ops) (i := j + 1) (j := i) (by omega)
        rw [epF_succ j1, if_pos j2] at this; omega
      · subst h'; exact absurd hL hn
      · rcases R.S.big j oj i o j1 ho h' j2 (.inr hc) with hb | ⟨_, _, hb⟩
        · exact absurd ((mask_cl R.S.fw j oj j1 i hb).2.done hcl fun o' ho' e => hcl j hL o' ho' e) hn
        · omega
    · exact h
  have hTk : (Ek ops st k).2 ≤ (st i).t := Ek_le R.hst R.h0 (Nat.le_of_lt hi) hki
  have hva : Va (κ.below (st i).t) (st i).e (opTs o) a.tmps := ⟨R.x0' I (top_mono R.hst (Nat.zero_le _) (Nat.le_of_lt hi)), fun t ht => (hvals t (opTs_sub t ht)).cut (hb t ht)⟩
  have hnon : κ.non (st i).t := I.ex.nonmem hTk fun b l' hm => by
    obtain ⟨j, oj, j1, j2, j3, j4, j5, j6⟩ := I.xin _ b l' hm
    have hjs : j < ops.size := (Array.getElem?_eq_some_iff.1 j2).1
    rcases Nat.lt_trichotomy j i with h | h | h
    · have := top_mono R.hst (i := j + 1) (i' := i) (by omega) (Nat.le_of_lt hi); omega
    · subst h; exact hn j1
    · have := top_mono R.hst (i := i + 1) (i' := j) (by omega) (by omega); omega
  obtain ⟨h', top', hH⟩ := I.ex.all I.hr (Nat.le_refl _)
  have hBw : B ≤ w.heap.size := Nat.le_trans R.hB I.frm.size
  have hmk := hf (w := w) hva
  cases ob with
  | c lo g l =>
    obtain ⟨rfl, u, vs, t, w', hrun, hp, rfl, hlr, hval⟩ := hmk
    obtain ⟨xs', hx', hm'⟩ := Ex.put hp hnon (fun b hb => (hH.ge b hb).2) hBw hlr hTk I.ex
    have hle : κ.le (κ.put (st i).t vs.size (w.heap.size, 0, vs.size)) := Kap.put_le (.inl (hnon.1 _))
    refine ⟨u, w', _, xs', hrun, ⟨?_, hx', ⟨I.le.le.trans hle, fun b hi' => ?_⟩, I.frm.trans I.le (hp.frm κ), by rw [put_size]; exact I.n, by rw [put_defers]; exact I.dfs, fun o' b l' hm => ?_, fun j oj hj hoj hcj htj hkj => ?_, R.envputG I.n I.env ho hle hv fun t _ => hval _ (κ.put_get _ _ _), R.oldputG I.old ho hle, fun j oj hoj hcj => ?_, ?_⟩⟩
    · rw [below_put hTk]
      exact I.hr.world (by rw [hp.size]; omega) fun b hb => hp.old (I.hr.ge b hb).2
    · rcases hi' with ⟨p, q, d, n', h⟩ | ⟨p, h⟩
      · rcases κ.put_m _ _ _ p q _ h with h | ⟨_, _, h⟩
        · exact I.le.new b (.inl ⟨p, q, d, n', h⟩)
        · injection h with h _
          subst h; exact .inr I.frm.size
      · exact I.le.new b (.inr ⟨p, h⟩)
    · rcases (hm' _).1 hm with h | h
      · injection h with e1 e2
        subst e1
        exact ⟨i, o, .inr rfl, ho, hc, rfl, ht, hki⟩
      · obtain ⟨j, oj, h1, h2⟩ := I.xin o' b l' h
        exact ⟨j, oj, .inl h1, h2⟩
    · rcases hj with hj | hj
      · obtain ⟨b, l', m1, m2⟩ := I.xout j oj hj hoj hcj htj hkj
        exact ⟨b, l', (hm' _).2 (.inr m1), m2⟩
      · subst hj
        exact ⟨_, _, (hm' _).2 (.inl rfl), hh⟩
    · rw [← I.big j oj hoj hcj]
      constructor
      · rintro (h | h)
        · exact h
        · subst h; rw [ho] at hoj; injection hoj with hoj; subst hoj; omega
      · exact .inl
    · rcases I.hk with h | ⟨j, oj, h1, h2, h3, h4⟩
      · exact .inl h
      · exact .inr ⟨j, oj, h1, h2, h3, .inl h4⟩
  | bx nf x =>
    obtain ⟨u, us, cs, ca, cc, rfl, hrun, hta, htc, hval⟩ := hmk
    obtain ⟨xs', hx', hm'⟩ := Ex.putx (nf := nf) hnon hta htc hTk I.ex
    have hle : κ.le (κ.putx (st i).t (us.toArray, cs.toArray)) := Kap.putx_le hnon.2.1
    refine ⟨u, w, _, xs', hrun, ⟨?_, hx', ⟨I.le.le.trans hle, fun b hi' => ?_⟩, I.frm, by rw [put_size]; exact I.n, by rw [put_defers]; exact I.dfs, fun o' b l' hm => ?_, fun j oj hj hoj hcj htj hkj => ?_, R.envputG I.n I.env ho hle hv fun t _ => hval _ (by simp [Kap.putx]), R.oldputG I.old ho hle, fun j oj hoj hcj => ?_, ?_⟩⟩
    · rw [below_putx hTk]
      exact I.hr
    · refine I.le.new b ?_
      rcases hi' with ⟨p, q, d, n', h⟩ | ⟨p, h⟩
      · exact .inl ⟨p, q, d, n', h⟩
      · exact .inr ⟨p, h⟩
    · rcases (hm' _).1 hm with h | h
      · injection h with e1 e2
        subst e1
        exact ⟨i, o, .inr rfl, ho, hc, rfl, ht, hki⟩
      · obtain ⟨j, oj, h1, h2⟩ := I.xin o' b l' h
        exact ⟨j, oj, .inl h1, h2⟩
    · rcases hj with hj | hj
      · obtain ⟨b, l', m1, m2⟩ := I.xout j oj hj hoj hcj htj hkj
        exact ⟨b, l', (hm' _).2 (.inr m1), m2⟩
      · subst hj
        exact ⟨_, _, (hm' _).2 (.inl rfl), hh⟩
    · rw [← I.big j oj hoj hcj]
      constructor
      · rintro (h | h)
        · exact h
        · subst h; rw [ho] at hoj; injection hoj with hoj; subst hoj; omega
      · exact .inl
    · rcases I.hk with h | ⟨j, oj, h1, h2, h3, h4⟩
      · exact .inl h
      · exact .inr ⟨j, oj, h1, h2, h3, .inl h4⟩
  | no => exact hmk.elim
  | mp _ => exact hmk.elim
  | lp _ _ _ _ _ _ => exact hmk.elim
end
end Go.Proofs.YtjkbljgolcdhhaaGreatDoor.Fw.Cm
