/- Stores: the names' law. -/
import Derived.Test.YtpgecpmonaldiaaHB
set_option autoImplicit false
set_option linter.unusedVariables false
set_option linter.unusedSimpArgs false
namespace Go.Proofs.Ytpgecpmonaldiaa.Fw
open Go Go.Proofs

def thinB (a : AStore) : Bool := decide (a.types.length ≤ 4200) && (decide (a.terms.length ≤ 4200) && ((a.types.all fun n => decide (n.name.size ≤ big) && decide (n.args.length ≤ 20)) && a.terms.all fun n => decide (n.name.size ≤ big) && decide (n.sub.length ≤ 20)))
theorem thin_of {a : AStore} (h : thinB a = true) : a.thin := by
  simp only [thinB, Bool.and_eq_true, decide_eq_true_eq, List.all_eq_true] at h
  exact ⟨h.1, h.2.1, h.2.2.1, h.2.2.2⟩
def zMN : ATermNode := .mk 0 ByteArray.empty 0 0 []
def bVx : ByteArray := ⟨#[120]⟩
def bVy : ByteArray := ⟨#[121]⟩
def bVz : ByteArray := ⟨#[122]⟩
def lam (s : ByteArray) : Tm := .mk 5 s Ty.bool 0 [.mk 3 ByteArray.empty zTy 0 []]
theorem lambda_eq (s : ByteArray) : sequentlaw31_lambda s = some (lam s) := rfl
def sX : AStore := .mk [.mk false bBool []] [.mk 3 ByteArray.empty (-1) 0 [], .mk 5 bVx 0 0 [0]]
theorem lam_ok (s : ByteArray) (h : s.size ≤ big) : (lam s).ok := ⟨by decide, h, ⟨by decide, by decide, trivial⟩, by decide, by decide, ⟨by decide, by decide, ⟨by decide, by decide, trivial⟩, by decide, by decide, trivial⟩, trivial⟩
theorem lam_tys (s : ByteArray) : (lam s).tys := ⟨by show _ ≤ _; decide, ⟨by show _ ≤ _; decide, trivial⟩, trivial⟩
theorem lam_check : (lam bVx).check = 0 ∧ (lam bVy).check = 0 ∧ (lam bVz).check = 0 := by decide
theorem lam_add : AddS noS (lam bVx) = (sX, 1, 0) := by kernel_rfl
theorem sX_Sto : ∃ tys tms, Sto sX tys tms ∧ tms[1]? = some (lam bVx).er := by
  obtain ⟨hc, tys, tms, hs, i, e, e', f, f', h1, h2⟩ := AddS_ok (a := noS) (t := lam bVx) (by rw [lam_add])
  rw [lam_add] at h1
  simp only [Prod.mk.injEq, and_true] at h1
  obtain ⟨g1, g2⟩ := h1
  have : i = 1 := by omega
  subst this
  exact ⟨_, _, g1 ▸ h2.st, h2.at_⟩
theorem check_at (a : AStore) (h : thinB a = true) (r : Int) (hr : (if a.few = true then (if a.wf = true then 0 else 8) else 4) = r) : hash_Check a = some r := by
  rw [hash_Check_eq a (thin_of h), hr]
theorem eqInts_l (xs : List Int) : ∀ (j k : Nat), k + j = xs.length → slices_Equal_int_int_l0 (xs.drop k) k xs = some true
  | 0, k, h => by rw [slices_Equal_int_int_l0_eq, List.drop_eq_nil_of_le (by omega)]
  | j + 1, k, h => by
    obtain ⟨y, g1, g2⟩ := geti_drop (l := xs) (k := k) (n := j) h
    rw [slices_Equal_int_int_l0_eq, g2]
    simp only []
    rw [g1, bs, if_neg (by simp)]
    exact eqInts_l xs j (k + 1) (by omega)
theorem eqInts (xs : List Int) : slices_Equal_int_int xs xs = some true := by
  rw [slices_Equal_int_int, if_neg (by simp)]
  exact eqInts_l xs xs.length 0 (by omega)
theorem eqT_l (xs : List TN) : ∀ (j k : Nat), k + j = xs.length → slices_EqualFunc_TypeNode_TypeNode_TypeNode_TypeNode__hash_Same_1_l0 (xs.drop k) k xs = some true
  | 0, k, h => by rw [slices_EqualFunc_TypeNode_TypeNode_TypeNode_TypeNode__hash_Same_1_l0_eq, List.drop_eq_nil_of_le (by omega)]
  | j + 1, k, h => by
    obtain ⟨y, g1, g2⟩ := geti_drop (l := xs) (k := k) (n := j) h
    rw [slices_EqualFunc_TypeNode_TypeNode_TypeNode_TypeNode__hash_Same_1_l0_eq, g2]
    simp only []
    have hs : hash_Same_1 y y = some true := by
      unfold hash_Same_1
      simp only [eqInts, bs, if_true]
    rw [g1, bs, hs, bs, if_pos rfl]
    exact eqT_l xs j (k + 1) (by omega)
theorem eqM_l (xs : List MN) : ∀ (j k : Nat), k + j = xs.length → slices_EqualFunc_TermNode_TermNode_TermNode_TermNode__hash_Same_2_l0 (xs.drop k) k xs = some true
  | 0, k, h => by rw [slices_EqualFunc_TermNode_TermNode_TermNode_TermNode__hash_Same_2_l0_eq, List.drop_eq_nil_of_le (by omega)]
  | j + 1, k, h => by
    obtain ⟨y, g1, g2⟩ := geti_drop (l := xs) (k := k) (n := j) h
    rw [slices_EqualFunc_TermNode_TermNode_TermNode_TermNode__hash_Same_2_l0_eq, g2]
    simp only []
    have hs : hash_Same_2 y y = some true := by
      unfold hash_Same_2
      simp only [eqInts, bs, if_true]
    rw [g1, bs, hs, bs, if_pos rfl]
    exact eqM_l xs j (k + 1) (by omega)
theorem hash_Same_self (a : AStore) : hash_Same a a = some true := by
  rw [hash_Same, slices_EqualFunc_TypeNode_TypeNode_TypeNode_TypeNode__hash_Same_1, if_neg (by simp)]
  have h1 := eqT_l a.types a.types.length 0 (by omega)
  simp only [List.drop_zero] at h1
  rw [h1, bs, if_pos rfl, slices_EqualFunc_TermNode_TermNode_TermNode_TermNode__hash_Same_2, if_neg (by simp)]
  have h2 := eqM_l a.terms a.terms.length 0 (by omega)
  simp only [List.drop_zero] at h2
  rw [h2, bs]
theorem zTm_check : zTm.check = 20 := by decide
theorem zTm_okk : zTm.ok := zTm_fine.1
theorem names_add : hash_Add sX zTm = some (noS, 0, 20) := by
  obtain ⟨tys, tms, hs, hi⟩ := sX_Sto
  rw [hash_Add_eq sX hs.thin zTm zTm_fine.1 zTm_fine.lim zTm_fine.2.1, AddS, if_pos hs.few, if_pos hs.wf, zTm_check, if_neg (by decide)]
theorem names_addType : hash_AddType sX zTy = some (noS, 0, 10) := by
  obtain ⟨tys, tms, hs, hi⟩ := sX_Sto
  unfold hash_AddType
  rw [open_eq sX hs.thin, bs, if_pos hs.few, if_pos hs.wf]
  simp only [hash_AddType_j0c]
  rw [types_Check_eq zTy zTy_ok (by decide), bs, show tcheck zTy = 10 by decide, if_pos (by decide)]
  rfl
theorem names_get2 : hash_Get sX 2 = some (zTm, 6) := by
  obtain ⟨tys, tms, hs, hi⟩ := sX_Sto
  unfold hash_Get
  rw [open_eq sX hs.thin, bs, if_pos hs.few, if_pos hs.wf]
  simp only [hash_Get_j0c, hash_table_size_io, ATermNode.Ds_len]
  rw [if_neg (by decide), if_pos (by decide), bs]
  rfl
theorem names_size : hash_Size sX (-1) = some (0, 6) := by
  obtain ⟨tys, tms, hs, hi⟩ := sX_Sto
  unfold hash_Size
  rw [open_eq sX hs.thin, bs, if_pos hs.few, if_pos hs.wf]
  simp only [hash_Size_j0c, hash_table_size_io, ATermNode.Ds_len]
  rw [if_pos (by decide), bs]
theorem names_getType : ∃ t, hash_GetType sX 1 = some (t, 6) := by
  obtain ⟨tys, tms, hs, hi⟩ := sX_Sto
  unfold hash_GetType
  rw [open_eq sX hs.thin, bs, if_pos hs.few, if_pos hs.wf]
  simp only [hash_GetType_j0c, ATypeNode.Ds_len]
  rw [if_neg (by decide), if_pos (by decide)]
  exact ⟨_, rfl⟩
def bound0 : Tm := .mk 3 ByteArray.empty zTy 0 []
theorem names_get0 : ∃ t, hash_Get sX 0 = some (t, 20) := by
  obtain ⟨tys, tms, hs, hi⟩ := sX_Sto
  have h0 : tms[0]? = some bound0 := by
    obtain ⟨g1, g2⟩ := hs.wm.node (show sX.terms[0]? = some (.mk 3 ByteArray.empty (-1) 0 []) from rfl)
    rw [g1]; rfl
  obtain ⟨y, k1, k2, k3⟩ := term_io_eq hs.wt hs.wm (mapOf keyT 0 sX.types) (mapOf keyM 0 sX.terms) 0 _ h0
  have hy : y = bound0 := by
    obtain ⟨k, n, t, i, xs⟩ := y
    simp only [Tm.er, bound0, Tm.mk.injEq] at k2
    obtain ⟨rfl, h2, rfl, rfl, h5⟩ := k2
    rw [if_neg (by decide)] at h2
    have : xs = [] := by
      cases xs with
      | nil => rfl
      | cons a r => simp [Tm.ers] at h5
    rw [h2, this]; rfl
  subst hy
  have hs0 := table_size_eq hs h0 (by decide) (by decide) sX.types (mapOf keyT 0 sX.types) (mapOf keyM 0 sX.terms)
  unfold hash_Get
  rw [open_eq sX hs.thin, bs, if_pos hs.few, if_pos hs.wf]
  simp only [hash_Get_j0c]
  have hs0 : hash_table_size_io 0 sX.types sX.terms (mapOf keyT 0 sX.types) (mapOf keyM 0 sX.terms) = _ := hs0
  have k1 : hash_table_term_io 0 sX.types sX.terms (mapOf keyT 0 sX.types) (mapOf keyM 0 sX.terms) = _ := k1
  rw [hs0, bs]
  simp only [ne_eq, not_true_eq_false, if_false]
  rw [k1, bs]
  simp only []
  rw [terms_Check_eq bound0 ⟨by decide, by decide, ⟨by decide, by decide, trivial⟩, by decide, by decide, trivial⟩ (by decide) ⟨by decide, trivial⟩, bs, show bound0.check = 20 by decide, if_pos (by decide)]
  exact ⟨_, rfl⟩
theorem HashNames_law : sequentlaw31_HashNames = some true := by
  obtain ⟨tys, tms, hs, hi⟩ := sX_Sto
  unfold sequentlaw31_HashNames
  rw [alive_eq, bs, if_pos rfl, check_at (.mk [] []) (by kernel_rfl) 0 (by kernel_rfl), bs, if_pos rfl]
  rw [check_at (.mk [] (List.replicate 4097 (.mk 0 ByteArray.empty 0 0 []))) (by kernel_rfl) 4 (by kernel_rfl), bs, if_pos rfl]
  rw [check_at (.mk [] (List.replicate 1 (.mk 0 ByteArray.empty 0 0 []))) (by kernel_rfl) 8 (by kernel_rfl), bs, if_pos rfl]
  unfold sequentlaw31_HashNames_j0
  have e1 : hash_Add (AStore.mk [] []) (lam bVx) = some (sX, 1, 0) := by
    rw [show (AStore.mk ([] : List ATypeNode) ([] : List ATermNode)) = noS from rfl, hash_Add_eq noS noS_Sto.thin _ (lam_ok _ (by decide)) (by decide) (lam_tys _), lam_add]
  obtain ⟨o1, o2⟩ := AddS_old hs lam_check.2.1 (show tms[1]? = some (lam bVy).er from hi)
  obtain ⟨o3, o4⟩ := AddS_old hs lam_check.2.2 (show tms[1]? = some (lam bVz).er from hi)
  have e2 : hash_Add sX (lam bVy) = some (sX, 1, 0) := by rw [hash_Add_eq sX hs.thin _ (lam_ok _ (by decide)) (by decide) (lam_tys _), o1]; rfl
  have e3 : hash_Find sX (lam bVz) = some (1, true, 0) := by rw [hash_Find_eq sX hs.thin _ (lam_ok _ (by decide)) (by decide) (lam_tys _), o4]; rfl
  rw [lambda_eq, bs, show lam (ByteArray.mk #[120]) = lam bVx from rfl, e1, bs, lambda_eq, bs, show lam (ByteArray.mk #[121]) = lam bVy from rfl, e2, bs]
  unfold sequentlaw31_HashNames_j1
  rw [lambda_eq, bs, show lam (ByteArray.mk #[122]) = lam bVz from rfl, e3, bs]
  simp only [if_true]
  rw [hash_Same_self, bs, if_pos rfl, if_pos (by rfl), show geti sX.terms 1 = some (.mk 5 bVx 0 0 [0]) from rfl, bs, if_pos (show (ATermNode.mk 5 bVx 0 0 [0]).name = ByteArray.mk #[120] from rfl)]
  unfold sequentlaw31_HashNames_j2
  obtain ⟨t1, n1⟩ := names_getType
  obtain ⟨t2, n2⟩ := names_get0
  rw [show (Tm.mk 0 ByteArray.empty (Ty.mk false ByteArray.empty ([] : List Ty)) 0 ([] : List Tm)) = zTm from rfl, show (Ty.mk false ByteArray.empty ([] : List Ty)) = zTy from rfl]
  simp only []
  rw [names_add, bs, names_addType, bs, names_get2, bs, n2, bs, n1, bs, names_size, bs]
  simp only [if_true]
  unfold sequentlaw31_HashNames_j3
  rw [if_pos rfl, check_at (.mk [.mk false (ByteArray.mk #[98, 111, 111, 108]) [], .mk false (ByteArray.mk #[98, 111, 111, 108]) []] []) (by kernel_rfl) 8 (by kernel_rfl), bs, if_pos rfl]
  rw [check_at (.mk [.mk false (ByteArray.mk #[102, 117, 110]) [0, 0]] []) (by kernel_rfl) 8 (by kernel_rfl), bs]
  rfl
end Go.Proofs.Ytpgecpmonaldiaa.Fw
