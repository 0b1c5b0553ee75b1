/- The law, walked. -/
import Derived.Test.YtemfpemejagndaaG0
import Derived.Test.YtemfpemejagndaaG1
import Derived.Test.YtemfpemejagndaaG2
import Derived.Test.YtemfpemejagndaaG3
import Derived.Test.YtemfpemejagndaaG4
import Derived.Test.YtemfpemejagndaaFwNf
import Derived.Deep.LoopGhost
set_option autoImplicit false
set_option linter.unusedVariables false
set_option linter.unnecessarySimpa false
set_option linter.unusedSimpArgs false
set_option maxHeartbeats 4000000
namespace Go.Proofs.Ytemfpemejagndaa.Fw
open Go Go.Proofs Go.RowKit
theorem VRel.ptr_inv {c : Ctx} {v : Value} {l i off : Nat} (h : VRel c v (.ptr l i off)) : ∃ e, c.ent l i = some e ∧ e.g = false ∧ v = .pointer (some ⟨e.b, off, none⟩) := by
 cases h with | ptr _ _ _ e he hg => exact ⟨e, he, hg, rfl⟩
theorem VRel.vp_inv {c : Ctx} {v : Value} {a : Addr} {x : D} (h : VRel c v (.vp a x)) : v = .pointer (some a) := by cases h; rfl
theorem intDs_int (l : List Int) : ∀ y ∈ flat (intDs_i64 l), ∃ kd m, y = D.int kd m := by
 intro y hy
 rw [intDs_i64_map] at hy
 obtain ⟨x, hx, hy⟩ := List.mem_flatMap.1 hy
 obtain ⟨m, _, rfl⟩ := List.mem_map.1 hx
 exact ⟨.i64, m, by simpa [D.cells] using hy⟩
theorem law_loop {w0 : World} {H0 : Imm} (hm : Models w0 H0) (hbase : H0.base = w0.heap.size) {i : Nat} {x0 : AV} {l : List XN} {p3 p4 p5 p7 : Addr} {d3 d4 d5 d7 : D} {s : Env} {fr : Frs} {Q : Ex → Env → Frs → Prop}
  (hd : ∀ j (h : j < [((3 : Tmp), d3), (4, d4), (5, d5), (7, d7)].length) (h' : j < [p3, p4, p5, p7].length), DRel H0 (.pointer (some [p3, p4, p5, p7][j])) (.ptr [((3 : Tmp), d3), (4, d4), (5, d5), (7, d7)][j].2.aged)) (hpos : 0 < d3.cells.length)
  (l3 : lookup 3 s = .vp p3 d3.aged) (l4 : lookup 4 s = .vp p4 d4.aged) (l5 : lookup 5 s = .vp p5 d5.aged) (l7 : lookup 7 s = .vp p7 d7.aged)
  (l8 : lookup 8 s = .ptr 0 i 0) (hfr : (fr[0]?).bind (fun r => r[i]?) = some (.cells [x0, .d (.slice 5 (XN.Ds l))])) (l14 : lookup 14 s = .d (.bool true)) (l15 : lookup 15 s = .d (.int .i64 0))
  (hQ : Q .normal ((14, .d (.bool true)) :: vps [(3, d3), (4, d4), (5, d5), (7, d7)] [p3, p4, p5, p7]) [[]]) :
  NR Try.prog Try.f3.ntmps w0 H0 (codeAt [1, 1, 1, 1, 1, 1, 1, 1, 1, 0, 1] (bodyOf Try.f3)) Q s fr := by
 refine ⟨fun c a w hs hb => ?_⟩
 have hp0 : 0 < w0.heap.size := by
  have h0 := hd 0 (by simp) (by simp)
  simp only [List.getElem_cons_zero] at h0
  cases h0 with | ptr _ b o vals hv hH hl hr => have := hm.cell_lt (hH 0 (by rw [D.aged_cells, ageds_len]; exact hpos)); omega
 have h8 := hs.rel 8; rw [l8] at h8
 obtain ⟨e, he, hg, h8⟩ := h8.ptr_inv
 have h3 := hs.rel 3; rw [l3] at h3; replace h3 := h3.vp_inv
 have h4 := hs.rel 4; rw [l4] at h4; replace h4 := h4.vp_inv
 have h5 := hs.rel 5; rw [l5] at h5; replace h5 := h5.vp_inv
 have h7 := hs.rel 7; rw [l7] at h7; replace h7 := h7.vp_inv
 have h14 := hs.rel 14; rw [l14] at h14; replace h14 := h14.bool_inv
 have h15 := hs.rel 15; rw [l15] at h15; replace h15 := h15.int_inv
 have hbr := hs.ok.blk 0 i e _ he hfr
 rw [Ctx.drop_zero] at hbr
 cases hbr with | cells _ vs t hg' hw hn hl hr =>
 have hlen : vs.length = 2 := hn
 have hv1 : w.cell? ⟨e.b, 1, none⟩ = some (vs.getD 1 default) := by rw [cell_of_heap hw]; exact getD_some (by omega)
 have hd1 := (hr 1 (by simp)).dd
 generalize vs.getD 1 default = v1 at hv1 hd1
 obtain ⟨q, cap, b, o, hv, W, rfl, hmax, hq, hS, hF⟩ := scr_start hb hs.ok hp0 hbase he hg' hv1 hd1 4 1 (fun k x hk => by
  rw [XN.Ds_map, List.getElem?_map] at hk
  cases hlk : l[k]? with
  | none => rw [hlk] at hk; cases hk
  | some y =>
   rw [hlk] at hk; injection hk with hk; subst hk
   exact ⟨⟨_, rfl⟩, _, rfl, intDs_int _⟩)
 simp only [XN.Ds_len] at hS hF hmax hq
 let base : List (Nat × Value) := [(3, .pointer (some p3)), (4, .pointer (some p4)), (5, .pointer (some p5)), (7, .pointer (some p7)), (8, .pointer (some ⟨e.b, 0, none⟩)), (14, .bool true)]
 have hH0 : Has Try.f3.ntmps ((15, .int .i64 (0 : Nat)) :: base) a := by
  refine ⟨hs.n, hs.ds, fun t v ht => ?_⟩
  simp only [aget, base] at ht
  repeat (split at ht; · rename_i he'; have := Nat.eq_of_beq_eq_true he'; subst this; injection ht with ht; subst ht; assumption)
  cases ht
 generalize hC : codeAt [1, 1, 1, 1, 1, 1, 1, 1, 1, 0, 1] (bodyOf Try.f3) = C
 replace hC := hC.symm
 conv at hC => rhs; whnf
 subst hC
 refine wp_block (wp_loop_ghost (fun n a w => ∃ k : Nat, k ≤ l.length ∧ n = l.length - k ∧ Has Try.f3.ntmps ((15, .int .i64 (k : Int)) :: base) a ∧ Scr w0 e.b (.slice q l.length cap) b o 5 4 l.length hv W w) (l.length - 0) ⟨0, Nat.zero_le _, rfl, hH0, by simpa [XN.Ds_len] using hS⟩ ?_)
 clear hS hH0 h3 h4 h5 h7 h8 h14 h15 hs
 rintro n a w ⟨k, hk, rfl, hA, hS⟩
 by_cases hkl : k < l.length
 ·obtain rfl : q = some ⟨b, o, none⟩ := hq (by intro h; have := congrArg List.length h; rw [XN.Ds_len] at this; simp at this; rw [this] at hkl; simp at hkl)
  clear hq hv1 hd1
  refine wp_seq (wp_seq (wp_region_list ?_))
  refine x_op (d := 88) rfl rfl rfl hA (x_move (hA.tmp rfl)) fun a hA => ?_
  refine x_op (d := 89) rfl rfl rfl hA (x_field T_ok rfl rfl (by decide) (hA.tmp rfl)) fun a hA => ?_
  refine x_op (d := 90) rfl rfl rfl hA (x_load T_ok rfl rfl (hA.tmp rfl) hS.box) fun a hA => ?_
  refine x_op (d := 91) rfl rfl rfl hA (x_len T_ok rfl rfl (hA.tmp rfl)) fun a hA => ?_
  refine x_op (d := 92) rfl rfl rfl hA (x_lss (hA.tmp rfl) (hA.tmp rfl)) fun a hA => ?_
  refine wpList_nil ?_
  replace hA := hA.sub (ts' := (92, .bool true) :: (15, .int .i64 (k : Int)) :: base) ⟨by simp [aget]; omega, rfl, rfl, rfl, rfl, rfl, rfl, rfl, trivial⟩
  change Code.wp _ _ _ _ _
  refine wp_cond_true (hA.tmp rfl) (wp_skip ?_)
  change Code.wp _ _ _ _ _
  refine wp_seq (wp_block (wp_seq (wp_region_list ?_)))
  refine x_op (d := 95) rfl rfl rfl hA (x_field T_ok rfl rfl (by decide) (hA.tmp rfl)) fun a hA => ?_
  refine x_op (d := 96) rfl rfl rfl hA (x_load T_ok rfl rfl (hA.tmp rfl) hS.box) fun a hA => ?_
  refine x_op (d := 97) rfl rfl rfl hA (x_move (hA.tmp rfl)) fun a hA => ?_
  refine x_op (d := 98) rfl rfl rfl hA (x_index T_ok rfl rfl (hA.tmp rfl) (hA.tmp rfl) hkl) fun a hA => ?_
  refine x_op (d := 99) rfl rfl rfl hA (x_field T_ok rfl rfl (by decide) (hA.tmp rfl)) fun a hA => ?_
  refine x_st T_ok rfl rfl (hA.tmp rfl) (v := .string ⟨#[63]⟩) rfl ⟨(fun _ h => by cases h), (fun _ h => by cases h)⟩ hS hF (hF.nam k hkl) fun w hS => ?_
  refine wpList_nil ?_
  replace hA := hA.sub (ts' := (15, .int .i64 (k : Int)) :: base) ⟨rfl, rfl, rfl, rfl, rfl, rfl, rfl, trivial⟩
  change Code.wp _ _ _ _ _
  refine wp_seq (wp_region_list ?_)
  refine x_op (d := 16) (v := .int .i64 ((0 : Nat) : Int)) rfl rfl rfl hA (x_assign rfl) fun a hA => ?_
  refine wpList_nil ?_
  change Code.wp _ _ _ _ _
  obtain ⟨sk, nk, ck, hvk, hnk, hsub⟩ := hF.sub k hkl
  refine wp_block (wp_loop_ghost (fun n a w => ∃ m : Nat, m ≤ nk ∧ n = nk - m ∧ Has Try.f3.ntmps ((16, .int .i64 (m : Int)) :: (15, .int .i64 (k : Int)) :: base) a ∧ Scr w0 e.b (.slice (some ⟨b, o, none⟩) l.length cap) b o 5 4 l.length hv W w) (nk - 0) ⟨0, Nat.zero_le _, rfl, hA, hS⟩ ?_)
  clear hS hA
  rintro n a w ⟨m, hm', rfl, hA, hS⟩
  refine wp_seq (wp_seq (wp_region_list ?_))
  refine x_op (d := 100) rfl rfl rfl hA (x_move (hA.tmp rfl)) fun a hA => ?_
  refine x_op (d := 101) rfl rfl rfl hA (x_field T_ok rfl rfl (by decide) (hA.tmp rfl)) fun a hA => ?_
  refine x_op (d := 102) rfl rfl rfl hA (x_load T_ok rfl rfl (hA.tmp rfl) hS.box) fun a hA => ?_
  refine x_op (d := 103) rfl rfl rfl hA (x_move (hA.tmp rfl)) fun a hA => ?_
  refine x_op (d := 104) rfl rfl rfl hA (x_index T_ok rfl rfl (hA.tmp rfl) (hA.tmp rfl) hkl) fun a hA => ?_
  refine x_op (d := 105) rfl rfl rfl hA (x_field T_ok rfl rfl (by decide) (hA.tmp rfl)) fun a hA => ?_
  refine x_op (d := 106) rfl rfl rfl hA (x_load T_ok rfl rfl (hA.tmp rfl) ((hS.hdr k hkl).trans (congrArg some hvk))) fun a hA => ?_
  refine x_op (d := 107) rfl rfl rfl hA (x_len T_ok rfl rfl (hA.tmp rfl)) fun a hA => ?_
  refine x_op (d := 108) rfl rfl rfl hA (x_lss (hA.tmp rfl) (hA.tmp rfl)) fun a hA => ?_
  refine wpList_nil ?_
  change Code.wp _ _ _ _ _
  by_cases hml : m < nk
  ·replace hA := hA.sub (ts' := (108, .bool true) :: (16, .int .i64 (m : Int)) :: (15, .int .i64 (k : Int)) :: base) ⟨by simp [aget]; omega, rfl, rfl, rfl, rfl, rfl, rfl, rfl, rfl, trivial⟩
   refine wp_cond_true (hA.tmp rfl) (wp_skip ?_)
   change Code.wp _ _ _ _ _
   obtain ⟨sb, so, hsk, hW⟩ := hsub m hml
   have hvk' : hv k = .slice (some ⟨sb, so, none⟩) nk ck := by rw [hvk, hsk]
   refine wp_seq (wp_block (wp_region_list ?_))
   refine x_op (d := 111) rfl rfl rfl hA (x_field T_ok rfl rfl (by decide) (hA.tmp rfl)) fun a hA => ?_
   refine x_op (d := 112) rfl rfl rfl hA (x_load T_ok rfl rfl (hA.tmp rfl) hS.box) fun a hA => ?_
   refine x_op (d := 113) rfl rfl rfl hA (x_move (hA.tmp rfl)) fun a hA => ?_
   refine x_op (d := 114) rfl rfl rfl hA (x_index T_ok rfl rfl (hA.tmp rfl) (hA.tmp rfl) hkl) fun a hA => ?_
   refine x_op (d := 115) rfl rfl rfl hA (x_field T_ok rfl rfl (by decide) (hA.tmp rfl)) fun a hA => ?_
   refine x_op (d := 116) rfl rfl rfl hA (x_load T_ok rfl rfl (hA.tmp rfl) ((hS.hdr k hkl).trans (congrArg some hvk'))) fun a hA => ?_
   refine x_op (d := 117) rfl rfl rfl hA (x_move (hA.tmp rfl)) fun a hA => ?_
   refine x_op (d := 118) rfl rfl rfl hA (x_index T_ok rfl rfl (hA.tmp rfl) (hA.tmp rfl) hml) fun a hA => ?_
   refine x_st T_ok rfl rfl (hA.tmp rfl) (v := .int .i64 77) rfl ⟨(fun _ h => by cases h), (fun _ h => by cases h)⟩ hS hF (show W sb (so + m * 1) by rw [Nat.mul_one]; exact hW) fun w hS => ?_
   refine wpList_nil ?_
   change Code.wp _ _ _ _ _
   refine wp_region_list ?_
   refine x_op (d := 109) rfl rfl rfl hA (x_move (hA.tmp rfl)) fun a hA => ?_
   refine x_op (d := 110) rfl rfl rfl hA (x_succ (m := m) (hA.tmp rfl) rfl (by omega)) fun a hA => ?_
   refine x_op (d := 16) rfl rfl rfl hA (x_assign (hA.tmp rfl)) fun a hA => ?_
   refine wpList_nil ?_
   change ∃ n', n' < nk - m ∧ _
   exact ⟨nk - (m + 1), by omega, m + 1, hml, rfl, hA.sub ⟨rfl, rfl, rfl, rfl, rfl, rfl, rfl, rfl, trivial⟩, hS⟩
  ·replace hA := hA.sub (ts' := (108, .bool false) :: (15, .int .i64 (k : Int)) :: base) ⟨by simp [aget]; omega, rfl, rfl, rfl, rfl, rfl, rfl, rfl, trivial⟩
   refine wp_cond_false (hA.tmp rfl) (wp_exit ?_)
   change Code.wp _ _ _ _ _
   refine wp_region_list ?_
   refine x_op (d := 93) rfl rfl rfl hA (x_move (hA.tmp rfl)) fun a hA => ?_
   refine x_op (d := 94) rfl rfl rfl hA (x_succ (m := k) (hA.tmp rfl) rfl (by omega)) fun a hA => ?_
   refine x_op (d := 15) rfl rfl rfl hA (x_assign (hA.tmp rfl)) fun a hA => ?_
   refine wpList_nil ?_
   change ∃ n', n' < l.length - k ∧ _
   exact ⟨l.length - (k + 1), by omega, k + 1, hkl, rfl, hA.sub ⟨rfl, rfl, rfl, rfl, rfl, rfl, rfl, trivial⟩, hS⟩
 ·clear hv1 hd1
  refine wp_seq (wp_seq (wp_region_list ?_))
  refine x_op (d := 88) rfl rfl rfl hA (x_move (hA.tmp rfl)) fun a hA => ?_
  refine x_op (d := 89) rfl rfl rfl hA (x_field T_ok rfl rfl (by decide) (hA.tmp rfl)) fun a hA => ?_
  refine x_op (d := 90) rfl rfl rfl hA (x_load T_ok rfl rfl (hA.tmp rfl) hS.box) fun a hA => ?_
  refine x_op (d := 91) rfl rfl rfl hA (x_len T_ok rfl rfl (hA.tmp rfl)) fun a hA => ?_
  refine x_op (d := 92) rfl rfl rfl hA (x_lss (hA.tmp rfl) (hA.tmp rfl)) fun a hA => ?_
  refine wpList_nil ?_
  replace hA := hA.sub (ts' := (92, .bool false) :: base) ⟨by simp [aget]; omega, rfl, rfl, rfl, rfl, rfl, rfl, trivial⟩
  change Code.wp _ _ _ _ _
  refine wp_cond_false (hA.tmp rfl) (wp_exit ?_)
  change QN _ _ _ _ .normal a w
  have hbel := hS.below
  refine ⟨.normal, _, [[]], ⟨w0.heap.size, [], w0, H0, [[]]⟩, trivial, hQ, ⟨rfl, rfl, rfl, Imm.ext.refl _ _⟩, (nest_ok hm (Nat.le_of_eq hbase)).calls hbel (Nat.le_refl _) (Imm.ext.refl _ _) (hm.below hbel), hbel.size, hA.n, hA.ds, fun t => ?_⟩
  simp only [lookup]
  split
  ·rename_i he'
   have := Nat.eq_of_beq_eq_true he'
   subst this
   rw [hA.rel 14 (.bool true) rfl]
   exact .d _ _ (.bool true)
  ·refine vps_rel rfl (fun j hj hj' => ⟨?_, hd j hj hj'⟩) t
   match j, hj, hj' with
   | 0, _, _ => exact hA.rel 3 _ rfl
   | 1, _, _ => exact hA.rel 4 _ rfl
   | 2, _, _ => exact hA.rel 5 _ rfl
   | 3, _, _ => exact hA.rel 7 _ rfl
theorem P_law {s own a1 b1 a2 b2 : AStore} {i1 e1 i2 e2 : Int} {u : Ty} {t : Tm} (q1 : z31_Great s = some false) (q2 : z01_Great u = some false) (q3 : z31_Wide t = some false) (q4 : z31_Twin s = some own)
  (q5 : hash_AddType_o own u = some (a1, i1, e1)) (q6 : z31_AddType s u = some (b1, i1, e1)) (q7 : z31_Same a1 b1 = some true)
  (q8 : hash_Add_o own t = some (a2, i2, e2)) (q9 : z31_Add s t = some (b2, i2, e2)) (q10 : z31_Same a2 b2 = some true)
  {i3 e3 : Int} {h3 : Bool} (q11 : hash_Find_o own t = some (i3, h3, e3)) (q12 : z31_Find s t = some (i3, h3, e3)) (q13 : z31_Same own s = some true) : Pure Try.prog 3 [AStore.D s, Ty.D u, Tm.D t] (.bool true) := by
 refine pure_of_runs T_ok Try.func3 rfl (by decide +kernel) rfl ?_
 refine Runs.step T_ok ?_; conv => whnf
 refine Runs.step T_ok ?_; conv => whnf
 refine said_pure (P_z31_Great q1) rfl ?_; conv => whnf
 refine said_pure (P_z01_Great q2) rfl ?_; conv => whnf
 refine said_pure (P_z31_Wide q3) rfl ?_; conv => whnf
 refine Runs.step T_ok ?_; conv => whnf
 refine said_pure (P_z31_Twin q4) rfl ?_; conv => whnf
 refine nest [(3, AStore.D s), (4, Ty.D u), (5, Tm.D t), (7, AStore.D own)] 6 (.bool true) rfl ?_ ?_ ?_
 ·exact rfl
 ·intro j hj
  match j, hj with
  | 0, _ => exact ⟨rfl, _, _, _, rfl, rfl, rfl, rfl⟩
  | 1, _ => exact ⟨rfl, _, _, _, rfl, rfl, rfl, rfl⟩
  | 2, _ => exact ⟨rfl, _, _, _, rfl, rfl, rfl, rfl⟩
  | 3, _ => exact ⟨rfl, _, _, _, rfl, rfl, rfl, rfl⟩
 intro w0 H0 qs hm hb hn hd
 match qs, hn with
 | [p3, p4, p5, p7], _ =>
 have fS : ∀ {ti : TI} (x : AStore), ti.agg = true → ti.sz = 2 → Fit ti (AStore.D x).aged := fun x h1 h2 => ageds_fit (AStore.Ds_fit x h1 h2)
 refine NR.step T_ok ?_; conv => whnf
 refine ⟨fS _ rfl rfl, ?_⟩; conv => whnf
 refine ⟨ageds_fit (Ty.Ds_fit _ rfl rfl), ?_⟩; conv => whnf
 refine said_pure (P_hash_AddType_o q5) rfl ?_; conv => whnf
 refine NR.step T_ok ?_; conv => whnf
 refine ⟨fS _ rfl rfl, ?_⟩; conv => whnf
 refine ⟨ageds_fit (Ty.Ds_fit _ rfl rfl), ?_⟩; conv => whnf
 refine said_agedR (P_z31_AddType q6) (ys := [D.aged (AStore.D s), D.aged (Ty.D u)]) rfl ⟨.inr rfl, .inr rfl, trivial⟩ ?_; conv => whnf
 refine NR.step T_ok ?_; conv => whnf
 refine said_aged (P_z31_Same q7) (ys := [AStore.D a1, D.aged (AStore.D b1)]) rfl ⟨.inl rfl, .inr rfl, trivial⟩ rfl ?_; conv => whnf
 refine ⟨⟨fun _ => ?_, fun h => absurd rfl h⟩⟩; conv => whnf
 refine ⟨⟨fun _ => ?_, fun h => absurd rfl h⟩⟩; conv => whnf
 refine NR.step T_ok ?_; conv => whnf
 refine ⟨fS _ rfl rfl, ?_⟩; conv => whnf
 refine ⟨ageds_fit (Tm.Ds_fit _ rfl rfl), ?_⟩; conv => whnf
 refine said_pure (P_hash_Add_o q8) rfl ?_; conv => whnf
 refine NR.step T_ok ?_; conv => whnf
 refine ⟨fS _ rfl rfl, ?_⟩; conv => whnf
 refine ⟨ageds_fit (Tm.Ds_fit _ rfl rfl), ?_⟩; conv => whnf
 refine said_agedR (P_z31_Add q9) (ys := [D.aged (AStore.D s), D.aged (Tm.D t)]) rfl ⟨.inr rfl, .inr rfl, trivial⟩ ?_; conv => whnf
 refine NR.step T_ok ?_; conv => whnf
 refine said_aged (P_z31_Same q10) (ys := [AStore.D a2, D.aged (AStore.D b2)]) rfl ⟨.inl rfl, .inr rfl, trivial⟩ rfl ?_; conv => whnf
 refine ⟨⟨fun _ => ?_, fun h => absurd rfl h⟩⟩; conv => whnf
 refine ⟨⟨fun _ => ?_, fun h => absurd rfl h⟩⟩; conv => whnf
 refine NR.seq ?_
 refine NR.step T_ok ?_; conv => whnf
 refine law_loop (i := 0) (l := a2.terms) hm hb hd (by simp [AStore.D, D.cells]) rfl rfl rfl rfl rfl rfl rfl rfl ?_; conv => whnf
 refine NR.step T_ok ?_; conv => whnf
 refine ⟨fS _ rfl rfl, ?_⟩; conv => whnf
 refine ⟨ageds_fit (Tm.Ds_fit _ rfl rfl), ?_⟩; conv => whnf
 refine said_pure (P_hash_Find_o q11) rfl ?_; conv => whnf
 refine NR.step T_ok ?_; conv => whnf
 refine ⟨fS _ rfl rfl, ?_⟩; conv => whnf
 refine ⟨ageds_fit (Tm.Ds_fit _ rfl rfl), ?_⟩; conv => whnf
 refine said_aged (P_z31_Find q12) (ys := [D.aged (AStore.D s), D.aged (Tm.D t)]) rfl ⟨.inr rfl, .inr rfl, trivial⟩ rfl ?_; conv => whnf
 refine NR.step T_ok ?_; conv => whnf
 refine ⟨⟨fun _ => ?_, fun h => absurd rfl h⟩⟩; conv => whnf
 refine ⟨⟨fun _ => ?_, fun h => absurd rfl h⟩⟩; conv => whnf
 refine ⟨⟨fun _ => ?_, fun h => absurd rfl h⟩⟩; conv => whnf
 refine ⟨fS _ rfl rfl, ?_⟩; conv => whnf
 refine ⟨fS _ rfl rfl, ?_⟩; conv => whnf
 refine said_aged (P_z31_Same q13) (ys := [D.aged (AStore.D own), D.aged (AStore.D s)]) rfl ⟨.inr rfl, .inr rfl, trivial⟩ rfl ?_; conv => whnf
 refine NR.awp T_ok ?_
 exact ⟨rfl, rfl⟩
theorem P_law1 {s : AStore} {u : Ty} {t : Tm} (q1 : z31_Great s = some true) : Pure Try.prog 3 [AStore.D s, Ty.D u, Tm.D t] (.bool true) := by
 refine pure_of_runs T_ok Try.func3 rfl (by decide +kernel) rfl ?_
 refine Runs.step T_ok ?_; conv => whnf
 refine Runs.step T_ok ?_; conv => whnf
 refine said_pure (P_z31_Great q1) rfl ?_; conv => whnf
theorem P_law2 {s : AStore} {u : Ty} {t : Tm} (q1 : z31_Great s = some false) (q2 : z01_Great u = some true) : Pure Try.prog 3 [AStore.D s, Ty.D u, Tm.D t] (.bool true) := by
 refine pure_of_runs T_ok Try.func3 rfl (by decide +kernel) rfl ?_
 refine Runs.step T_ok ?_; conv => whnf
 refine Runs.step T_ok ?_; conv => whnf
 refine said_pure (P_z31_Great q1) rfl ?_; conv => whnf
 refine said_pure (P_z01_Great q2) rfl ?_; conv => whnf
theorem P_law3 {s : AStore} {u : Ty} {t : Tm} (q1 : z31_Great s = some false) (q2 : z01_Great u = some false) (q3 : z31_Wide t = some true) : Pure Try.prog 3 [AStore.D s, Ty.D u, Tm.D t] (.bool true) := by
 refine pure_of_runs T_ok Try.func3 rfl (by decide +kernel) rfl ?_
 refine Runs.step T_ok ?_; conv => whnf
 refine Runs.step T_ok ?_; conv => whnf
 refine said_pure (P_z31_Great q1) rfl ?_; conv => whnf
 refine said_pure (P_z01_Great q2) rfl ?_; conv => whnf
 refine said_pure (P_z31_Wide q3) rfl ?_; conv => whnf
end Go.Proofs.Ytemfpemejagndaa.Fw

