/-
  Package build: newStructs.
-/
import Derived.Test.YgcfabBd7
set_option linter.unusedSimpArgs false
set_option linter.unusedVariables false
set_option maxRecDepth 100000
namespace Go.Proofs.Ygcfab
namespace Eng
theorem n_each {S : Ed} {op : OpR} (h : (wordsL (mlP op)).toNat ≤ 256) : (op.n * ((mlD op).toUInt16 + (mlC op).toUInt16)).toUInt32 = (wordsL (mlP op)).toUInt32 - 1 ∧ op.n.toNat ≤ 128 := by
  obtain ⟨i1, i2, i3, i4⟩ := ss_words (p := mlP op) rfl rfl h
  have eN : (mlP op).count = op.n := rfl
  have eD : (mlP op).data = mlD op := rfl
  have eC : (mlP op).ptrs = mlC op := rfl
  rw [eN] at i1 i4
  rw [eD] at i2 i4
  rw [eC] at i3 i4
  refine ⟨?_, i1⟩
  have hm : op.n.toNat * ((mlD op).toNat + (mlC op).toNat) ≤ 128 * 16 := Nat.mul_le_mul i1 (by omega)
  have o1 : (1 : UInt32).toNat = 1 := rfl
  apply UInt32.toNat_inj.1
  rw [UInt32.toNat_sub_of_le, UInt16.toNat_toUInt32, UInt16.toNat_toUInt32, i4, UInt16.toNat_mul, UInt16.toNat_add, UInt8.toNat_toUInt16, UInt8.toNat_toUInt16, o1, Nat.mod_eq_of_lt (a := (mlD op).toNat + (mlC op).toNat) (by omega)]
  · omega
  · rw [UInt32.le_iff_toNat_le, UInt16.toNat_toUInt32, i4, o1]; omega
theorem each_y (y : UInt8) : ((shr8 y 4).toUInt16 + (y &&& 15).toUInt16 == 0) = (y == 0) := by
  rw [Bool.eq_iff_iff, beq_iff_eq, beq_iff_eq]
  have hy := y.toNat_lt
  have h1 := (shr8 y 4).toNat_lt
  have h2 := (y &&& 15).toNat_lt
  constructor
  · intro h
    have e := congrArg UInt16.toNat h
    rw [UInt16.toNat_add, UInt8.toNat_toUInt16, UInt8.toNat_toUInt16] at e
    have e0 : (0 : UInt16).toNat = 0 := rfl
    rw [e0] at e
    exact y_zero y (by omega) (by omega)
  · rintro rfl; decide
theorem sl_inj1 {a b n m c d : Nat} (h : sl a 0 n c = sl b 0 m d) : a = b := by
  unfold sl at h
  injection h with h1 _ _
  injection h1 with h1
  injection h1
theorem BdX.neA {H0 G : Heap} {bb : Nat} {S : Ed} {P : Nat → Ptr} {up via dep : Nat → UInt8} (hB : BdX H0 G bb S P up via dep) {ba n0 c0 : Nat} (h0 : rd G bb 0 = some (sl ba 0 n0 c0)) (h1 : 1 ≤ S.len) (hc : 1 ≤ S.cnt) :
    ∀ j b n c, 1 ≤ j → j < 6 → rd G bb (j + 4) = some (sl b 0 n c) → b ≠ ba := by
  intro j b n c hj hj6 hr
  obtain ⟨v, w, hf, hV⟩ := hB.is
  obtain ⟨o, k1, k2, k3⟩ := hV.blk
  have e0 : v 0 = sl ba 0 n0 c0 := by
    rw [rd_eq, hf, rdO_fblk, if_pos (by omega), bc_0] at h0
    exact Option.some.inj h0
  have ej : v j = sl b 0 n c := by
    rw [rd_eq, hf, rdO_fblk, if_pos (by omega)] at hr
    have hr' := Option.some.inj hr
    rcases six hj6 with rfl | rfl | rfl | rfl | rfl | rfl
    · omega
    all_goals exact hr'
  rcases (k1 0 (by omega)).is with ⟨_, z, _⟩ | ⟨b0, cap0, g0, q1, _, q2, _⟩
  · have : S.len = 0 := z
    omega
  rcases (k1 j hj6).is with ⟨_, z, _⟩ | ⟨bj, capj, gj, p1, _, p2, _⟩
  · have : bnS S j = S.cnt := by unfold bnS; rw [if_neg (by omega)]
    omega
  have f0 : b0 = ba := sl_inj1 (q1.symm.trans e0)
  have fj : bj = b := sl_inj1 (p1.symm.trans ej)
  rintro rfl
  have := k3 j 0 b hj6 (by omega) (by rw [p2, fj]) (by rw [q2, f0])
  omega
theorem ml_ends {S : Ed} (g : Gd S) (op : OpR) (hl : Lv S op.h.toNat) (at_ : UInt16) (j : Nat) : Ends (mlK S op at_ j) 18 (S.cnt : Nat) ∧ depN (mlK S op at_ j) 40 (S.cnt : Nat) = 1 + depN S 40 (op.h.toNat : Int) := by
  have hc := g.cnt
  have hO : ∀ k, k < S.cnt → (mlK S op at_ j).O k = S.O k := fun k hk => by
    show (if k < S.cnt then S.O k else _) = _
    rw [if_pos hk]
  have hN : (mlK S op at_ j).O S.cnt = ⟨mlQ S op, Int16.ofInt (op.h.toNat : Int), op.i, false, false⟩ := by
    show (if S.cnt < S.cnt then _ else if S.cnt = S.cnt then _ else _) = _
    rw [if_neg (by omega), if_pos rfl]
  have hcc := chain_congr (S := S) (S' := mlK S op at_ j) (by show S.cnt ≤ S.cnt + 1 + j; omega) (fun k hk => by rw [hO k hk]; exact ⟨rfl, rfl⟩)
  obtain ⟨e1, e2⟩ := g.e17 hl
  obtain ⟨i1, i2⟩ := hcc 17 _ e1
  have hh := g.c256 hl.1
  have eu : upI (mlK S op at_ j) ((S.cnt : Nat) : Int) = (op.h.toNat : Int) := by rw [upI_nat, hN]; exact i16n (by omega)
  have hE : Ends (mlK S op at_ j) 18 (S.cnt : Nat) := .inr ⟨by show ((S.cnt : Nat) : Int) < ((S.cnt + 1 + j : Nat) : Int); omega, by rw [eu]; exact i1⟩
  refine ⟨hE, ?_⟩
  rw [(ends_le hE 40 (by omega)).2, depN_s, if_neg (by omega), stepD_nat, hN, eu, i2, (ends_le e1 40 (by omega)).2]
  rfl
set_option maxHeartbeats 2000000 in
theorem newStructs_ok {H0 G : Heap} {bb : Nat} {S : Ed} (hB : BdS H0 G bb S) (g : Gd S) (op : OpR) (hl : Lv S op.h.toNat) (h7 : op.x = 7) :
    Fn Fabg.prog 127 #[ptr bb 0, opv op] G (fun r H' => r = .bool (makeListE S op).1 ∧ BdS H0 H' bb (makeListE S op).2) := by
  have hlen := g.len
  have hcnt := g.cnt
  obtain ⟨P, up, via, dep, hX, hS⟩ := hB.is
  refine Fn_of Fabg.func127 rfl Fabg.ntmps127 (by simp) (WV_sound _ _ _ _ ?_)
  rw [argEnv2]
  simp -implicitDefEqProofs only [WV_seq, WV_cond, WV_block, WV_skip, WV_ret, WV_exit, WV_region, WV_draw, WV_loop, thenQ_normal, thenQ_ret, thenQ_exit, blockQ_normal, blockQ_ret, blockQ_exit, V_nil, V_cons, KV_eq, VL_nil, VL_cons, KL_eq, vcl_zero, vcl_one, vcl_two, isV_same, isV_eq, monoK_eq, dOk, put, gd_none, gd_some, gdst_eq, gdv_some, gdB_true, gdB_false, gdB_undef, ev_const, ev_tmp, lit_i64, lit_i32, lit_bool, lit_pointer, lit_slice, lit_string, CondW_true, CondW_false, GrdV_true, GrdV_false, GrdL_true, GrdL_false, vc_move, vc_assign, vc_load, vc_store, vc_field, vc_indexAddr, vc_index, vc_box, vc_alloc, vc_build, vc_buildSlice, vc_makeSlice, vc_slice, vc_extract, vc_unOp, vc_convert, vc_bin, vc_pick, vc_call, vc_append, vc_len, vc_min, vc_max, vc_copy, vc_clear, pickK_true, pickK_false, stK_eq, not_bool, min_i64, max_i64, min_u16, max_u16, extract_tuple, vc_nil, nilK_ptr, int_add, int_sub, int_mul, int_eql, int_neq, int_lss, int_leq, int_gtr, int_geq, u8_add, u8_sub, u8_mul, u8_eql, u8_neq, u8_lss, u8_leq, u8_gtr, u8_geq, u16_add, u16_sub, u16_mul, u16_eql, u16_neq, u16_lss, u16_leq, u16_gtr, u16_geq, u32_add, u32_sub, u32_mul, u32_eql, u32_neq, u32_lss, u32_leq, u32_gtr, u32_geq, u64_add, u64_sub, u64_mul, u64_eql, u64_neq, u64_lss, u64_leq, u64_gtr, u64_geq, u8_and, u8_or, u8_xor, u8_andNot, u64_and, u64_or, u64_xor, u64_andNot, u8_shl_u8, u8_shl_u16, u8_shl_u64, u32_shl_u8, u32_shl_u16, u32_shl_u64, u64_shl_u8, u64_shl_u16, u64_shl_u64, u8_shr_u8, u8_shr_u16, u8_shr_u64, u64_shr_u8, u64_shr_u16, u64_shr_u64, u16_quo8, u16_rem8, u16_quo64, u16_rem64, u64_quo8, u64_rem8, u64_quo64, u64_rem64, u32_quo8, u32_rem8, u32_quo64, u32_rem64, int_quo2, int_rem2, int_quo8, int_rem8, int_quo64, int_rem64, u64_shrN, u64_shlN, fold64, fold32, i64_shl_u8, i16_eql, i16_neq, i16_lss, i16_geq, Nat.reduceEqDiff, Nat.reduceLT, Nat.reduceAdd, Nat.reduceMul, Nat.reduceSub, ↓reduceIte, if_true, if_false, eq_self, true_and, and_true, Bool.false_eq_true, Bool.not_true, Bool.not_false, reduceCtorEq, upd_get, List.getElem?_toArray, List.getElem?_cons_zero, List.getElem?_cons_succ, Option.bind_some, rdK_some, List.map_toArray, List.map_cons, List.map_nil, rd_upd, rdO_fblk, wrOk_fblk, wrO_fblk, lget_zero, lget_succ, upd_upd, agg_cells, cells_of_list, List.length_cons, List.length_nil, Nat.add_zero, pv_cells, pl_len, pl_0, pl_1, pl_2, pl_3, pl_4, pl_5, pv_fold, pv_eta, ov_eta, opv_eta, ov_cells, ol_len, ov_fold, opv_cells, opl_len, opv_fold, st_pv, st_ov, st_opv, ol_0, ol_1, ol_2, ol_3, ol_4, ol_5, ol_6, ol_7, ol_8, ol_9, opl_0, opl_1, opl_2, opl_3, opl_4, opl_5, opl_6, opl_7, wrsOk_fblk, wrsO_fblk, fblk_all, Nat.reduceLeDiff, Nat.zero_add, rdsK2, rdsK4, rdsK6, rdsK8, rdsK10, wrsK_nil, wrsK_cons, oneCell_u8, oneCell_u16, oneCell_u32, oneCell_u64, oneCell_i16, oneCell_int, oneCell_bool, oneCell_ptr, oneCell_pointer, oneCell_sl, oneCell_slice, oneCell_string, box_eq, List.all_cons, List.all_nil, Bool.and_self, Ex1_eq, Ex1_and, endQ, resH, res_tmp, res_cell, resC_ptr, tupleOf, Fabg.results127, fa_52_4, ld_5, k_u64_4, tn_u64_4, k_u8_15, tn_u8_15, fa_77_0, ld_26, len_26, lenS_26, cv_3_50, k_u16_1, fa_52_3, fa_52_5, ld_50, bd_60_, bd_60_0_1_2_3, bd_60_0_1_2_3_4_5, bd_60_0_1_3, bd_60_0_1_4_5, bd_60_0_2_3, bd_60_0_3, bd_60_0_4_5, k_u8_2, tn_u8_2, al_60, stN_60, cv_5_50, ldN_60, call_23, k_u16_0, ldN_52, cv_50_3, call_124, cv_50_194, call_128, ix_26_int, ix_26_u8, ix_26_u16, ix_26_i16, st_30, call_125, call_123, fa_77_2, ld_74, len_74, lenS_74, cv_3_5, fa_77_5, ld_39, fa_52_1, ix_39_int, ix_39_u8, ix_39_u16, ix_39_i16, k_u8_1, tn_u8_1, fa_52_2, call_63, fa_60_1, call_126, cv_50_5, opv_cells, opl_len]
  refine ⟨fun b3 hb3 => ?_⟩
  have hX1 := hX.rebase hb3 (fblk 8 (lget (opl op)) 52)
  have hH0 : Le H0 (upd H0 b3 (some (fblk 8 (lget (opl op)) 52))) := (Le.refl H0).fresh (le_none hX.le0 hb3) _
  have i3 : upd H0 b3 (some (fblk 8 (lget (opl op)) 52)) b3 = some (fblk 8 (lget (opl op)) 52) := upd_same _ _ _
  generalize upd H0 b3 (some (fblk 8 (lget (opl op)) 52)) = H1 at *
  generalize upd G b3 (some (fblk 8 (lget (opl op)) 52)) = G1 at *
  clear hX hb3
  obtain ⟨o0, o1, o2, o3, o4, o5, o6, o7⟩ := opAt_of (hX1.le0 _ _ i3)
  obtain ⟨b, c, hR⟩ := hX1.rdr hlen.1 hcnt.1
  have x0 := hR.r0
  rw [h7] at o3
  (repeat' (first
    | simp -implicitDefEqProofs only [WV_seq, WV_cond, WV_block, WV_skip, WV_ret, WV_exit, WV_region, WV_draw, WV_loop, thenQ_normal, thenQ_ret, thenQ_exit, blockQ_normal, blockQ_ret, blockQ_exit, V_nil, V_cons, KV_eq, VL_nil, VL_cons, KL_eq, vcl_zero, vcl_one, vcl_two, isV_same, isV_eq, monoK_eq, dOk, put, gd_none, gd_some, gdst_eq, gdv_some, gdB_true, gdB_false, gdB_undef, ev_const, ev_tmp, lit_i64, lit_i32, lit_bool, lit_pointer, lit_slice, lit_string, CondW_true, CondW_false, GrdV_true, GrdV_false, GrdL_true, GrdL_false, vc_move, vc_assign, vc_load, vc_store, vc_field, vc_indexAddr, vc_index, vc_box, vc_alloc, vc_build, vc_buildSlice, vc_makeSlice, vc_slice, vc_extract, vc_unOp, vc_convert, vc_bin, vc_pick, vc_call, vc_append, vc_len, vc_min, vc_max, vc_copy, vc_clear, pickK_true, pickK_false, stK_eq, not_bool, min_i64, max_i64, min_u16, max_u16, extract_tuple, vc_nil, nilK_ptr, int_add, int_sub, int_mul, int_eql, int_neq, int_lss, int_leq, int_gtr, int_geq, u8_add, u8_sub, u8_mul, u8_eql, u8_neq, u8_lss, u8_leq, u8_gtr, u8_geq, u16_add, u16_sub, u16_mul, u16_eql, u16_neq, u16_lss, u16_leq, u16_gtr, u16_geq, u32_add, u32_sub, u32_mul, u32_eql, u32_neq, u32_lss, u32_leq, u32_gtr, u32_geq, u64_add, u64_sub, u64_mul, u64_eql, u64_neq, u64_lss, u64_leq, u64_gtr, u64_geq, u8_and, u8_or, u8_xor, u8_andNot, u64_and, u64_or, u64_xor, u64_andNot, u8_shl_u8, u8_shl_u16, u8_shl_u64, u32_shl_u8, u32_shl_u16, u32_shl_u64, u64_shl_u8, u64_shl_u16, u64_shl_u64, u8_shr_u8, u8_shr_u16, u8_shr_u64, u64_shr_u8, u64_shr_u16, u64_shr_u64, u16_quo8, u16_rem8, u16_quo64, u16_rem64, u64_quo8, u64_rem8, u64_quo64, u64_rem64, u32_quo8, u32_rem8, u32_quo64, u32_rem64, int_quo2, int_rem2, int_quo8, int_rem8, int_quo64, int_rem64, u64_shrN, u64_shlN, fold64, fold32, i64_shl_u8, i16_eql, i16_neq, i16_lss, i16_geq, Nat.reduceEqDiff, Nat.reduceLT, Nat.reduceAdd, Nat.reduceMul, Nat.reduceSub, ↓reduceIte, if_true, if_false, eq_self, true_and, and_true, Bool.false_eq_true, Bool.not_true, Bool.not_false, reduceCtorEq, upd_get, List.getElem?_toArray, List.getElem?_cons_zero, List.getElem?_cons_succ, Option.bind_some, rdK_some, List.map_toArray, List.map_cons, List.map_nil, rd_upd, rdO_fblk, wrOk_fblk, wrO_fblk, lget_zero, lget_succ, upd_upd, agg_cells, cells_of_list, List.length_cons, List.length_nil, Nat.add_zero, pv_cells, pl_len, pl_0, pl_1, pl_2, pl_3, pl_4, pl_5, pv_fold, pv_eta, ov_eta, opv_eta, ov_cells, ol_len, ov_fold, opv_cells, opl_len, opv_fold, st_pv, st_ov, st_opv, ol_0, ol_1, ol_2, ol_3, ol_4, ol_5, ol_6, ol_7, ol_8, ol_9, opl_0, opl_1, opl_2, opl_3, opl_4, opl_5, opl_6, opl_7, wrsOk_fblk, wrsO_fblk, fblk_all, Nat.reduceLeDiff, Nat.zero_add, rdsK2, rdsK4, rdsK6, rdsK8, rdsK10, wrsK_nil, wrsK_cons, oneCell_u8, oneCell_u16, oneCell_u32, oneCell_u64, oneCell_i16, oneCell_int, oneCell_bool, oneCell_ptr, oneCell_pointer, oneCell_sl, oneCell_slice, oneCell_string, box_eq, List.all_cons, List.all_nil, Bool.and_self, Ex1_eq, Ex1_and, endQ, resH, res_tmp, res_cell, resC_ptr, tupleOf, Fabg.results127, fa_52_4, ld_5, k_u64_4, tn_u64_4, k_u8_15, tn_u8_15, fa_77_0, ld_26, len_26, lenS_26, cv_3_50, k_u16_1, fa_52_3, fa_52_5, ld_50, bd_60_, bd_60_0_1_2_3, bd_60_0_1_2_3_4_5, bd_60_0_1_3, bd_60_0_1_4_5, bd_60_0_2_3, bd_60_0_3, bd_60_0_4_5, k_u8_2, tn_u8_2, al_60, stN_60, cv_5_50, ldN_60, call_23, k_u16_0, ldN_52, cv_50_3, call_124, cv_50_194, call_128, ix_26_int, ix_26_u8, ix_26_u16, ix_26_i16, st_30, call_125, call_123, fa_77_2, ld_74, len_74, lenS_74, cv_3_5, fa_77_5, ld_39, fa_52_1, ix_39_int, ix_39_u8, ix_39_u16, ix_39_i16, k_u8_1, tn_u8_1, fa_52_2, call_63, fa_60_1, call_126, cv_50_5, o0, o1, o2, o3, o4, o5, o6, o7, x0, toU16_nat, pv_cells, pl_len, u8_shr_u64]
    | refine W_drawL (id := 1) (by kernel_rfl) [0, 0, 0, 0, 0, 0, 0, 0] (by kernel_rfl) ?_
    | refine W_drawL (id := 11) (by kernel_rfl) [0, 0, 0, 0, 0, 0, 0, 0, 0, 0, 0, 0, 0, 0, 0, 0, 2] (by kernel_rfl) ?_
    | refine W_drawL (id := 13) (by kernel_rfl) [0, 0, 0, 0, 0, 0, 0, 0, 0, 0, 0, 2] (by kernel_rfl) ?_
    | refine W_drawL (id := 14) (by kernel_rfl) [0, 0, 0, 0, 0, 0, 0, 0, 0, 0, 0, 0, 0, 0, 0, 0, 0] (by kernel_rfl) ?_
    | refine Alloc.mono ?_
    | (refine CondW_intro (fun hc => ?_) (fun hc => ?_) <;> (try simp only [Bool.not_eq_true', Bool.not_eq_false'] at hc) <;> (try simp only [hc]))
    | (refine GrdV_intro (fun hc => ?_) (fun hc => ?_) <;> (try simp only [Bool.not_eq_true', Bool.not_eq_false'] at hc) <;> (try simp only [hc]))
    | (refine GrdL_intro (fun hc => ?_) (fun hc => ?_) <;> (try simp only [Bool.not_eq_true', Bool.not_eq_false'] at hc) <;> (try simp only [hc]))))
  refine ⟨fun b8 hb8 => ?_⟩
  have eq8 : (⟨2, UInt16.ofNat S.len + 1, shr8 op.y 4, op.y &&& 15, 7, op.n⟩ : Ptr) = mlQ S op := rfl
  have hX2 := hX1.rebase hb8 (fblk 6 (lget (pl (mlQ S op))) 60)
  have hH1 : Le H1 (upd H1 b8 (some (fblk 6 (lget (pl (mlQ S op))) 60))) := (Le.refl H1).fresh (le_none hX1.le0 hb8) _
  have i8 : upd H1 b8 (some (fblk 6 (lget (pl (mlQ S op))) 60)) b8 = some (fblk 6 (lget (pl (mlQ S op))) 60) := upd_same _ _ _
  have i3' := hH1 _ _ i3
  (repeat' (first
    | simp -implicitDefEqProofs only [WV_seq, WV_cond, WV_block, WV_skip, WV_ret, WV_exit, WV_region, WV_draw, WV_loop, thenQ_normal, thenQ_ret, thenQ_exit, blockQ_normal, blockQ_ret, blockQ_exit, V_nil, V_cons, KV_eq, VL_nil, VL_cons, KL_eq, vcl_zero, vcl_one, vcl_two, isV_same, isV_eq, monoK_eq, dOk, put, gd_none, gd_some, gdst_eq, gdv_some, gdB_true, gdB_false, gdB_undef, ev_const, ev_tmp, lit_i64, lit_i32, lit_bool, lit_pointer, lit_slice, lit_string, CondW_true, CondW_false, GrdV_true, GrdV_false, GrdL_true, GrdL_false, vc_move, vc_assign, vc_load, vc_store, vc_field, vc_indexAddr, vc_index, vc_box, vc_alloc, vc_build, vc_buildSlice, vc_makeSlice, vc_slice, vc_extract, vc_unOp, vc_convert, vc_bin, vc_pick, vc_call, vc_append, vc_len, vc_min, vc_max, vc_copy, vc_clear, pickK_true, pickK_false, stK_eq, not_bool, min_i64, max_i64, min_u16, max_u16, extract_tuple, vc_nil, nilK_ptr, int_add, int_sub, int_mul, int_eql, int_neq, int_lss, int_leq, int_gtr, int_geq, u8_add, u8_sub, u8_mul, u8_eql, u8_neq, u8_lss, u8_leq, u8_gtr, u8_geq, u16_add, u16_sub, u16_mul, u16_eql, u16_neq, u16_lss, u16_leq, u16_gtr, u16_geq, u32_add, u32_sub, u32_mul, u32_eql, u32_neq, u32_lss, u32_leq, u32_gtr, u32_geq, u64_add, u64_sub, u64_mul, u64_eql, u64_neq, u64_lss, u64_leq, u64_gtr, u64_geq, u8_and, u8_or, u8_xor, u8_andNot, u64_and, u64_or, u64_xor, u64_andNot, u8_shl_u8, u8_shl_u16, u8_shl_u64, u32_shl_u8, u32_shl_u16, u32_shl_u64, u64_shl_u8, u64_shl_u16, u64_shl_u64, u8_shr_u8, u8_shr_u16, u8_shr_u64, u64_shr_u8, u64_shr_u16, u64_shr_u64, u16_quo8, u16_rem8, u16_quo64, u16_rem64, u64_quo8, u64_rem8, u64_quo64, u64_rem64, u32_quo8, u32_rem8, u32_quo64, u32_rem64, int_quo2, int_rem2, int_quo8, int_rem8, int_quo64, int_rem64, u64_shrN, u64_shlN, fold64, fold32, i64_shl_u8, i16_eql, i16_neq, i16_lss, i16_geq, Nat.reduceEqDiff, Nat.reduceLT, Nat.reduceAdd, Nat.reduceMul, Nat.reduceSub, ↓reduceIte, if_true, if_false, eq_self, true_and, and_true, Bool.false_eq_true, Bool.not_true, Bool.not_false, reduceCtorEq, upd_get, List.getElem?_toArray, List.getElem?_cons_zero, List.getElem?_cons_succ, Option.bind_some, rdK_some, List.map_toArray, List.map_cons, List.map_nil, rd_upd, rdO_fblk, wrOk_fblk, wrO_fblk, lget_zero, lget_succ, upd_upd, agg_cells, cells_of_list, List.length_cons, List.length_nil, Nat.add_zero, pv_cells, pl_len, pl_0, pl_1, pl_2, pl_3, pl_4, pl_5, pv_fold, pv_eta, ov_eta, opv_eta, ov_cells, ol_len, ov_fold, opv_cells, opl_len, opv_fold, st_pv, st_ov, st_opv, ol_0, ol_1, ol_2, ol_3, ol_4, ol_5, ol_6, ol_7, ol_8, ol_9, opl_0, opl_1, opl_2, opl_3, opl_4, opl_5, opl_6, opl_7, wrsOk_fblk, wrsO_fblk, fblk_all, Nat.reduceLeDiff, Nat.zero_add, rdsK2, rdsK4, rdsK6, rdsK8, rdsK10, wrsK_nil, wrsK_cons, oneCell_u8, oneCell_u16, oneCell_u32, oneCell_u64, oneCell_i16, oneCell_int, oneCell_bool, oneCell_ptr, oneCell_pointer, oneCell_sl, oneCell_slice, oneCell_string, box_eq, List.all_cons, List.all_nil, Bool.and_self, Ex1_eq, Ex1_and, endQ, resH, res_tmp, res_cell, resC_ptr, tupleOf, Fabg.results127, fa_52_4, ld_5, k_u64_4, tn_u64_4, k_u8_15, tn_u8_15, fa_77_0, ld_26, len_26, lenS_26, cv_3_50, k_u16_1, fa_52_3, fa_52_5, ld_50, bd_60_, bd_60_0_1_2_3, bd_60_0_1_2_3_4_5, bd_60_0_1_3, bd_60_0_1_4_5, bd_60_0_2_3, bd_60_0_3, bd_60_0_4_5, k_u8_2, tn_u8_2, al_60, stN_60, cv_5_50, ldN_60, call_23, k_u16_0, ldN_52, cv_50_3, call_124, cv_50_194, call_128, ix_26_int, ix_26_u8, ix_26_u16, ix_26_i16, st_30, call_125, call_123, fa_77_2, ld_74, len_74, lenS_74, cv_3_5, fa_77_5, ld_39, fa_52_1, ix_39_int, ix_39_u8, ix_39_u16, ix_39_i16, k_u8_1, tn_u8_1, fa_52_2, call_63, fa_60_1, call_126, cv_50_5, upd_same, pv_cells, pl_len, st_pv, eq8]
    | refine W_drawL (id := 1) (by kernel_rfl) [0, 0, 0, 0, 0, 0, 0, 0] (by kernel_rfl) ?_
    | refine W_drawL (id := 11) (by kernel_rfl) [0, 0, 0, 0, 0, 0, 0, 0, 0, 0, 0, 0, 0, 0, 0, 0, 2] (by kernel_rfl) ?_
    | refine W_drawL (id := 13) (by kernel_rfl) [0, 0, 0, 0, 0, 0, 0, 0, 0, 0, 0, 2] (by kernel_rfl) ?_
    | refine W_drawL (id := 14) (by kernel_rfl) [0, 0, 0, 0, 0, 0, 0, 0, 0, 0, 0, 0, 0, 0, 0, 0, 0] (by kernel_rfl) ?_
    | refine Alloc.mono ?_
    | (refine CondW_intro (fun hc => ?_) (fun hc => ?_) <;> (try simp only [Bool.not_eq_true', Bool.not_eq_false'] at hc) <;> (try simp only [hc]))
    | (refine GrdV_intro (fun hc => ?_) (fun hc => ?_) <;> (try simp only [Bool.not_eq_true', Bool.not_eq_false'] at hc) <;> (try simp only [hc]))
    | (refine GrdL_intro (fun hc => ?_) (fun hc => ?_) <;> (try simp only [Bool.not_eq_true', Bool.not_eq_false'] at hc) <;> (try simp only [hc]))))
  generalize upd H1 b8 (some (fblk 6 (lget (pl (mlQ S op))) 60)) = H2 at *
  generalize upd G1 b8 (some (fblk 6 (lget (pl (mlQ S op))) 60)) = G2 at *
  clear o0 o1 o2 o3 o4 o5 o6 o7 x0 hR hb8 hX1
  obtain ⟨o0, o1, o2, o3, o4, o5, o6, o7⟩ := opAt_of (hX2.le0 _ _ i3')
  obtain ⟨p0, p1, p2, p3, p4, p5⟩ := ptAt_of (hX2.le0 _ _ i8)
  obtain ⟨b', c', hR2⟩ := hX2.rdr hlen.1 hcnt.1
  have cw : Fn Fabg.prog 23 #[pv (mlQ S op)] G2 (fun r H' => r = u16 (wordsL (mlP op)) ∧ H' = G2) := words_ok _ G2
  have cr := broom_ok g hR2 hS op hl (wordsL (mlP op)) (1 + (op.n.toNat : Int)) (by have := op.n.toNat_lt; omega)
  have hle2 : Le H0 H2 := hH0.trans hH1
  have hrt := room_true (S := S) (op := op) (w := wordsL (mlP op)) (hd := 1 + (op.n.toNat : Int))
  have hsl := slotB_lt S op.h op.i
  have hnl := op.n.toNat_lt
  have ey := each_y op.y
  have em : makeListE S op = if (roomB S op (wordsL (mlP op)) (1 + (op.n.toNat : Int))).2 = false ∨ (0 < op.n.toNat ∧ op.y = 0) then (false, S) else (true, mlK S op (roomB S op (wordsL (mlP op)) (1 + (op.n.toNat : Int))).1 op.n.toNat) := by
    unfold makeListE
    rw [if_neg (by rw [h7]; simp)]
  generalize makeListE S op = M at *
  have bad : M = (false, S) → ∃ H', Le H' G2 ∧ Value.bool false = Value.bool M.1 ∧ BdS H0 H' bb M.2 := fun h => by rw [h]; exact ⟨_, Le.refl _, rfl, ⟨P, up, via, dep, hX2.weaken hle2, hS⟩⟩
  have qn : w64 (1 + (op.n.toNat : Int)) = 1 + (op.n.toNat : Int) := w64_id (by omega) (by omega)
  generalize hrm : roomB S op (wordsL (mlP op)) (1 + (op.n.toNat : Int)) = R at *
  obtain ⟨at_, ok⟩ := R
  simp only [] at cr hrt em
  have hn0 : decide (op.n > 0) = decide (0 < op.n.toNat) := by rw [decide_eq_decide, gt_iff_lt, UInt16.lt_iff_toNat_lt]; exact Iff.rfl
  by_cases cy : 0 < op.n.toNat ∧ op.y = 0
  · have k1 : (op.y == 0) = true := by rw [cy.2]; rfl
    have k2 : decide (0 < op.n.toNat) = true := decide_eq_true cy.1
    rw [if_pos (.inr cy)] at em
    (repeat' (first
    | simp -implicitDefEqProofs only [WV_seq, WV_cond, WV_block, WV_skip, WV_ret, WV_exit, WV_region, WV_draw, WV_loop, thenQ_normal, thenQ_ret, thenQ_exit, blockQ_normal, blockQ_ret, blockQ_exit, V_nil, V_cons, KV_eq, VL_nil, VL_cons, KL_eq, vcl_zero, vcl_one, vcl_two, isV_same, isV_eq, monoK_eq, dOk, put, gd_none, gd_some, gdst_eq, gdv_some, gdB_true, gdB_false, gdB_undef, ev_const, ev_tmp, lit_i64, lit_i32, lit_bool, lit_pointer, lit_slice, lit_string, CondW_true, CondW_false, GrdV_true, GrdV_false, GrdL_true, GrdL_false, vc_move, vc_assign, vc_load, vc_store, vc_field, vc_indexAddr, vc_index, vc_box, vc_alloc, vc_build, vc_buildSlice, vc_makeSlice, vc_slice, vc_extract, vc_unOp, vc_convert, vc_bin, vc_pick, vc_call, vc_append, vc_len, vc_min, vc_max, vc_copy, vc_clear, pickK_true, pickK_false, stK_eq, not_bool, min_i64, max_i64, min_u16, max_u16, extract_tuple, vc_nil, nilK_ptr, int_add, int_sub, int_mul, int_eql, int_neq, int_lss, int_leq, int_gtr, int_geq, u8_add, u8_sub, u8_mul, u8_eql, u8_neq, u8_lss, u8_leq, u8_gtr, u8_geq, u16_add, u16_sub, u16_mul, u16_eql, u16_neq, u16_lss, u16_leq, u16_gtr, u16_geq, u32_add, u32_sub, u32_mul, u32_eql, u32_neq, u32_lss, u32_leq, u32_gtr, u32_geq, u64_add, u64_sub, u64_mul, u64_eql, u64_neq, u64_lss, u64_leq, u64_gtr, u64_geq, u8_and, u8_or, u8_xor, u8_andNot, u64_and, u64_or, u64_xor, u64_andNot, u8_shl_u8, u8_shl_u16, u8_shl_u64, u32_shl_u8, u32_shl_u16, u32_shl_u64, u64_shl_u8, u64_shl_u16, u64_shl_u64, u8_shr_u8, u8_shr_u16, u8_shr_u64, u64_shr_u8, u64_shr_u16, u64_shr_u64, u16_quo8, u16_rem8, u16_quo64, u16_rem64, u64_quo8, u64_rem8, u64_quo64, u64_rem64, u32_quo8, u32_rem8, u32_quo64, u32_rem64, int_quo2, int_rem2, int_quo8, int_rem8, int_quo64, int_rem64, u64_shrN, u64_shlN, fold64, fold32, i64_shl_u8, i16_eql, i16_neq, i16_lss, i16_geq, Nat.reduceEqDiff, Nat.reduceLT, Nat.reduceAdd, Nat.reduceMul, Nat.reduceSub, ↓reduceIte, if_true, if_false, eq_self, true_and, and_true, Bool.false_eq_true, Bool.not_true, Bool.not_false, reduceCtorEq, upd_get, List.getElem?_toArray, List.getElem?_cons_zero, List.getElem?_cons_succ, Option.bind_some, rdK_some, List.map_toArray, List.map_cons, List.map_nil, rd_upd, rdO_fblk, wrOk_fblk, wrO_fblk, lget_zero, lget_succ, upd_upd, agg_cells, cells_of_list, List.length_cons, List.length_nil, Nat.add_zero, pv_cells, pl_len, pl_0, pl_1, pl_2, pl_3, pl_4, pl_5, pv_fold, pv_eta, ov_eta, opv_eta, ov_cells, ol_len, ov_fold, opv_cells, opl_len, opv_fold, st_pv, st_ov, st_opv, ol_0, ol_1, ol_2, ol_3, ol_4, ol_5, ol_6, ol_7, ol_8, ol_9, opl_0, opl_1, opl_2, opl_3, opl_4, opl_5, opl_6, opl_7, wrsOk_fblk, wrsO_fblk, fblk_all, Nat.reduceLeDiff, Nat.zero_add, rdsK2, rdsK4, rdsK6, rdsK8, rdsK10, wrsK_nil, wrsK_cons, oneCell_u8, oneCell_u16, oneCell_u32, oneCell_u64, oneCell_i16, oneCell_int, oneCell_bool, oneCell_ptr, oneCell_pointer, oneCell_sl, oneCell_slice, oneCell_string, box_eq, List.all_cons, List.all_nil, Bool.and_self, Ex1_eq, Ex1_and, endQ, resH, res_tmp, res_cell, resC_ptr, tupleOf, Fabg.results127, fa_52_4, ld_5, k_u64_4, tn_u64_4, k_u8_15, tn_u8_15, fa_77_0, ld_26, len_26, lenS_26, cv_3_50, k_u16_1, fa_52_3, fa_52_5, ld_50, bd_60_, bd_60_0_1_2_3, bd_60_0_1_2_3_4_5, bd_60_0_1_3, bd_60_0_1_4_5, bd_60_0_2_3, bd_60_0_3, bd_60_0_4_5, k_u8_2, tn_u8_2, al_60, stN_60, cv_5_50, ldN_60, call_23, k_u16_0, ldN_52, cv_50_3, call_124, cv_50_194, call_128, ix_26_int, ix_26_u8, ix_26_u16, ix_26_i16, st_30, call_125, call_123, fa_77_2, ld_74, len_74, lenS_74, cv_3_5, fa_77_5, ld_39, fa_52_1, ix_39_int, ix_39_u8, ix_39_u16, ix_39_i16, k_u8_1, tn_u8_1, fa_52_2, call_63, fa_60_1, call_126, cv_50_5, o0, o1, o2, o3, o4, o5, o6, o7, ey, hn0, k1, k2]
    | refine (cw).use ?_
    | refine (cw).useQ ?_
    | refine W_drawL (id := 1) (by kernel_rfl) [0, 0, 0, 0, 0, 0, 0, 0] (by kernel_rfl) ?_
    | refine W_drawL (id := 11) (by kernel_rfl) [0, 0, 0, 0, 0, 0, 0, 0, 0, 0, 0, 0, 0, 0, 0, 0, 2] (by kernel_rfl) ?_
    | refine W_drawL (id := 13) (by kernel_rfl) [0, 0, 0, 0, 0, 0, 0, 0, 0, 0, 0, 2] (by kernel_rfl) ?_
    | refine W_drawL (id := 14) (by kernel_rfl) [0, 0, 0, 0, 0, 0, 0, 0, 0, 0, 0, 0, 0, 0, 0, 0, 0] (by kernel_rfl) ?_
    | refine Alloc.mono ?_
    | (refine CondW_intro (fun hc => ?_) (fun hc => ?_) <;> (try simp only [Bool.not_eq_true', Bool.not_eq_false'] at hc) <;> (try simp only [hc]))
    | (refine GrdV_intro (fun hc => ?_) (fun hc => ?_) <;> (try simp only [Bool.not_eq_true', Bool.not_eq_false'] at hc) <;> (try simp only [hc]))
    | (refine GrdL_intro (fun hc => ?_) (fun hc => ?_) <;> (try simp only [Bool.not_eq_true', Bool.not_eq_false'] at hc) <;> (try simp only [hc]))))
    exact bad em
  have gol : ∀ X : Prop, (((op.y == 0) = true → decide (0 < op.n.toNat) = true → X) → X) → X := fun X h => h (fun a b => absurd ⟨of_decide_eq_true b, beq_iff_eq.1 a⟩ cy)
  cases ok with
  | false =>
    rw [if_pos (.inl rfl)] at em
    cases k1 : (op.y == 0)
    · (repeat' (first
    | simp -implicitDefEqProofs only [WV_seq, WV_cond, WV_block, WV_skip, WV_ret, WV_exit, WV_region, WV_draw, WV_loop, thenQ_normal, thenQ_ret, thenQ_exit, blockQ_normal, blockQ_ret, blockQ_exit, V_nil, V_cons, KV_eq, VL_nil, VL_cons, KL_eq, vcl_zero, vcl_one, vcl_two, isV_same, isV_eq, monoK_eq, dOk, put, gd_none, gd_some, gdst_eq, gdv_some, gdB_true, gdB_false, gdB_undef, ev_const, ev_tmp, lit_i64, lit_i32, lit_bool, lit_pointer, lit_slice, lit_string, CondW_true, CondW_false, GrdV_true, GrdV_false, GrdL_true, GrdL_false, vc_move, vc_assign, vc_load, vc_store, vc_field, vc_indexAddr, vc_index, vc_box, vc_alloc, vc_build, vc_buildSlice, vc_makeSlice, vc_slice, vc_extract, vc_unOp, vc_convert, vc_bin, vc_pick, vc_call, vc_append, vc_len, vc_min, vc_max, vc_copy, vc_clear, pickK_true, pickK_false, stK_eq, not_bool, min_i64, max_i64, min_u16, max_u16, extract_tuple, vc_nil, nilK_ptr, int_add, int_sub, int_mul, int_eql, int_neq, int_lss, int_leq, int_gtr, int_geq, u8_add, u8_sub, u8_mul, u8_eql, u8_neq, u8_lss, u8_leq, u8_gtr, u8_geq, u16_add, u16_sub, u16_mul, u16_eql, u16_neq, u16_lss, u16_leq, u16_gtr, u16_geq, u32_add, u32_sub, u32_mul, u32_eql, u32_neq, u32_lss, u32_leq, u32_gtr, u32_geq, u64_add, u64_sub, u64_mul, u64_eql, u64_neq, u64_lss, u64_leq, u64_gtr, u64_geq, u8_and, u8_or, u8_xor, u8_andNot, u64_and, u64_or, u64_xor, u64_andNot, u8_shl_u8, u8_shl_u16, u8_shl_u64, u32_shl_u8, u32_shl_u16, u32_shl_u64, u64_shl_u8, u64_shl_u16, u64_shl_u64, u8_shr_u8, u8_shr_u16, u8_shr_u64, u64_shr_u8, u64_shr_u16, u64_shr_u64, u16_quo8, u16_rem8, u16_quo64, u16_rem64, u64_quo8, u64_rem8, u64_quo64, u64_rem64, u32_quo8, u32_rem8, u32_quo64, u32_rem64, int_quo2, int_rem2, int_quo8, int_rem8, int_quo64, int_rem64, u64_shrN, u64_shlN, fold64, fold32, i64_shl_u8, i16_eql, i16_neq, i16_lss, i16_geq, Nat.reduceEqDiff, Nat.reduceLT, Nat.reduceAdd, Nat.reduceMul, Nat.reduceSub, ↓reduceIte, if_true, if_false, eq_self, true_and, and_true, Bool.false_eq_true, Bool.not_true, Bool.not_false, reduceCtorEq, upd_get, List.getElem?_toArray, List.getElem?_cons_zero, List.getElem?_cons_succ, Option.bind_some, rdK_some, List.map_toArray, List.map_cons, List.map_nil, rd_upd, rdO_fblk, wrOk_fblk, wrO_fblk, lget_zero, lget_succ, upd_upd, agg_cells, cells_of_list, List.length_cons, List.length_nil, Nat.add_zero, pv_cells, pl_len, pl_0, pl_1, pl_2, pl_3, pl_4, pl_5, pv_fold, pv_eta, ov_eta, opv_eta, ov_cells, ol_len, ov_fold, opv_cells, opl_len, opv_fold, st_pv, st_ov, st_opv, ol_0, ol_1, ol_2, ol_3, ol_4, ol_5, ol_6, ol_7, ol_8, ol_9, opl_0, opl_1, opl_2, opl_3, opl_4, opl_5, opl_6, opl_7, wrsOk_fblk, wrsO_fblk, fblk_all, Nat.reduceLeDiff, Nat.zero_add, rdsK2, rdsK4, rdsK6, rdsK8, rdsK10, wrsK_nil, wrsK_cons, oneCell_u8, oneCell_u16, oneCell_u32, oneCell_u64, oneCell_i16, oneCell_int, oneCell_bool, oneCell_ptr, oneCell_pointer, oneCell_sl, oneCell_slice, oneCell_string, box_eq, List.all_cons, List.all_nil, Bool.and_self, Ex1_eq, Ex1_and, endQ, resH, res_tmp, res_cell, resC_ptr, tupleOf, Fabg.results127, fa_52_4, ld_5, k_u64_4, tn_u64_4, k_u8_15, tn_u8_15, fa_77_0, ld_26, len_26, lenS_26, cv_3_50, k_u16_1, fa_52_3, fa_52_5, ld_50, bd_60_, bd_60_0_1_2_3, bd_60_0_1_2_3_4_5, bd_60_0_1_3, bd_60_0_1_4_5, bd_60_0_2_3, bd_60_0_3, bd_60_0_4_5, k_u8_2, tn_u8_2, al_60, stN_60, cv_5_50, ldN_60, call_23, k_u16_0, ldN_52, cv_50_3, call_124, cv_50_194, call_128, ix_26_int, ix_26_u8, ix_26_u16, ix_26_i16, st_30, call_125, call_123, fa_77_2, ld_74, len_74, lenS_74, cv_3_5, fa_77_5, ld_39, fa_52_1, ix_39_int, ix_39_u8, ix_39_u16, ix_39_i16, k_u8_1, tn_u8_1, fa_52_2, call_63, fa_60_1, call_126, cv_50_5, o0, o1, o2, o3, o4, o5, o6, o7, ey, hn0, k1, qn]
    | refine (cw).use ?_
    | refine (cw).useQ ?_
    | refine (cr).use ?_
    | refine (cr).useQ ?_
    | refine W_drawL (id := 1) (by kernel_rfl) [0, 0, 0, 0, 0, 0, 0, 0] (by kernel_rfl) ?_
    | refine W_drawL (id := 11) (by kernel_rfl) [0, 0, 0, 0, 0, 0, 0, 0, 0, 0, 0, 0, 0, 0, 0, 0, 2] (by kernel_rfl) ?_
    | refine W_drawL (id := 13) (by kernel_rfl) [0, 0, 0, 0, 0, 0, 0, 0, 0, 0, 0, 2] (by kernel_rfl) ?_
    | refine W_drawL (id := 14) (by kernel_rfl) [0, 0, 0, 0, 0, 0, 0, 0, 0, 0, 0, 0, 0, 0, 0, 0, 0] (by kernel_rfl) ?_
    | refine Alloc.mono ?_
    | (refine CondW_intro (fun hc => ?_) (fun hc => ?_) <;> (try simp only [Bool.not_eq_true', Bool.not_eq_false'] at hc) <;> (try simp only [hc]))
    | (refine GrdV_intro (fun hc => ?_) (fun hc => ?_) <;> (try simp only [Bool.not_eq_true', Bool.not_eq_false'] at hc) <;> (try simp only [hc]))
    | (refine GrdL_intro (fun hc => ?_) (fun hc => ?_) <;> (try simp only [Bool.not_eq_true', Bool.not_eq_false'] at hc) <;> (try simp only [hc]))))
      exact bad em
    · have k2 : decide (0 < op.n.toNat) = false := decide_eq_false (fun h => cy ⟨h, beq_iff_eq.1 k1⟩)
      (repeat' (first
    | simp -implicitDefEqProofs only [WV_seq, WV_cond, WV_block, WV_skip, WV_ret, WV_exit, WV_region, WV_draw, WV_loop, thenQ_normal, thenQ_ret, thenQ_exit, blockQ_normal, blockQ_ret, blockQ_exit, V_nil, V_cons, KV_eq, VL_nil, VL_cons, KL_eq, vcl_zero, vcl_one, vcl_two, isV_same, isV_eq, monoK_eq, dOk, put, gd_none, gd_some, gdst_eq, gdv_some, gdB_true, gdB_false, gdB_undef, ev_const, ev_tmp, lit_i64, lit_i32, lit_bool, lit_pointer, lit_slice, lit_string, CondW_true, CondW_false, GrdV_true, GrdV_false, GrdL_true, GrdL_false, vc_move, vc_assign, vc_load, vc_store, vc_field, vc_indexAddr, vc_index, vc_box, vc_alloc, vc_build, vc_buildSlice, vc_makeSlice, vc_slice, vc_extract, vc_unOp, vc_convert, vc_bin, vc_pick, vc_call, vc_append, vc_len, vc_min, vc_max, vc_copy, vc_clear, pickK_true, pickK_false, stK_eq, not_bool, min_i64, max_i64, min_u16, max_u16, extract_tuple, vc_nil, nilK_ptr, int_add, int_sub, int_mul, int_eql, int_neq, int_lss, int_leq, int_gtr, int_geq, u8_add, u8_sub, u8_mul, u8_eql, u8_neq, u8_lss, u8_leq, u8_gtr, u8_geq, u16_add, u16_sub, u16_mul, u16_eql, u16_neq, u16_lss, u16_leq, u16_gtr, u16_geq, u32_add, u32_sub, u32_mul, u32_eql, u32_neq, u32_lss, u32_leq, u32_gtr, u32_geq, u64_add, u64_sub, u64_mul, u64_eql, u64_neq, u64_lss, u64_leq, u64_gtr, u64_geq, u8_and, u8_or, u8_xor, u8_andNot, u64_and, u64_or, u64_xor, u64_andNot, u8_shl_u8, u8_shl_u16, u8_shl_u64, u32_shl_u8, u32_shl_u16, u32_shl_u64, u64_shl_u8, u64_shl_u16, u64_shl_u64, u8_shr_u8, u8_shr_u16, u8_shr_u64, u64_shr_u8, u64_shr_u16, u64_shr_u64, u16_quo8, u16_rem8, u16_quo64, u16_rem64, u64_quo8, u64_rem8, u64_quo64, u64_rem64, u32_quo8, u32_rem8, u32_quo64, u32_rem64, int_quo2, int_rem2, int_quo8, int_rem8, int_quo64, int_rem64, u64_shrN, u64_shlN, fold64, fold32, i64_shl_u8, i16_eql, i16_neq, i16_lss, i16_geq, Nat.reduceEqDiff, Nat.reduceLT, Nat.reduceAdd, Nat.reduceMul, Nat.reduceSub, ↓reduceIte, if_true, if_false, eq_self, true_and, and_true, Bool.false_eq_true, Bool.not_true, Bool.not_false, reduceCtorEq, upd_get, List.getElem?_toArray, List.getElem?_cons_zero, List.getElem?_cons_succ, Option.bind_some, rdK_some, List.map_toArray, List.map_cons, List.map_nil, rd_upd, rdO_fblk, wrOk_fblk, wrO_fblk, lget_zero, lget_succ, upd_upd, agg_cells, cells_of_list, List.length_cons, List.length_nil, Nat.add_zero, pv_cells, pl_len, pl_0, pl_1, pl_2, pl_3, pl_4, pl_5, pv_fold, pv_eta, ov_eta, opv_eta, ov_cells, ol_len, ov_fold, opv_cells, opl_len, opv_fold, st_pv, st_ov, st_opv, ol_0, ol_1, ol_2, ol_3, ol_4, ol_5, ol_6, ol_7, ol_8, ol_9, opl_0, opl_1, opl_2, opl_3, opl_4, opl_5, opl_6, opl_7, wrsOk_fblk, wrsO_fblk, fblk_all, Nat.reduceLeDiff, Nat.zero_add, rdsK2, rdsK4, rdsK6, rdsK8, rdsK10, wrsK_nil, wrsK_cons, oneCell_u8, oneCell_u16, oneCell_u32, oneCell_u64, oneCell_i16, oneCell_int, oneCell_bool, oneCell_ptr, oneCell_pointer, oneCell_sl, oneCell_slice, oneCell_string, box_eq, List.all_cons, List.all_nil, Bool.and_self, Ex1_eq, Ex1_and, endQ, resH, res_tmp, res_cell, resC_ptr, tupleOf, Fabg.results127, fa_52_4, ld_5, k_u64_4, tn_u64_4, k_u8_15, tn_u8_15, fa_77_0, ld_26, len_26, lenS_26, cv_3_50, k_u16_1, fa_52_3, fa_52_5, ld_50, bd_60_, bd_60_0_1_2_3, bd_60_0_1_2_3_4_5, bd_60_0_1_3, bd_60_0_1_4_5, bd_60_0_2_3, bd_60_0_3, bd_60_0_4_5, k_u8_2, tn_u8_2, al_60, stN_60, cv_5_50, ldN_60, call_23, k_u16_0, ldN_52, cv_50_3, call_124, cv_50_194, call_128, ix_26_int, ix_26_u8, ix_26_u16, ix_26_i16, st_30, call_125, call_123, fa_77_2, ld_74, len_74, lenS_74, cv_3_5, fa_77_5, ld_39, fa_52_1, ix_39_int, ix_39_u8, ix_39_u16, ix_39_i16, k_u8_1, tn_u8_1, fa_52_2, call_63, fa_60_1, call_126, cv_50_5, o0, o1, o2, o3, o4, o5, o6, o7, ey, hn0, k1, k2, qn]
    | refine (cw).use ?_
    | refine (cw).useQ ?_
    | refine (cr).use ?_
    | refine (cr).useQ ?_
    | refine W_drawL (id := 1) (by kernel_rfl) [0, 0, 0, 0, 0, 0, 0, 0] (by kernel_rfl) ?_
    | refine W_drawL (id := 11) (by kernel_rfl) [0, 0, 0, 0, 0, 0, 0, 0, 0, 0, 0, 0, 0, 0, 0, 0, 2] (by kernel_rfl) ?_
    | refine W_drawL (id := 13) (by kernel_rfl) [0, 0, 0, 0, 0, 0, 0, 0, 0, 0, 0, 2] (by kernel_rfl) ?_
    | refine W_drawL (id := 14) (by kernel_rfl) [0, 0, 0, 0, 0, 0, 0, 0, 0, 0, 0, 0, 0, 0, 0, 0, 0] (by kernel_rfl) ?_
    | refine Alloc.mono ?_
    | (refine CondW_intro (fun hc => ?_) (fun hc => ?_) <;> (try simp only [Bool.not_eq_true', Bool.not_eq_false'] at hc) <;> (try simp only [hc]))
    | (refine GrdV_intro (fun hc => ?_) (fun hc => ?_) <;> (try simp only [Bool.not_eq_true', Bool.not_eq_false'] at hc) <;> (try simp only [hc]))
    | (refine GrdL_intro (fun hc => ?_) (fun hc => ?_) <;> (try simp only [Bool.not_eq_true', Bool.not_eq_false'] at hc) <;> (try simp only [hc]))))
      exact bad em
  | true =>
  rw [if_neg (by rintro (h | h); cases h; exact cy h)] at em
  obtain ⟨r1, r2, r3, r4, r5, r6⟩ := hrt rfl
  have hat := hsl r2
  rw [← r1] at hat
  obtain ⟨ne1, n128⟩ := n_each (S := S) (op := op) (by omega)
  have hw1 : 1 ≤ (wordsL (mlP op)).toNat := words7 (p := mlP op) rfl rfl
  obtain ⟨ba, cap, gA, a1, a2, a3, a4, a5, a6, a7⟩ := BdX.openA hX2 hlen.1
  have q2 : (at_.toNat < S.len) = True := eq_true hat
  have q3 : (at_.toNat < cap * 1) = True := eq_true (by omega)
  have z3 : b3 ≠ ba := fun e => by rw [← e, i3'] at a6; cases a6
  have z8 : b8 ≠ ba := fun e => by rw [← e, i8] at a6; cases a6
  have hX3 := a7 at_.toNat (makeListL at_ (UInt16.ofNat S.len) op.x (op.n * ((mlD op).toUInt16 + (mlC op).toUInt16)).toUInt32) hat
  have eD : shr8 op.y 4 = mlD op := rfl
  have eC : op.y &&& 15 = mlC op := rfl
  rw [eD, eC] at ey
  cases k1 : (op.y == 0)
  rotate_left
  focus
    have k2 : decide (0 < op.n.toNat) = false := decide_eq_false (fun h => cy ⟨h, beq_iff_eq.1 k1⟩)
    (repeat' (first
    | simp -implicitDefEqProofs only [WV_seq, WV_cond, WV_block, WV_skip, WV_ret, WV_exit, WV_region, WV_draw, WV_loop, thenQ_normal, thenQ_ret, thenQ_exit, blockQ_normal, blockQ_ret, blockQ_exit, V_nil, V_cons, KV_eq, VL_nil, VL_cons, KL_eq, vcl_zero, vcl_one, vcl_two, isV_same, isV_eq, monoK_eq, dOk, put, gd_none, gd_some, gdst_eq, gdv_some, gdB_true, gdB_false, gdB_undef, ev_const, ev_tmp, lit_i64, lit_i32, lit_bool, lit_pointer, lit_slice, lit_string, CondW_true, CondW_false, GrdV_true, GrdV_false, GrdL_true, GrdL_false, vc_move, vc_assign, vc_load, vc_store, vc_field, vc_indexAddr, vc_index, vc_box, vc_alloc, vc_build, vc_buildSlice, vc_makeSlice, vc_slice, vc_extract, vc_unOp, vc_convert, vc_bin, vc_pick, vc_call, vc_append, vc_len, vc_min, vc_max, vc_copy, vc_clear, pickK_true, pickK_false, stK_eq, not_bool, min_i64, max_i64, min_u16, max_u16, extract_tuple, vc_nil, nilK_ptr, int_add, int_sub, int_mul, int_eql, int_neq, int_lss, int_leq, int_gtr, int_geq, u8_add, u8_sub, u8_mul, u8_eql, u8_neq, u8_lss, u8_leq, u8_gtr, u8_geq, u16_add, u16_sub, u16_mul, u16_eql, u16_neq, u16_lss, u16_leq, u16_gtr, u16_geq, u32_add, u32_sub, u32_mul, u32_eql, u32_neq, u32_lss, u32_leq, u32_gtr, u32_geq, u64_add, u64_sub, u64_mul, u64_eql, u64_neq, u64_lss, u64_leq, u64_gtr, u64_geq, u8_and, u8_or, u8_xor, u8_andNot, u64_and, u64_or, u64_xor, u64_andNot, u8_shl_u8, u8_shl_u16, u8_shl_u64, u32_shl_u8, u32_shl_u16, u32_shl_u64, u64_shl_u8, u64_shl_u16, u64_shl_u64, u8_shr_u8, u8_shr_u16, u8_shr_u64, u64_shr_u8, u64_shr_u16, u64_shr_u64, u16_quo8, u16_rem8, u16_quo64, u16_rem64, u64_quo8, u64_rem8, u64_quo64, u64_rem64, u32_quo8, u32_rem8, u32_quo64, u32_rem64, int_quo2, int_rem2, int_quo8, int_rem8, int_quo64, int_rem64, u64_shrN, u64_shlN, fold64, fold32, i64_shl_u8, i16_eql, i16_neq, i16_lss, i16_geq, Nat.reduceEqDiff, Nat.reduceLT, Nat.reduceAdd, Nat.reduceMul, Nat.reduceSub, ↓reduceIte, if_true, if_false, eq_self, true_and, and_true, Bool.false_eq_true, Bool.not_true, Bool.not_false, reduceCtorEq, upd_get, List.getElem?_toArray, List.getElem?_cons_zero, List.getElem?_cons_succ, Option.bind_some, rdK_some, List.map_toArray, List.map_cons, List.map_nil, rd_upd, rdO_fblk, wrOk_fblk, wrO_fblk, lget_zero, lget_succ, upd_upd, agg_cells, cells_of_list, List.length_cons, List.length_nil, Nat.add_zero, pv_cells, pl_len, pl_0, pl_1, pl_2, pl_3, pl_4, pl_5, pv_fold, pv_eta, ov_eta, opv_eta, ov_cells, ol_len, ov_fold, opv_cells, opl_len, opv_fold, st_pv, st_ov, st_opv, ol_0, ol_1, ol_2, ol_3, ol_4, ol_5, ol_6, ol_7, ol_8, ol_9, opl_0, opl_1, opl_2, opl_3, opl_4, opl_5, opl_6, opl_7, wrsOk_fblk, wrsO_fblk, fblk_all, Nat.reduceLeDiff, Nat.zero_add, rdsK2, rdsK4, rdsK6, rdsK8, rdsK10, wrsK_nil, wrsK_cons, oneCell_u8, oneCell_u16, oneCell_u32, oneCell_u64, oneCell_i16, oneCell_int, oneCell_bool, oneCell_ptr, oneCell_pointer, oneCell_sl, oneCell_slice, oneCell_string, box_eq, List.all_cons, List.all_nil, Bool.and_self, Ex1_eq, Ex1_and, endQ, resH, res_tmp, res_cell, resC_ptr, tupleOf, Fabg.results127, fa_52_4, ld_5, k_u64_4, tn_u64_4, k_u8_15, tn_u8_15, fa_77_0, ld_26, len_26, lenS_26, cv_3_50, k_u16_1, fa_52_3, fa_52_5, ld_50, bd_60_, bd_60_0_1_2_3, bd_60_0_1_2_3_4_5, bd_60_0_1_3, bd_60_0_1_4_5, bd_60_0_2_3, bd_60_0_3, bd_60_0_4_5, k_u8_2, tn_u8_2, al_60, stN_60, cv_5_50, ldN_60, call_23, k_u16_0, ldN_52, cv_50_3, call_124, cv_50_194, call_128, ix_26_int, ix_26_u8, ix_26_u16, ix_26_i16, st_30, call_125, call_123, fa_77_2, ld_74, len_74, lenS_74, cv_3_5, fa_77_5, ld_39, fa_52_1, ix_39_int, ix_39_u8, ix_39_u16, ix_39_i16, k_u8_1, tn_u8_1, fa_52_2, call_63, fa_60_1, call_126, cv_50_5, eD, eC, o0, o1, o2, o3, o4, o5, o6, o7, p0, p1, p2, p3, p4, p5, a1, a3, q2, q3, z3, z8, ey, hn0, k1, k2, qn]
    | refine (cw).use ?_
    | refine (cw).useQ ?_
    | refine (cr).use ?_
    | refine (cr).useQ ?_
    | refine (makeList_ok _ _ _ _ _).use ?_
    | refine (makeList_ok _ _ _ _ _).useQ ?_
    | refine W_drawL (id := 1) (by kernel_rfl) [0, 0, 0, 0, 0, 0, 0, 0] (by kernel_rfl) ?_
    | refine W_drawL (id := 11) (by kernel_rfl) [0, 0, 0, 0, 0, 0, 0, 0, 0, 0, 0, 0, 0, 0, 0, 0, 2] (by kernel_rfl) ?_
    | refine W_drawL (id := 13) (by kernel_rfl) [0, 0, 0, 0, 0, 0, 0, 0, 0, 0, 0, 2] (by kernel_rfl) ?_
    | refine W_drawL (id := 14) (by kernel_rfl) [0, 0, 0, 0, 0, 0, 0, 0, 0, 0, 0, 0, 0, 0, 0, 0, 0] (by kernel_rfl) ?_
    | refine Alloc.mono ?_
    | (refine CondW_intro (fun hc => ?_) (fun hc => ?_) <;> (try simp only [Bool.not_eq_true', Bool.not_eq_false'] at hc) <;> (try simp only [hc]))
    | (refine GrdV_intro (fun hc => ?_) (fun hc => ?_) <;> (try simp only [Bool.not_eq_true', Bool.not_eq_false'] at hc) <;> (try simp only [hc]))
    | (refine GrdL_intro (fun hc => ?_) (fun hc => ?_) <;> (try simp only [Bool.not_eq_true', Bool.not_eq_false'] at hc) <;> (try simp only [hc]))))
  rotate_left
  focus
    (repeat' (first
    | simp -implicitDefEqProofs only [WV_seq, WV_cond, WV_block, WV_skip, WV_ret, WV_exit, WV_region, WV_draw, WV_loop, thenQ_normal, thenQ_ret, thenQ_exit, blockQ_normal, blockQ_ret, blockQ_exit, V_nil, V_cons, KV_eq, VL_nil, VL_cons, KL_eq, vcl_zero, vcl_one, vcl_two, isV_same, isV_eq, monoK_eq, dOk, put, gd_none, gd_some, gdst_eq, gdv_some, gdB_true, gdB_false, gdB_undef, ev_const, ev_tmp, lit_i64, lit_i32, lit_bool, lit_pointer, lit_slice, lit_string, CondW_true, CondW_false, GrdV_true, GrdV_false, GrdL_true, GrdL_false, vc_move, vc_assign, vc_load, vc_store, vc_field, vc_indexAddr, vc_index, vc_box, vc_alloc, vc_build, vc_buildSlice, vc_makeSlice, vc_slice, vc_extract, vc_unOp, vc_convert, vc_bin, vc_pick, vc_call, vc_append, vc_len, vc_min, vc_max, vc_copy, vc_clear, pickK_true, pickK_false, stK_eq, not_bool, min_i64, max_i64, min_u16, max_u16, extract_tuple, vc_nil, nilK_ptr, int_add, int_sub, int_mul, int_eql, int_neq, int_lss, int_leq, int_gtr, int_geq, u8_add, u8_sub, u8_mul, u8_eql, u8_neq, u8_lss, u8_leq, u8_gtr, u8_geq, u16_add, u16_sub, u16_mul, u16_eql, u16_neq, u16_lss, u16_leq, u16_gtr, u16_geq, u32_add, u32_sub, u32_mul, u32_eql, u32_neq, u32_lss, u32_leq, u32_gtr, u32_geq, u64_add, u64_sub, u64_mul, u64_eql, u64_neq, u64_lss, u64_leq, u64_gtr, u64_geq, u8_and, u8_or, u8_xor, u8_andNot, u64_and, u64_or, u64_xor, u64_andNot, u8_shl_u8, u8_shl_u16, u8_shl_u64, u32_shl_u8, u32_shl_u16, u32_shl_u64, u64_shl_u8, u64_shl_u16, u64_shl_u64, u8_shr_u8, u8_shr_u16, u8_shr_u64, u64_shr_u8, u64_shr_u16, u64_shr_u64, u16_quo8, u16_rem8, u16_quo64, u16_rem64, u64_quo8, u64_rem8, u64_quo64, u64_rem64, u32_quo8, u32_rem8, u32_quo64, u32_rem64, int_quo2, int_rem2, int_quo8, int_rem8, int_quo64, int_rem64, u64_shrN, u64_shlN, fold64, fold32, i64_shl_u8, i16_eql, i16_neq, i16_lss, i16_geq, Nat.reduceEqDiff, Nat.reduceLT, Nat.reduceAdd, Nat.reduceMul, Nat.reduceSub, ↓reduceIte, if_true, if_false, eq_self, true_and, and_true, Bool.false_eq_true, Bool.not_true, Bool.not_false, reduceCtorEq, upd_get, List.getElem?_toArray, List.getElem?_cons_zero, List.getElem?_cons_succ, Option.bind_some, rdK_some, List.map_toArray, List.map_cons, List.map_nil, rd_upd, rdO_fblk, wrOk_fblk, wrO_fblk, lget_zero, lget_succ, upd_upd, agg_cells, cells_of_list, List.length_cons, List.length_nil, Nat.add_zero, pv_cells, pl_len, pl_0, pl_1, pl_2, pl_3, pl_4, pl_5, pv_fold, pv_eta, ov_eta, opv_eta, ov_cells, ol_len, ov_fold, opv_cells, opl_len, opv_fold, st_pv, st_ov, st_opv, ol_0, ol_1, ol_2, ol_3, ol_4, ol_5, ol_6, ol_7, ol_8, ol_9, opl_0, opl_1, opl_2, opl_3, opl_4, opl_5, opl_6, opl_7, wrsOk_fblk, wrsO_fblk, fblk_all, Nat.reduceLeDiff, Nat.zero_add, rdsK2, rdsK4, rdsK6, rdsK8, rdsK10, wrsK_nil, wrsK_cons, oneCell_u8, oneCell_u16, oneCell_u32, oneCell_u64, oneCell_i16, oneCell_int, oneCell_bool, oneCell_ptr, oneCell_pointer, oneCell_sl, oneCell_slice, oneCell_string, box_eq, List.all_cons, List.all_nil, Bool.and_self, Ex1_eq, Ex1_and, endQ, resH, res_tmp, res_cell, resC_ptr, tupleOf, Fabg.results127, fa_52_4, ld_5, k_u64_4, tn_u64_4, k_u8_15, tn_u8_15, fa_77_0, ld_26, len_26, lenS_26, cv_3_50, k_u16_1, fa_52_3, fa_52_5, ld_50, bd_60_, bd_60_0_1_2_3, bd_60_0_1_2_3_4_5, bd_60_0_1_3, bd_60_0_1_4_5, bd_60_0_2_3, bd_60_0_3, bd_60_0_4_5, k_u8_2, tn_u8_2, al_60, stN_60, cv_5_50, ldN_60, call_23, k_u16_0, ldN_52, cv_50_3, call_124, cv_50_194, call_128, ix_26_int, ix_26_u8, ix_26_u16, ix_26_i16, st_30, call_125, call_123, fa_77_2, ld_74, len_74, lenS_74, cv_3_5, fa_77_5, ld_39, fa_52_1, ix_39_int, ix_39_u8, ix_39_u16, ix_39_i16, k_u8_1, tn_u8_1, fa_52_2, call_63, fa_60_1, call_126, cv_50_5, eD, eC, o0, o1, o2, o3, o4, o5, o6, o7, p0, p1, p2, p3, p4, p5, a1, a3, q2, q3, z3, z8, ey, hn0, k1, qn]
    | refine (cw).use ?_
    | refine (cw).useQ ?_
    | refine (cr).use ?_
    | refine (cr).useQ ?_
    | refine (makeList_ok _ _ _ _ _).use ?_
    | refine (makeList_ok _ _ _ _ _).useQ ?_
    | refine W_drawL (id := 1) (by kernel_rfl) [0, 0, 0, 0, 0, 0, 0, 0] (by kernel_rfl) ?_
    | refine W_drawL (id := 11) (by kernel_rfl) [0, 0, 0, 0, 0, 0, 0, 0, 0, 0, 0, 0, 0, 0, 0, 0, 2] (by kernel_rfl) ?_
    | refine W_drawL (id := 13) (by kernel_rfl) [0, 0, 0, 0, 0, 0, 0, 0, 0, 0, 0, 2] (by kernel_rfl) ?_
    | refine W_drawL (id := 14) (by kernel_rfl) [0, 0, 0, 0, 0, 0, 0, 0, 0, 0, 0, 0, 0, 0, 0, 0, 0] (by kernel_rfl) ?_
    | refine Alloc.mono ?_
    | (refine CondW_intro (fun hc => ?_) (fun hc => ?_) <;> (try simp only [Bool.not_eq_true', Bool.not_eq_false'] at hc) <;> (try simp only [hc]))
    | (refine GrdV_intro (fun hc => ?_) (fun hc => ?_) <;> (try simp only [Bool.not_eq_true', Bool.not_eq_false'] at hc) <;> (try simp only [hc]))
    | (refine GrdL_intro (fun hc => ?_) (fun hc => ?_) <;> (try simp only [Bool.not_eq_true', Bool.not_eq_false'] at hc) <;> (try simp only [hc]))))
  all_goals
    generalize upd G2 ba (some (fblk (cap * 1) (upd gA at_.toNat (u64 (makeListL at_ (UInt16.ofNat S.len) op.x (op.n * ((mlD op).toUInt16 + (mlC op).toUInt16)).toUInt32))) 30)) = G3 at *
    refine (bdX_grow hX3 (wordsL (mlP op)) (by show S.len + _ ≤ 1000; omega)).mono ?_
    rintro _ G4 ⟨rfl, hX4⟩
    obtain ⟨o0, o1, o2, o3, o4, o5, o6, o7⟩ := opAt_of (hX4.le0 _ _ i3')
    obtain ⟨p0, p1, p2, p3, p4, p5⟩ := ptAt_of (hX4.le0 _ _ i8)
    obtain ⟨bA, capA, gA2, d1, d2, d3, d4, d5, d6, d7⟩ := BdX.openA hX4 (by show 1 ≤ S.len + _; omega)
    have d1' : rd G4 bb 0 = some (sl bA 0 (S.len + (wordsL (mlP op)).toNat) capA) := d1
    have d2' : S.len + (wordsL (mlP op)).toNat ≤ capA := d2
    have zA3 : b3 ≠ bA := fun e => by rw [← e, i3'] at d6; cases d6
    have zA8 : b8 ≠ bA := fun e => by rw [← e, i8] at d6; cases d6
    have eL : (UInt16.ofNat S.len).toNat = S.len := tn16 (by omega)
    have q4 : (S.len < S.len + (wordsL (mlP op)).toNat) = True := eq_true (by omega)
    have q5 : (S.len < capA * 1) = True := eq_true (by omega)
    have q5' : (S.len < capA) = True := eq_true (by omega)
    have hX5 := d7 S.len (makeTagL op.n (mlD op) (mlC op)) (by show S.len < S.len + _; omega)
    obtain ⟨b5, c5, hR5⟩ := BdH.rdr hX4 (by show 1 ≤ S.len + _; omega) hcnt.1
    have y1 : rd G4 bb 5 = some (sl (b5 1) 0 S.cnt (c5 1)) := hR5.r1
    have y4 : rd G4 bb 8 = some (sl (b5 4) 0 S.cnt (c5 4)) := hR5.r4
    have yd : rd G4 (b5 4) op.h.toNat = some (u8 (dep op.h.toNat)) := hR5.d op.h.toNat hl.1
    have zd : b5 4 ≠ bA := BdX.neA hX4 d1 (by show 1 ≤ S.len + _; omega) hcnt.1 4 _ _ _ (by omega) (by omega) y4
    have q6 : (op.h.toNat < S.cnt) = True := eq_true hl.1
    have hc255 : S.cnt < 256 := by omega
    have e8 : toU8 ((S.cnt : Nat) : Int) = UInt8.ofNat S.cnt := toU8n hc255
    (repeat' (first
    | simp -implicitDefEqProofs only [WV_seq, WV_cond, WV_block, WV_skip, WV_ret, WV_exit, WV_region, WV_draw, WV_loop, thenQ_normal, thenQ_ret, thenQ_exit, blockQ_normal, blockQ_ret, blockQ_exit, V_nil, V_cons, KV_eq, VL_nil, VL_cons, KL_eq, vcl_zero, vcl_one, vcl_two, isV_same, isV_eq, monoK_eq, dOk, put, gd_none, gd_some, gdst_eq, gdv_some, gdB_true, gdB_false, gdB_undef, ev_const, ev_tmp, lit_i64, lit_i32, lit_bool, lit_pointer, lit_slice, lit_string, CondW_true, CondW_false, GrdV_true, GrdV_false, GrdL_true, GrdL_false, vc_move, vc_assign, vc_load, vc_store, vc_field, vc_indexAddr, vc_index, vc_box, vc_alloc, vc_build, vc_buildSlice, vc_makeSlice, vc_slice, vc_extract, vc_unOp, vc_convert, vc_bin, vc_pick, vc_call, vc_append, vc_len, vc_min, vc_max, vc_copy, vc_clear, pickK_true, pickK_false, stK_eq, not_bool, min_i64, max_i64, min_u16, max_u16, extract_tuple, vc_nil, nilK_ptr, int_add, int_sub, int_mul, int_eql, int_neq, int_lss, int_leq, int_gtr, int_geq, u8_add, u8_sub, u8_mul, u8_eql, u8_neq, u8_lss, u8_leq, u8_gtr, u8_geq, u16_add, u16_sub, u16_mul, u16_eql, u16_neq, u16_lss, u16_leq, u16_gtr, u16_geq, u32_add, u32_sub, u32_mul, u32_eql, u32_neq, u32_lss, u32_leq, u32_gtr, u32_geq, u64_add, u64_sub, u64_mul, u64_eql, u64_neq, u64_lss, u64_leq, u64_gtr, u64_geq, u8_and, u8_or, u8_xor, u8_andNot, u64_and, u64_or, u64_xor, u64_andNot, u8_shl_u8, u8_shl_u16, u8_shl_u64, u32_shl_u8, u32_shl_u16, u32_shl_u64, u64_shl_u8, u64_shl_u16, u64_shl_u64, u8_shr_u8, u8_shr_u16, u8_shr_u64, u64_shr_u8, u64_shr_u16, u64_shr_u64, u16_quo8, u16_rem8, u16_quo64, u16_rem64, u64_quo8, u64_rem8, u64_quo64, u64_rem64, u32_quo8, u32_rem8, u32_quo64, u32_rem64, int_quo2, int_rem2, int_quo8, int_rem8, int_quo64, int_rem64, u64_shrN, u64_shlN, fold64, fold32, i64_shl_u8, i16_eql, i16_neq, i16_lss, i16_geq, Nat.reduceEqDiff, Nat.reduceLT, Nat.reduceAdd, Nat.reduceMul, Nat.reduceSub, ↓reduceIte, if_true, if_false, eq_self, true_and, and_true, Bool.false_eq_true, Bool.not_true, Bool.not_false, reduceCtorEq, upd_get, List.getElem?_toArray, List.getElem?_cons_zero, List.getElem?_cons_succ, Option.bind_some, rdK_some, List.map_toArray, List.map_cons, List.map_nil, rd_upd, rdO_fblk, wrOk_fblk, wrO_fblk, lget_zero, lget_succ, upd_upd, agg_cells, cells_of_list, List.length_cons, List.length_nil, Nat.add_zero, pv_cells, pl_len, pl_0, pl_1, pl_2, pl_3, pl_4, pl_5, pv_fold, pv_eta, ov_eta, opv_eta, ov_cells, ol_len, ov_fold, opv_cells, opl_len, opv_fold, st_pv, st_ov, st_opv, ol_0, ol_1, ol_2, ol_3, ol_4, ol_5, ol_6, ol_7, ol_8, ol_9, opl_0, opl_1, opl_2, opl_3, opl_4, opl_5, opl_6, opl_7, wrsOk_fblk, wrsO_fblk, fblk_all, Nat.reduceLeDiff, Nat.zero_add, rdsK2, rdsK4, rdsK6, rdsK8, rdsK10, wrsK_nil, wrsK_cons, oneCell_u8, oneCell_u16, oneCell_u32, oneCell_u64, oneCell_i16, oneCell_int, oneCell_bool, oneCell_ptr, oneCell_pointer, oneCell_sl, oneCell_slice, oneCell_string, box_eq, List.all_cons, List.all_nil, Bool.and_self, Ex1_eq, Ex1_and, endQ, resH, res_tmp, res_cell, resC_ptr, tupleOf, Fabg.results127, fa_52_4, ld_5, k_u64_4, tn_u64_4, k_u8_15, tn_u8_15, fa_77_0, ld_26, len_26, lenS_26, cv_3_50, k_u16_1, fa_52_3, fa_52_5, ld_50, bd_60_, bd_60_0_1_2_3, bd_60_0_1_2_3_4_5, bd_60_0_1_3, bd_60_0_1_4_5, bd_60_0_2_3, bd_60_0_3, bd_60_0_4_5, k_u8_2, tn_u8_2, al_60, stN_60, cv_5_50, ldN_60, call_23, k_u16_0, ldN_52, cv_50_3, call_124, cv_50_194, call_128, ix_26_int, ix_26_u8, ix_26_u16, ix_26_i16, st_30, call_125, call_123, fa_77_2, ld_74, len_74, lenS_74, cv_3_5, fa_77_5, ld_39, fa_52_1, ix_39_int, ix_39_u8, ix_39_u16, ix_39_i16, k_u8_1, tn_u8_1, fa_52_2, call_63, fa_60_1, call_126, cv_50_5, o0, o1, o2, o3, o4, o5, o6, o7, p0, p1, p2, p3, p4, p5, d1', d3, zA3, zA8, eL, q4, q5, q5', q6, d5, Ne.symm d5, y1, y4, yd, zd, e8, Nat.zero_add, Nat.mul_one]
    | refine (makeTag_ok _ _ _ _).use ?_
    | refine (makeTag_ok _ _ _ _).useQ ?_
    | refine W_drawL (id := 1) (by kernel_rfl) [0, 0, 0, 0, 0, 0, 0, 0] (by kernel_rfl) ?_
    | refine W_drawL (id := 11) (by kernel_rfl) [0, 0, 0, 0, 0, 0, 0, 0, 0, 0, 0, 0, 0, 0, 0, 0, 2] (by kernel_rfl) ?_
    | refine W_drawL (id := 13) (by kernel_rfl) [0, 0, 0, 0, 0, 0, 0, 0, 0, 0, 0, 2] (by kernel_rfl) ?_
    | refine W_drawL (id := 14) (by kernel_rfl) [0, 0, 0, 0, 0, 0, 0, 0, 0, 0, 0, 0, 0, 0, 0, 0, 0] (by kernel_rfl) ?_
    | refine Alloc.mono ?_
    | (refine CondW_intro (fun hc => ?_) (fun hc => ?_) <;> (try simp only [Bool.not_eq_true', Bool.not_eq_false'] at hc) <;> (try simp only [hc]))
    | (refine GrdV_intro (fun hc => ?_) (fun hc => ?_) <;> (try simp only [Bool.not_eq_true', Bool.not_eq_false'] at hc) <;> (try simp only [hc]))
    | (refine GrdL_intro (fun hc => ?_) (fun hc => ?_) <;> (try simp only [Bool.not_eq_true', Bool.not_eq_false'] at hc) <;> (try simp only [hc]))))
    rw [Nat.mul_one] at hX5
    refine (bdX_hang hX5 (mlQ S op) op.h op.i (dep op.h.toNat + 1) ⟨mlQ S op, Int16.ofInt (op.h.toNat : Int), op.i, false, false⟩ rfl (by show S.len + _ ≤ 900; omega) (by show S.cnt ≤ 900; omega)).mono ?_
    rintro _ G6 ⟨rfl, hX6⟩
    have hwq : makeListL at_ (UInt16.ofNat S.len) op.x (op.n * ((mlD op).toUInt16 + (mlC op).toUInt16)).toUInt32 = pointerL at_ (mlQ S op) := by
      rw [ne1]
      show _ = if (2 : UInt8) = 1 then _ else if (7 : UInt8) = 7 then makeListL at_ (firstL (mlQ S op)) 7 ((wordsL (mlQ S op)).toUInt32 - 1) else _
      rw [if_neg (by decide), if_pos rfl, h7]
      have e1 : firstL (mlQ S op) = UInt16.ofNat S.len := by
        apply UInt16.toNat_inj.1
        have hq : (mlQ S op).at_.toNat = S.len + 1 := by
          show (UInt16.ofNat S.len + 1).toNat = _
          have : (1 : UInt16).toNat = 1 := rfl
          rw [UInt16.toNat_add, eL, this]; omega
        rw [firstL_nat rfl (by omega), hq, eL]
        omega
      rw [e1]
      rfl
    have hX7 : BdX H2 G6 bb (mlK S op at_ 0) (upd P S.cnt (mlQ S op)) (upd up S.cnt op.h) (upd via S.cnt op.i) (upd dep S.cnt (dep op.h.toNat + 1)) := by
      refine hX6.congr' rfl rfl (fun j hj => ?_) (fun k hk => ?_)
      · show upd (fun j => if j < S.len then upd S.A at_.toNat (makeListL at_ (UInt16.ofNat S.len) op.x (op.n * ((mlD op).toUInt16 + (mlC op).toUInt16)).toUInt32) j else 0) S.len (makeTagL op.n (mlD op) (mlC op)) j = upd (upd (fun i => if i < S.len then S.A i else 0) at_.toNat (pointerL at_ (mlQ S op))) S.len (makeTagL op.n (mlD op) (mlC op)) j
        rw [hwq]
        by_cases e : j = S.len
        · rw [e, upd_same, upd_same]
        · rw [upd_ne _ _ _ _ e, upd_ne _ _ _ _ e]
          by_cases e2 : j = at_.toNat
          · rw [e2, upd_same, upd_same, if_pos hat]
          · rw [upd_ne _ _ _ _ e2, upd_ne _ _ _ _ e2]
      · show (upd S.O S.cnt _ k).dead = (if k < S.cnt then S.O k else if k = S.cnt then _ else mlO S op (k - S.cnt - 1)).dead
        have hk' : k < S.cnt + 1 := hk
        by_cases e : k = S.cnt
        · subst e; rw [upd_same, if_neg (by omega), if_pos rfl]
        · rw [upd_ne _ _ _ _ e, if_pos (by omega)]
    have hdp := hS.dep _ hl
    have hd1 : (dep op.h.toNat + 1).toNat = 1 + depN S 40 (op.h.toNat : Int) := by
      rw [UInt8.toNat_add, hdp]
      have : (1 : UInt8).toNat = 1 := rfl
      rw [this]
      omega
    have hnew0 : (mlK S op at_ 0).O S.cnt = ⟨mlQ S op, Int16.ofInt (op.h.toNat : Int), op.i, false, false⟩ := by
      show (if S.cnt < S.cnt then _ else if S.cnt = S.cnt then _ else _) = _
      rw [if_neg (by omega), if_pos rfl]
    have hsim0 := Sim.new (S := S) (S' := mlK S op at_ 0) (h := op.h) (i := op.i) (d := dep op.h.toNat + 1) (p := mlQ S op) hS rfl (fun k hk => by show (if k < S.cnt then S.O k else _) = _; rw [if_pos hk]) hcnt.1 hcnt.2 hl.1 (by rw [hnew0]) (by rw [hnew0]) (.inl (by rw [hnew0])) (ends_le (g.e17 hl).1 20 (by omega)).1 (by rw [hnew0, hd1]; rfl)
    obtain ⟨s0, s1, s2, s3, s4, s5, s6, s7⟩ := opAt_of (hX7.le0 _ _ i3')
    (repeat' (first
    | simp -implicitDefEqProofs only [WV_seq, WV_cond, WV_block, WV_skip, WV_ret, WV_exit, WV_region, WV_draw, WV_loop, thenQ_normal, thenQ_ret, thenQ_exit, blockQ_normal, blockQ_ret, blockQ_exit, V_nil, V_cons, KV_eq, VL_nil, VL_cons, KL_eq, vcl_zero, vcl_one, vcl_two, isV_same, isV_eq, monoK_eq, dOk, put, gd_none, gd_some, gdst_eq, gdv_some, gdB_true, gdB_false, gdB_undef, ev_const, ev_tmp, lit_i64, lit_i32, lit_bool, lit_pointer, lit_slice, lit_string, CondW_true, CondW_false, GrdV_true, GrdV_false, GrdL_true, GrdL_false, vc_move, vc_assign, vc_load, vc_store, vc_field, vc_indexAddr, vc_index, vc_box, vc_alloc, vc_build, vc_buildSlice, vc_makeSlice, vc_slice, vc_extract, vc_unOp, vc_convert, vc_bin, vc_pick, vc_call, vc_append, vc_len, vc_min, vc_max, vc_copy, vc_clear, pickK_true, pickK_false, stK_eq, not_bool, min_i64, max_i64, min_u16, max_u16, extract_tuple, vc_nil, nilK_ptr, int_add, int_sub, int_mul, int_eql, int_neq, int_lss, int_leq, int_gtr, int_geq, u8_add, u8_sub, u8_mul, u8_eql, u8_neq, u8_lss, u8_leq, u8_gtr, u8_geq, u16_add, u16_sub, u16_mul, u16_eql, u16_neq, u16_lss, u16_leq, u16_gtr, u16_geq, u32_add, u32_sub, u32_mul, u32_eql, u32_neq, u32_lss, u32_leq, u32_gtr, u32_geq, u64_add, u64_sub, u64_mul, u64_eql, u64_neq, u64_lss, u64_leq, u64_gtr, u64_geq, u8_and, u8_or, u8_xor, u8_andNot, u64_and, u64_or, u64_xor, u64_andNot, u8_shl_u8, u8_shl_u16, u8_shl_u64, u32_shl_u8, u32_shl_u16, u32_shl_u64, u64_shl_u8, u64_shl_u16, u64_shl_u64, u8_shr_u8, u8_shr_u16, u8_shr_u64, u64_shr_u8, u64_shr_u16, u64_shr_u64, u16_quo8, u16_rem8, u16_quo64, u16_rem64, u64_quo8, u64_rem8, u64_quo64, u64_rem64, u32_quo8, u32_rem8, u32_quo64, u32_rem64, int_quo2, int_rem2, int_quo8, int_rem8, int_quo64, int_rem64, u64_shrN, u64_shlN, fold64, fold32, i64_shl_u8, i16_eql, i16_neq, i16_lss, i16_geq, Nat.reduceEqDiff, Nat.reduceLT, Nat.reduceAdd, Nat.reduceMul, Nat.reduceSub, ↓reduceIte, if_true, if_false, eq_self, true_and, and_true, Bool.false_eq_true, Bool.not_true, Bool.not_false, reduceCtorEq, upd_get, List.getElem?_toArray, List.getElem?_cons_zero, List.getElem?_cons_succ, Option.bind_some, rdK_some, List.map_toArray, List.map_cons, List.map_nil, rd_upd, rdO_fblk, wrOk_fblk, wrO_fblk, lget_zero, lget_succ, upd_upd, agg_cells, cells_of_list, List.length_cons, List.length_nil, Nat.add_zero, pv_cells, pl_len, pl_0, pl_1, pl_2, pl_3, pl_4, pl_5, pv_fold, pv_eta, ov_eta, opv_eta, ov_cells, ol_len, ov_fold, opv_cells, opl_len, opv_fold, st_pv, st_ov, st_opv, ol_0, ol_1, ol_2, ol_3, ol_4, ol_5, ol_6, ol_7, ol_8, ol_9, opl_0, opl_1, opl_2, opl_3, opl_4, opl_5, opl_6, opl_7, wrsOk_fblk, wrsO_fblk, fblk_all, Nat.reduceLeDiff, Nat.zero_add, rdsK2, rdsK4, rdsK6, rdsK8, rdsK10, wrsK_nil, wrsK_cons, oneCell_u8, oneCell_u16, oneCell_u32, oneCell_u64, oneCell_i16, oneCell_int, oneCell_bool, oneCell_ptr, oneCell_pointer, oneCell_sl, oneCell_slice, oneCell_string, box_eq, List.all_cons, List.all_nil, Bool.and_self, Ex1_eq, Ex1_and, endQ, resH, res_tmp, res_cell, resC_ptr, tupleOf, Fabg.results127, fa_52_4, ld_5, k_u64_4, tn_u64_4, k_u8_15, tn_u8_15, fa_77_0, ld_26, len_26, lenS_26, cv_3_50, k_u16_1, fa_52_3, fa_52_5, ld_50, bd_60_, bd_60_0_1_2_3, bd_60_0_1_2_3_4_5, bd_60_0_1_3, bd_60_0_1_4_5, bd_60_0_2_3, bd_60_0_3, bd_60_0_4_5, k_u8_2, tn_u8_2, al_60, stN_60, cv_5_50, ldN_60, call_23, k_u16_0, ldN_52, cv_50_3, call_124, cv_50_194, call_128, ix_26_int, ix_26_u8, ix_26_u16, ix_26_i16, st_30, call_125, call_123, fa_77_2, ld_74, len_74, lenS_74, cv_3_5, fa_77_5, ld_39, fa_52_1, ix_39_int, ix_39_u8, ix_39_u16, ix_39_i16, k_u8_1, tn_u8_1, fa_52_2, call_63, fa_60_1, call_126, cv_50_5]
    | refine W_drawL (id := 1) (by kernel_rfl) [0, 0, 0, 0, 0, 0, 0, 0] (by kernel_rfl) ?_
    | refine W_drawL (id := 11) (by kernel_rfl) [0, 0, 0, 0, 0, 0, 0, 0, 0, 0, 0, 0, 0, 0, 0, 0, 2] (by kernel_rfl) ?_
    | refine W_drawL (id := 13) (by kernel_rfl) [0, 0, 0, 0, 0, 0, 0, 0, 0, 0, 0, 2] (by kernel_rfl) ?_
    | refine W_drawL (id := 14) (by kernel_rfl) [0, 0, 0, 0, 0, 0, 0, 0, 0, 0, 0, 0, 0, 0, 0, 0, 0] (by kernel_rfl) ?_
    | refine Alloc.mono ?_
    | (refine CondW_intro (fun hc => ?_) (fun hc => ?_) <;> (try simp only [Bool.not_eq_true', Bool.not_eq_false'] at hc) <;> (try simp only [hc]))
    | (refine GrdV_intro (fun hc => ?_) (fun hc => ?_) <;> (try simp only [Bool.not_eq_true', Bool.not_eq_false'] at hc) <;> (try simp only [hc]))
    | (refine GrdL_intro (fun hc => ?_) (fun hc => ?_) <;> (try simp only [Bool.not_eq_true', Bool.not_eq_false'] at hc) <;> (try simp only [hc]))))
    generalize hTT : (upd _ _ _ : Env) = T2
    have w0 : T2 0 = ptr bb 0 := by rw [← hTT]; simp [upd_get]
    have w3 : T2 3 = ptr b3 0 := by rw [← hTT]; simp [upd_get]
    have w5 : T2 5 = u8 (mlD op) := by rw [← hTT]; simp [upd_get, eD]
    have w6 : T2 6 = u8 (mlC op) := by rw [← hTT]; simp [upd_get, eC]
    have w8 : T2 8 = ptr b8 0 := by rw [← hTT]; simp [upd_get]
    have w9 : T2 9 = u16 ((mlD op).toUInt16 + (mlC op).toUInt16) := by rw [← hTT]; simp [upd_get, eD, eC]
    have w13 : T2 13 = u8 (UInt8.ofNat S.cnt) := by rw [← hTT]; simp [upd_get]
    have w14 : T2 14 = u8 (dep op.h.toNat + 1) := by rw [← hTT]; simp [upd_get]
    have w15 : T2 15 = u16 (UInt16.ofNat 0) := by rw [← hTT]; simp [upd_get]
    clear hTT
    refine W_loopM (fun m T G' => ∃ (j : Nat) (P' : Nat → Ptr) (up' via' dep' : Nat → UInt8), m + j = op.n.toNat ∧ BdX H2 G' bb (mlK S op at_ j) P' up' via' dep' ∧ Sim (mlK S op at_ j) P' up' via' dep' ∧ T 0 = ptr bb 0 ∧ T 3 = ptr b3 0 ∧ T 5 = u8 (mlD op) ∧ T 6 = u8 (mlC op) ∧ T 8 = ptr b8 0 ∧ T 9 = u16 ((mlD op).toUInt16 + (mlC op).toUInt16) ∧ T 13 = u8 (UInt8.ofNat S.cnt) ∧ T 14 = u8 (dep op.h.toNat + 1) ∧ T 15 = u16 (UInt16.ofNat j))
      (fun T G' => BdS H0 G' bb (mlK S op at_ op.n.toNat)) ?_ op.n.toNat _ _ ?_ ?_
    · rintro m T G' ⟨j, P', up', via', dep', hmj, hXj, hSj, t0, t3, t5, t6, t8, t9, t13, t14, t15⟩
      refine WV_sound _ _ _ _ ?_
      obtain ⟨s0, s1, s2, s3, s4, s5, s6, s7⟩ := opAt_of (hXj.le0 _ _ i3')
      obtain ⟨p0, p1, p2, p3, p4, p5⟩ := ptAt_of (hXj.le0 _ _ i8)
      by_cases hj : j < op.n.toNat
      rotate_left
      · have q : decide (UInt16.ofNat j < op.n) = false := decide_eq_false (by rw [UInt16.lt_iff_toNat_lt, tn16 (by omega)]; omega)
        have ej : j = op.n.toNat := by omega
        (repeat' (first
    | simp -implicitDefEqProofs only [WV_seq, WV_cond, WV_block, WV_skip, WV_ret, WV_exit, WV_region, WV_draw, WV_loop, thenQ_normal, thenQ_ret, thenQ_exit, blockQ_normal, blockQ_ret, blockQ_exit, V_nil, V_cons, KV_eq, VL_nil, VL_cons, KL_eq, vcl_zero, vcl_one, vcl_two, isV_same, isV_eq, monoK_eq, dOk, put, gd_none, gd_some, gdst_eq, gdv_some, gdB_true, gdB_false, gdB_undef, ev_const, ev_tmp, lit_i64, lit_i32, lit_bool, lit_pointer, lit_slice, lit_string, CondW_true, CondW_false, GrdV_true, GrdV_false, GrdL_true, GrdL_false, vc_move, vc_assign, vc_load, vc_store, vc_field, vc_indexAddr, vc_index, vc_box, vc_alloc, vc_build, vc_buildSlice, vc_makeSlice, vc_slice, vc_extract, vc_unOp, vc_convert, vc_bin, vc_pick, vc_call, vc_append, vc_len, vc_min, vc_max, vc_copy, vc_clear, pickK_true, pickK_false, stK_eq, not_bool, min_i64, max_i64, min_u16, max_u16, extract_tuple, vc_nil, nilK_ptr, int_add, int_sub, int_mul, int_eql, int_neq, int_lss, int_leq, int_gtr, int_geq, u8_add, u8_sub, u8_mul, u8_eql, u8_neq, u8_lss, u8_leq, u8_gtr, u8_geq, u16_add, u16_sub, u16_mul, u16_eql, u16_neq, u16_lss, u16_leq, u16_gtr, u16_geq, u32_add, u32_sub, u32_mul, u32_eql, u32_neq, u32_lss, u32_leq, u32_gtr, u32_geq, u64_add, u64_sub, u64_mul, u64_eql, u64_neq, u64_lss, u64_leq, u64_gtr, u64_geq, u8_and, u8_or, u8_xor, u8_andNot, u64_and, u64_or, u64_xor, u64_andNot, u8_shl_u8, u8_shl_u16, u8_shl_u64, u32_shl_u8, u32_shl_u16, u32_shl_u64, u64_shl_u8, u64_shl_u16, u64_shl_u64, u8_shr_u8, u8_shr_u16, u8_shr_u64, u64_shr_u8, u64_shr_u16, u64_shr_u64, u16_quo8, u16_rem8, u16_quo64, u16_rem64, u64_quo8, u64_rem8, u64_quo64, u64_rem64, u32_quo8, u32_rem8, u32_quo64, u32_rem64, int_quo2, int_rem2, int_quo8, int_rem8, int_quo64, int_rem64, u64_shrN, u64_shlN, fold64, fold32, i64_shl_u8, i16_eql, i16_neq, i16_lss, i16_geq, Nat.reduceEqDiff, Nat.reduceLT, Nat.reduceAdd, Nat.reduceMul, Nat.reduceSub, ↓reduceIte, if_true, if_false, eq_self, true_and, and_true, Bool.false_eq_true, Bool.not_true, Bool.not_false, reduceCtorEq, upd_get, List.getElem?_toArray, List.getElem?_cons_zero, List.getElem?_cons_succ, Option.bind_some, rdK_some, List.map_toArray, List.map_cons, List.map_nil, rd_upd, rdO_fblk, wrOk_fblk, wrO_fblk, lget_zero, lget_succ, upd_upd, agg_cells, cells_of_list, List.length_cons, List.length_nil, Nat.add_zero, pv_cells, pl_len, pl_0, pl_1, pl_2, pl_3, pl_4, pl_5, pv_fold, pv_eta, ov_eta, opv_eta, ov_cells, ol_len, ov_fold, opv_cells, opl_len, opv_fold, st_pv, st_ov, st_opv, ol_0, ol_1, ol_2, ol_3, ol_4, ol_5, ol_6, ol_7, ol_8, ol_9, opl_0, opl_1, opl_2, opl_3, opl_4, opl_5, opl_6, opl_7, wrsOk_fblk, wrsO_fblk, fblk_all, Nat.reduceLeDiff, Nat.zero_add, rdsK2, rdsK4, rdsK6, rdsK8, rdsK10, wrsK_nil, wrsK_cons, oneCell_u8, oneCell_u16, oneCell_u32, oneCell_u64, oneCell_i16, oneCell_int, oneCell_bool, oneCell_ptr, oneCell_pointer, oneCell_sl, oneCell_slice, oneCell_string, box_eq, List.all_cons, List.all_nil, Bool.and_self, Ex1_eq, Ex1_and, endQ, resH, res_tmp, res_cell, resC_ptr, tupleOf, Fabg.results127, fa_52_4, ld_5, k_u64_4, tn_u64_4, k_u8_15, tn_u8_15, fa_77_0, ld_26, len_26, lenS_26, cv_3_50, k_u16_1, fa_52_3, fa_52_5, ld_50, bd_60_, bd_60_0_1_2_3, bd_60_0_1_2_3_4_5, bd_60_0_1_3, bd_60_0_1_4_5, bd_60_0_2_3, bd_60_0_3, bd_60_0_4_5, k_u8_2, tn_u8_2, al_60, stN_60, cv_5_50, ldN_60, call_23, k_u16_0, ldN_52, cv_50_3, call_124, cv_50_194, call_128, ix_26_int, ix_26_u8, ix_26_u16, ix_26_i16, st_30, call_125, call_123, fa_77_2, ld_74, len_74, lenS_74, cv_3_5, fa_77_5, ld_39, fa_52_1, ix_39_int, ix_39_u8, ix_39_u16, ix_39_i16, k_u8_1, tn_u8_1, fa_52_2, call_63, fa_60_1, call_126, cv_50_5, t0, t3, t5, t6, t8, t9, t13, t14, t15, s5, q]
    | refine W_drawL (id := 1) (by kernel_rfl) [0, 0, 0, 0, 0, 0, 0, 0] (by kernel_rfl) ?_
    | refine W_drawL (id := 11) (by kernel_rfl) [0, 0, 0, 0, 0, 0, 0, 0, 0, 0, 0, 0, 0, 0, 0, 0, 2] (by kernel_rfl) ?_
    | refine W_drawL (id := 13) (by kernel_rfl) [0, 0, 0, 0, 0, 0, 0, 0, 0, 0, 0, 2] (by kernel_rfl) ?_
    | refine W_drawL (id := 14) (by kernel_rfl) [0, 0, 0, 0, 0, 0, 0, 0, 0, 0, 0, 0, 0, 0, 0, 0, 0] (by kernel_rfl) ?_
    | refine Alloc.mono ?_
    | (refine CondW_intro (fun hc => ?_) (fun hc => ?_) <;> (try simp only [Bool.not_eq_true', Bool.not_eq_false'] at hc) <;> (try simp only [hc]))
    | (refine GrdV_intro (fun hc => ?_) (fun hc => ?_) <;> (try simp only [Bool.not_eq_true', Bool.not_eq_false'] at hc) <;> (try simp only [hc]))
    | (refine GrdL_intro (fun hc => ?_) (fun hc => ?_) <;> (try simp only [Bool.not_eq_true', Bool.not_eq_false'] at hc) <;> (try simp only [hc]))))
        rw [← ej]
        exact ⟨P', up', via', dep', hXj.weaken hle2, hSj⟩
      have q : decide (UInt16.ofNat j < op.n) = true := decide_eq_true (by rw [UInt16.lt_iff_toNat_lt, tn16 (by omega)]; omega)
      have q1 : UInt16.ofNat j + 1 = UInt16.ofNat (j + 1) := add16 (b := 1) (by omega)
      (repeat' (first
    | simp -implicitDefEqProofs only [WV_seq, WV_cond, WV_block, WV_skip, WV_ret, WV_exit, WV_region, WV_draw, WV_loop, thenQ_normal, thenQ_ret, thenQ_exit, blockQ_normal, blockQ_ret, blockQ_exit, V_nil, V_cons, KV_eq, VL_nil, VL_cons, KL_eq, vcl_zero, vcl_one, vcl_two, isV_same, isV_eq, monoK_eq, dOk, put, gd_none, gd_some, gdst_eq, gdv_some, gdB_true, gdB_false, gdB_undef, ev_const, ev_tmp, lit_i64, lit_i32, lit_bool, lit_pointer, lit_slice, lit_string, CondW_true, CondW_false, GrdV_true, GrdV_false, GrdL_true, GrdL_false, vc_move, vc_assign, vc_load, vc_store, vc_field, vc_indexAddr, vc_index, vc_box, vc_alloc, vc_build, vc_buildSlice, vc_makeSlice, vc_slice, vc_extract, vc_unOp, vc_convert, vc_bin, vc_pick, vc_call, vc_append, vc_len, vc_min, vc_max, vc_copy, vc_clear, pickK_true, pickK_false, stK_eq, not_bool, min_i64, max_i64, min_u16, max_u16, extract_tuple, vc_nil, nilK_ptr, int_add, int_sub, int_mul, int_eql, int_neq, int_lss, int_leq, int_gtr, int_geq, u8_add, u8_sub, u8_mul, u8_eql, u8_neq, u8_lss, u8_leq, u8_gtr, u8_geq, u16_add, u16_sub, u16_mul, u16_eql, u16_neq, u16_lss, u16_leq, u16_gtr, u16_geq, u32_add, u32_sub, u32_mul, u32_eql, u32_neq, u32_lss, u32_leq, u32_gtr, u32_geq, u64_add, u64_sub, u64_mul, u64_eql, u64_neq, u64_lss, u64_leq, u64_gtr, u64_geq, u8_and, u8_or, u8_xor, u8_andNot, u64_and, u64_or, u64_xor, u64_andNot, u8_shl_u8, u8_shl_u16, u8_shl_u64, u32_shl_u8, u32_shl_u16, u32_shl_u64, u64_shl_u8, u64_shl_u16, u64_shl_u64, u8_shr_u8, u8_shr_u16, u8_shr_u64, u64_shr_u8, u64_shr_u16, u64_shr_u64, u16_quo8, u16_rem8, u16_quo64, u16_rem64, u64_quo8, u64_rem8, u64_quo64, u64_rem64, u32_quo8, u32_rem8, u32_quo64, u32_rem64, int_quo2, int_rem2, int_quo8, int_rem8, int_quo64, int_rem64, u64_shrN, u64_shlN, fold64, fold32, i64_shl_u8, i16_eql, i16_neq, i16_lss, i16_geq, Nat.reduceEqDiff, Nat.reduceLT, Nat.reduceAdd, Nat.reduceMul, Nat.reduceSub, ↓reduceIte, if_true, if_false, eq_self, true_and, and_true, Bool.false_eq_true, Bool.not_true, Bool.not_false, reduceCtorEq, upd_get, List.getElem?_toArray, List.getElem?_cons_zero, List.getElem?_cons_succ, Option.bind_some, rdK_some, List.map_toArray, List.map_cons, List.map_nil, rd_upd, rdO_fblk, wrOk_fblk, wrO_fblk, lget_zero, lget_succ, upd_upd, agg_cells, cells_of_list, List.length_cons, List.length_nil, Nat.add_zero, pv_cells, pl_len, pl_0, pl_1, pl_2, pl_3, pl_4, pl_5, pv_fold, pv_eta, ov_eta, opv_eta, ov_cells, ol_len, ov_fold, opv_cells, opl_len, opv_fold, st_pv, st_ov, st_opv, ol_0, ol_1, ol_2, ol_3, ol_4, ol_5, ol_6, ol_7, ol_8, ol_9, opl_0, opl_1, opl_2, opl_3, opl_4, opl_5, opl_6, opl_7, wrsOk_fblk, wrsO_fblk, fblk_all, Nat.reduceLeDiff, Nat.zero_add, rdsK2, rdsK4, rdsK6, rdsK8, rdsK10, wrsK_nil, wrsK_cons, oneCell_u8, oneCell_u16, oneCell_u32, oneCell_u64, oneCell_i16, oneCell_int, oneCell_bool, oneCell_ptr, oneCell_pointer, oneCell_sl, oneCell_slice, oneCell_string, box_eq, List.all_cons, List.all_nil, Bool.and_self, Ex1_eq, Ex1_and, endQ, resH, res_tmp, res_cell, resC_ptr, tupleOf, Fabg.results127, fa_52_4, ld_5, k_u64_4, tn_u64_4, k_u8_15, tn_u8_15, fa_77_0, ld_26, len_26, lenS_26, cv_3_50, k_u16_1, fa_52_3, fa_52_5, ld_50, bd_60_, bd_60_0_1_2_3, bd_60_0_1_2_3_4_5, bd_60_0_1_3, bd_60_0_1_4_5, bd_60_0_2_3, bd_60_0_3, bd_60_0_4_5, k_u8_2, tn_u8_2, al_60, stN_60, cv_5_50, ldN_60, call_23, k_u16_0, ldN_52, cv_50_3, call_124, cv_50_194, call_128, ix_26_int, ix_26_u8, ix_26_u16, ix_26_i16, st_30, call_125, call_123, fa_77_2, ld_74, len_74, lenS_74, cv_3_5, fa_77_5, ld_39, fa_52_1, ix_39_int, ix_39_u8, ix_39_u16, ix_39_i16, k_u8_1, tn_u8_1, fa_52_2, call_63, fa_60_1, call_126, cv_50_5, t0, t3, t5, t6, t8, t9, t13, t14, t15, s5, p1, q, pv_cells, pl_len]
    | refine W_drawL (id := 1) (by kernel_rfl) [0, 0, 0, 0, 0, 0, 0, 0] (by kernel_rfl) ?_
    | refine W_drawL (id := 11) (by kernel_rfl) [0, 0, 0, 0, 0, 0, 0, 0, 0, 0, 0, 0, 0, 0, 0, 0, 2] (by kernel_rfl) ?_
    | refine W_drawL (id := 13) (by kernel_rfl) [0, 0, 0, 0, 0, 0, 0, 0, 0, 0, 0, 2] (by kernel_rfl) ?_
    | refine W_drawL (id := 14) (by kernel_rfl) [0, 0, 0, 0, 0, 0, 0, 0, 0, 0, 0, 0, 0, 0, 0, 0, 0] (by kernel_rfl) ?_
    | refine Alloc.mono ?_
    | (refine CondW_intro (fun hc => ?_) (fun hc => ?_) <;> (try simp only [Bool.not_eq_true', Bool.not_eq_false'] at hc) <;> (try simp only [hc]))
    | (refine GrdV_intro (fun hc => ?_) (fun hc => ?_) <;> (try simp only [Bool.not_eq_true', Bool.not_eq_false'] at hc) <;> (try simp only [hc]))
    | (refine GrdL_intro (fun hc => ?_) (fun hc => ?_) <;> (try simp only [Bool.not_eq_true', Bool.not_eq_false'] at hc) <;> (try simp only [hc]))))
      refine ⟨fun b9 hb9 => ?_⟩
      have ee : (⟨1, (mlQ S op).at_ + UInt16.ofNat j * ((mlD op).toUInt16 + (mlC op).toUInt16), mlD op, mlC op, 0, 0⟩ : Ptr) = mlE S op j := rfl
      have hXk := BdH.rebase hXj hb9 (fblk 6 (lget (pl (mlE S op j))) 60)
      have hH2 : Le H2 (upd H2 b9 (some (fblk 6 (lget (pl (mlE S op j))) 60))) := (Le.refl H2).fresh (le_none hXj.le0 hb9) _
      have i9 : upd H2 b9 (some (fblk 6 (lget (pl (mlE S op j))) 60)) b9 = some (fblk 6 (lget (pl (mlE S op j))) 60) := upd_same _ _ _
      (repeat' (first
    | simp -implicitDefEqProofs only [WV_seq, WV_cond, WV_block, WV_skip, WV_ret, WV_exit, WV_region, WV_draw, WV_loop, thenQ_normal, thenQ_ret, thenQ_exit, blockQ_normal, blockQ_ret, blockQ_exit, V_nil, V_cons, KV_eq, VL_nil, VL_cons, KL_eq, vcl_zero, vcl_one, vcl_two, isV_same, isV_eq, monoK_eq, dOk, put, gd_none, gd_some, gdst_eq, gdv_some, gdB_true, gdB_false, gdB_undef, ev_const, ev_tmp, lit_i64, lit_i32, lit_bool, lit_pointer, lit_slice, lit_string, CondW_true, CondW_false, GrdV_true, GrdV_false, GrdL_true, GrdL_false, vc_move, vc_assign, vc_load, vc_store, vc_field, vc_indexAddr, vc_index, vc_box, vc_alloc, vc_build, vc_buildSlice, vc_makeSlice, vc_slice, vc_extract, vc_unOp, vc_convert, vc_bin, vc_pick, vc_call, vc_append, vc_len, vc_min, vc_max, vc_copy, vc_clear, pickK_true, pickK_false, stK_eq, not_bool, min_i64, max_i64, min_u16, max_u16, extract_tuple, vc_nil, nilK_ptr, int_add, int_sub, int_mul, int_eql, int_neq, int_lss, int_leq, int_gtr, int_geq, u8_add, u8_sub, u8_mul, u8_eql, u8_neq, u8_lss, u8_leq, u8_gtr, u8_geq, u16_add, u16_sub, u16_mul, u16_eql, u16_neq, u16_lss, u16_leq, u16_gtr, u16_geq, u32_add, u32_sub, u32_mul, u32_eql, u32_neq, u32_lss, u32_leq, u32_gtr, u32_geq, u64_add, u64_sub, u64_mul, u64_eql, u64_neq, u64_lss, u64_leq, u64_gtr, u64_geq, u8_and, u8_or, u8_xor, u8_andNot, u64_and, u64_or, u64_xor, u64_andNot, u8_shl_u8, u8_shl_u16, u8_shl_u64, u32_shl_u8, u32_shl_u16, u32_shl_u64, u64_shl_u8, u64_shl_u16, u64_shl_u64, u8_shr_u8, u8_shr_u16, u8_shr_u64, u64_shr_u8, u64_shr_u16, u64_shr_u64, u16_quo8, u16_rem8, u16_quo64, u16_rem64, u64_quo8, u64_rem8, u64_quo64, u64_rem64, u32_quo8, u32_rem8, u32_quo64, u32_rem64, int_quo2, int_rem2, int_quo8, int_rem8, int_quo64, int_rem64, u64_shrN, u64_shlN, fold64, fold32, i64_shl_u8, i16_eql, i16_neq, i16_lss, i16_geq, Nat.reduceEqDiff, Nat.reduceLT, Nat.reduceAdd, Nat.reduceMul, Nat.reduceSub, ↓reduceIte, if_true, if_false, eq_self, true_and, and_true, Bool.false_eq_true, Bool.not_true, Bool.not_false, reduceCtorEq, upd_get, List.getElem?_toArray, List.getElem?_cons_zero, List.getElem?_cons_succ, Option.bind_some, rdK_some, List.map_toArray, List.map_cons, List.map_nil, rd_upd, rdO_fblk, wrOk_fblk, wrO_fblk, lget_zero, lget_succ, upd_upd, agg_cells, cells_of_list, List.length_cons, List.length_nil, Nat.add_zero, pv_cells, pl_len, pl_0, pl_1, pl_2, pl_3, pl_4, pl_5, pv_fold, pv_eta, ov_eta, opv_eta, ov_cells, ol_len, ov_fold, opv_cells, opl_len, opv_fold, st_pv, st_ov, st_opv, ol_0, ol_1, ol_2, ol_3, ol_4, ol_5, ol_6, ol_7, ol_8, ol_9, opl_0, opl_1, opl_2, opl_3, opl_4, opl_5, opl_6, opl_7, wrsOk_fblk, wrsO_fblk, fblk_all, Nat.reduceLeDiff, Nat.zero_add, rdsK2, rdsK4, rdsK6, rdsK8, rdsK10, wrsK_nil, wrsK_cons, oneCell_u8, oneCell_u16, oneCell_u32, oneCell_u64, oneCell_i16, oneCell_int, oneCell_bool, oneCell_ptr, oneCell_pointer, oneCell_sl, oneCell_slice, oneCell_string, box_eq, List.all_cons, List.all_nil, Bool.and_self, Ex1_eq, Ex1_and, endQ, resH, res_tmp, res_cell, resC_ptr, tupleOf, Fabg.results127, fa_52_4, ld_5, k_u64_4, tn_u64_4, k_u8_15, tn_u8_15, fa_77_0, ld_26, len_26, lenS_26, cv_3_50, k_u16_1, fa_52_3, fa_52_5, ld_50, bd_60_, bd_60_0_1_2_3, bd_60_0_1_2_3_4_5, bd_60_0_1_3, bd_60_0_1_4_5, bd_60_0_2_3, bd_60_0_3, bd_60_0_4_5, k_u8_2, tn_u8_2, al_60, stN_60, cv_5_50, ldN_60, call_23, k_u16_0, ldN_52, cv_50_3, call_124, cv_50_194, call_128, ix_26_int, ix_26_u8, ix_26_u16, ix_26_i16, st_30, call_125, call_123, fa_77_2, ld_74, len_74, lenS_74, cv_3_5, fa_77_5, ld_39, fa_52_1, ix_39_int, ix_39_u8, ix_39_u16, ix_39_i16, k_u8_1, tn_u8_1, fa_52_2, call_63, fa_60_1, call_126, cv_50_5, t0, t3, t5, t6, t8, t9, t13, t14, t15, upd_same, pv_cells, pl_len, st_pv, ee]
    | refine W_drawL (id := 1) (by kernel_rfl) [0, 0, 0, 0, 0, 0, 0, 0] (by kernel_rfl) ?_
    | refine W_drawL (id := 11) (by kernel_rfl) [0, 0, 0, 0, 0, 0, 0, 0, 0, 0, 0, 0, 0, 0, 0, 0, 2] (by kernel_rfl) ?_
    | refine W_drawL (id := 13) (by kernel_rfl) [0, 0, 0, 0, 0, 0, 0, 0, 0, 0, 0, 2] (by kernel_rfl) ?_
    | refine W_drawL (id := 14) (by kernel_rfl) [0, 0, 0, 0, 0, 0, 0, 0, 0, 0, 0, 0, 0, 0, 0, 0, 0] (by kernel_rfl) ?_
    | refine Alloc.mono ?_
    | (refine CondW_intro (fun hc => ?_) (fun hc => ?_) <;> (try simp only [Bool.not_eq_true', Bool.not_eq_false'] at hc) <;> (try simp only [hc]))
    | (refine GrdV_intro (fun hc => ?_) (fun hc => ?_) <;> (try simp only [Bool.not_eq_true', Bool.not_eq_false'] at hc) <;> (try simp only [hc]))
    | (refine GrdL_intro (fun hc => ?_) (fun hc => ?_) <;> (try simp only [Bool.not_eq_true', Bool.not_eq_false'] at hc) <;> (try simp only [hc]))))
      generalize upd H2 b9 (some (fblk 6 (lget (pl (mlE S op j))) 60)) = H3 at *
      generalize upd G' b9 (some (fblk 6 (lget (pl (mlE S op j))) 60)) = G7 at *
      refine (mark_ok hXk _ _ _).mono ?_
      rintro _ G8 ⟨rfl, hX8⟩
      obtain ⟨v0, v1, v2, v3, v4, v5⟩ := ptAt_of (hX8.le0 _ _ i9)
      (repeat' (first
    | simp -implicitDefEqProofs only [WV_seq, WV_cond, WV_block, WV_skip, WV_ret, WV_exit, WV_region, WV_draw, WV_loop, thenQ_normal, thenQ_ret, thenQ_exit, blockQ_normal, blockQ_ret, blockQ_exit, V_nil, V_cons, KV_eq, VL_nil, VL_cons, KL_eq, vcl_zero, vcl_one, vcl_two, isV_same, isV_eq, monoK_eq, dOk, put, gd_none, gd_some, gdst_eq, gdv_some, gdB_true, gdB_false, gdB_undef, ev_const, ev_tmp, lit_i64, lit_i32, lit_bool, lit_pointer, lit_slice, lit_string, CondW_true, CondW_false, GrdV_true, GrdV_false, GrdL_true, GrdL_false, vc_move, vc_assign, vc_load, vc_store, vc_field, vc_indexAddr, vc_index, vc_box, vc_alloc, vc_build, vc_buildSlice, vc_makeSlice, vc_slice, vc_extract, vc_unOp, vc_convert, vc_bin, vc_pick, vc_call, vc_append, vc_len, vc_min, vc_max, vc_copy, vc_clear, pickK_true, pickK_false, stK_eq, not_bool, min_i64, max_i64, min_u16, max_u16, extract_tuple, vc_nil, nilK_ptr, int_add, int_sub, int_mul, int_eql, int_neq, int_lss, int_leq, int_gtr, int_geq, u8_add, u8_sub, u8_mul, u8_eql, u8_neq, u8_lss, u8_leq, u8_gtr, u8_geq, u16_add, u16_sub, u16_mul, u16_eql, u16_neq, u16_lss, u16_leq, u16_gtr, u16_geq, u32_add, u32_sub, u32_mul, u32_eql, u32_neq, u32_lss, u32_leq, u32_gtr, u32_geq, u64_add, u64_sub, u64_mul, u64_eql, u64_neq, u64_lss, u64_leq, u64_gtr, u64_geq, u8_and, u8_or, u8_xor, u8_andNot, u64_and, u64_or, u64_xor, u64_andNot, u8_shl_u8, u8_shl_u16, u8_shl_u64, u32_shl_u8, u32_shl_u16, u32_shl_u64, u64_shl_u8, u64_shl_u16, u64_shl_u64, u8_shr_u8, u8_shr_u16, u8_shr_u64, u64_shr_u8, u64_shr_u16, u64_shr_u64, u16_quo8, u16_rem8, u16_quo64, u16_rem64, u64_quo8, u64_rem8, u64_quo64, u64_rem64, u32_quo8, u32_rem8, u32_quo64, u32_rem64, int_quo2, int_rem2, int_quo8, int_rem8, int_quo64, int_rem64, u64_shrN, u64_shlN, fold64, fold32, i64_shl_u8, i16_eql, i16_neq, i16_lss, i16_geq, Nat.reduceEqDiff, Nat.reduceLT, Nat.reduceAdd, Nat.reduceMul, Nat.reduceSub, ↓reduceIte, if_true, if_false, eq_self, true_and, and_true, Bool.false_eq_true, Bool.not_true, Bool.not_false, reduceCtorEq, upd_get, List.getElem?_toArray, List.getElem?_cons_zero, List.getElem?_cons_succ, Option.bind_some, rdK_some, List.map_toArray, List.map_cons, List.map_nil, rd_upd, rdO_fblk, wrOk_fblk, wrO_fblk, lget_zero, lget_succ, upd_upd, agg_cells, cells_of_list, List.length_cons, List.length_nil, Nat.add_zero, pv_cells, pl_len, pl_0, pl_1, pl_2, pl_3, pl_4, pl_5, pv_fold, pv_eta, ov_eta, opv_eta, ov_cells, ol_len, ov_fold, opv_cells, opl_len, opv_fold, st_pv, st_ov, st_opv, ol_0, ol_1, ol_2, ol_3, ol_4, ol_5, ol_6, ol_7, ol_8, ol_9, opl_0, opl_1, opl_2, opl_3, opl_4, opl_5, opl_6, opl_7, wrsOk_fblk, wrsO_fblk, fblk_all, Nat.reduceLeDiff, Nat.zero_add, rdsK2, rdsK4, rdsK6, rdsK8, rdsK10, wrsK_nil, wrsK_cons, oneCell_u8, oneCell_u16, oneCell_u32, oneCell_u64, oneCell_i16, oneCell_int, oneCell_bool, oneCell_ptr, oneCell_pointer, oneCell_sl, oneCell_slice, oneCell_string, box_eq, List.all_cons, List.all_nil, Bool.and_self, Ex1_eq, Ex1_and, endQ, resH, res_tmp, res_cell, resC_ptr, tupleOf, Fabg.results127, fa_52_4, ld_5, k_u64_4, tn_u64_4, k_u8_15, tn_u8_15, fa_77_0, ld_26, len_26, lenS_26, cv_3_50, k_u16_1, fa_52_3, fa_52_5, ld_50, bd_60_, bd_60_0_1_2_3, bd_60_0_1_2_3_4_5, bd_60_0_1_3, bd_60_0_1_4_5, bd_60_0_2_3, bd_60_0_3, bd_60_0_4_5, k_u8_2, tn_u8_2, al_60, stN_60, cv_5_50, ldN_60, call_23, k_u16_0, ldN_52, cv_50_3, call_124, cv_50_194, call_128, ix_26_int, ix_26_u8, ix_26_u16, ix_26_i16, st_30, call_125, call_123, fa_77_2, ld_74, len_74, lenS_74, cv_3_5, fa_77_5, ld_39, fa_52_1, ix_39_int, ix_39_u8, ix_39_u16, ix_39_i16, k_u8_1, tn_u8_1, fa_52_2, call_63, fa_60_1, call_126, cv_50_5, t0, t3, t5, t6, t8, t9, t13, t14, t15, v0, v1, v2, v3, v4, v5]
    | refine W_drawL (id := 1) (by kernel_rfl) [0, 0, 0, 0, 0, 0, 0, 0] (by kernel_rfl) ?_
    | refine W_drawL (id := 11) (by kernel_rfl) [0, 0, 0, 0, 0, 0, 0, 0, 0, 0, 0, 0, 0, 0, 0, 0, 2] (by kernel_rfl) ?_
    | refine W_drawL (id := 13) (by kernel_rfl) [0, 0, 0, 0, 0, 0, 0, 0, 0, 0, 0, 2] (by kernel_rfl) ?_
    | refine W_drawL (id := 14) (by kernel_rfl) [0, 0, 0, 0, 0, 0, 0, 0, 0, 0, 0, 0, 0, 0, 0, 0, 0] (by kernel_rfl) ?_
    | refine Alloc.mono ?_
    | (refine CondW_intro (fun hc => ?_) (fun hc => ?_) <;> (try simp only [Bool.not_eq_true', Bool.not_eq_false'] at hc) <;> (try simp only [hc]))
    | (refine GrdV_intro (fun hc => ?_) (fun hc => ?_) <;> (try simp only [Bool.not_eq_true', Bool.not_eq_false'] at hc) <;> (try simp only [hc]))
    | (refine GrdL_intro (fun hc => ?_) (fun hc => ?_) <;> (try simp only [Bool.not_eq_true', Bool.not_eq_false'] at hc) <;> (try simp only [hc]))))
      refine (bdX_hang hX8 (mlE S op j) (UInt8.ofNat S.cnt) (UInt16.ofNat j).toUInt8 (dep op.h.toNat + 1) (mlO S op j) rfl (by show S.len + _ ≤ 900; omega) (by show S.cnt + 1 + j ≤ 900; omega)).mono ?_
      rintro _ G9 ⟨rfl, hX9⟩
      have hck : (mlK S op at_ j).cnt = S.cnt + 1 + j := rfl
      have hOk : ∀ k, (mlK S op at_ (j + 1)).O k = (mlK S op at_ j).O k := fun k => rfl
      have hOn : (mlK S op at_ (j + 1)).O (S.cnt + 1 + j) = mlO S op j := by
        show (if S.cnt + 1 + j < S.cnt then _ else if S.cnt + 1 + j = S.cnt then _ else mlO S op (S.cnt + 1 + j - S.cnt - 1)) = _
        rw [if_neg (by omega), if_neg (by omega), show S.cnt + 1 + j - S.cnt - 1 = j by omega]
      have hX10 : BdX H3 G9 bb (mlK S op at_ (j + 1)) (upd P' (S.cnt + 1 + j) (mlE S op j)) (upd up' (S.cnt + 1 + j) (UInt8.ofNat S.cnt)) (upd via' (S.cnt + 1 + j) (UInt16.ofNat j).toUInt8) (upd dep' (S.cnt + 1 + j) (dep op.h.toNat + 1)) := by
        refine hX9.congr' rfl rfl (fun _ _ => rfl) (fun k hk => ?_)
        show (upd (mlK S op at_ j).O (S.cnt + 1 + j) (mlO S op j) k).dead = ((mlK S op at_ (j + 1)).O k).dead
        by_cases e : k = S.cnt + 1 + j
        · subst e; rw [upd_same, hOn]
        · rw [upd_ne _ _ _ _ e]
          rfl
      obtain ⟨me1, me2⟩ := ml_ends g op hl at_ j
      have h8n : (UInt8.ofNat S.cnt).toNat = S.cnt := tn8 hc255
      have hsimj := Sim.new (S := mlK S op at_ j) (S' := mlK S op at_ (j + 1)) (h := UInt8.ofNat S.cnt) (i := (UInt16.ofNat j).toUInt8) (d := dep op.h.toNat + 1) (p := mlE S op j) hSj rfl (fun k _ => rfl) (by show 1 ≤ S.cnt + 1 + j; omega) (by show S.cnt + 1 + j ≤ 256; omega)
        (by rw [h8n]; show S.cnt < S.cnt + 1 + j; omega) (by rw [hck, hOn, h8n]; rfl) (by rw [hck, hOn]; rfl) (.inl (by rw [hck, hOn]; rfl)) (by rw [h8n]; exact (ends_le me1 20 (by omega)).1) (by rw [hck, hOn, h8n, me2, hd1]; show _ = 0 + _; omega)
      (repeat' (first
    | simp -implicitDefEqProofs only [WV_seq, WV_cond, WV_block, WV_skip, WV_ret, WV_exit, WV_region, WV_draw, WV_loop, thenQ_normal, thenQ_ret, thenQ_exit, blockQ_normal, blockQ_ret, blockQ_exit, V_nil, V_cons, KV_eq, VL_nil, VL_cons, KL_eq, vcl_zero, vcl_one, vcl_two, isV_same, isV_eq, monoK_eq, dOk, put, gd_none, gd_some, gdst_eq, gdv_some, gdB_true, gdB_false, gdB_undef, ev_const, ev_tmp, lit_i64, lit_i32, lit_bool, lit_pointer, lit_slice, lit_string, CondW_true, CondW_false, GrdV_true, GrdV_false, GrdL_true, GrdL_false, vc_move, vc_assign, vc_load, vc_store, vc_field, vc_indexAddr, vc_index, vc_box, vc_alloc, vc_build, vc_buildSlice, vc_makeSlice, vc_slice, vc_extract, vc_unOp, vc_convert, vc_bin, vc_pick, vc_call, vc_append, vc_len, vc_min, vc_max, vc_copy, vc_clear, pickK_true, pickK_false, stK_eq, not_bool, min_i64, max_i64, min_u16, max_u16, extract_tuple, vc_nil, nilK_ptr, int_add, int_sub, int_mul, int_eql, int_neq, int_lss, int_leq, int_gtr, int_geq, u8_add, u8_sub, u8_mul, u8_eql, u8_neq, u8_lss, u8_leq, u8_gtr, u8_geq, u16_add, u16_sub, u16_mul, u16_eql, u16_neq, u16_lss, u16_leq, u16_gtr, u16_geq, u32_add, u32_sub, u32_mul, u32_eql, u32_neq, u32_lss, u32_leq, u32_gtr, u32_geq, u64_add, u64_sub, u64_mul, u64_eql, u64_neq, u64_lss, u64_leq, u64_gtr, u64_geq, u8_and, u8_or, u8_xor, u8_andNot, u64_and, u64_or, u64_xor, u64_andNot, u8_shl_u8, u8_shl_u16, u8_shl_u64, u32_shl_u8, u32_shl_u16, u32_shl_u64, u64_shl_u8, u64_shl_u16, u64_shl_u64, u8_shr_u8, u8_shr_u16, u8_shr_u64, u64_shr_u8, u64_shr_u16, u64_shr_u64, u16_quo8, u16_rem8, u16_quo64, u16_rem64, u64_quo8, u64_rem8, u64_quo64, u64_rem64, u32_quo8, u32_rem8, u32_quo64, u32_rem64, int_quo2, int_rem2, int_quo8, int_rem8, int_quo64, int_rem64, u64_shrN, u64_shlN, fold64, fold32, i64_shl_u8, i16_eql, i16_neq, i16_lss, i16_geq, Nat.reduceEqDiff, Nat.reduceLT, Nat.reduceAdd, Nat.reduceMul, Nat.reduceSub, ↓reduceIte, if_true, if_false, eq_self, true_and, and_true, Bool.false_eq_true, Bool.not_true, Bool.not_false, reduceCtorEq, upd_get, List.getElem?_toArray, List.getElem?_cons_zero, List.getElem?_cons_succ, Option.bind_some, rdK_some, List.map_toArray, List.map_cons, List.map_nil, rd_upd, rdO_fblk, wrOk_fblk, wrO_fblk, lget_zero, lget_succ, upd_upd, agg_cells, cells_of_list, List.length_cons, List.length_nil, Nat.add_zero, pv_cells, pl_len, pl_0, pl_1, pl_2, pl_3, pl_4, pl_5, pv_fold, pv_eta, ov_eta, opv_eta, ov_cells, ol_len, ov_fold, opv_cells, opl_len, opv_fold, st_pv, st_ov, st_opv, ol_0, ol_1, ol_2, ol_3, ol_4, ol_5, ol_6, ol_7, ol_8, ol_9, opl_0, opl_1, opl_2, opl_3, opl_4, opl_5, opl_6, opl_7, wrsOk_fblk, wrsO_fblk, fblk_all, Nat.reduceLeDiff, Nat.zero_add, rdsK2, rdsK4, rdsK6, rdsK8, rdsK10, wrsK_nil, wrsK_cons, oneCell_u8, oneCell_u16, oneCell_u32, oneCell_u64, oneCell_i16, oneCell_int, oneCell_bool, oneCell_ptr, oneCell_pointer, oneCell_sl, oneCell_slice, oneCell_string, box_eq, List.all_cons, List.all_nil, Bool.and_self, Ex1_eq, Ex1_and, endQ, resH, res_tmp, res_cell, resC_ptr, tupleOf, Fabg.results127, fa_52_4, ld_5, k_u64_4, tn_u64_4, k_u8_15, tn_u8_15, fa_77_0, ld_26, len_26, lenS_26, cv_3_50, k_u16_1, fa_52_3, fa_52_5, ld_50, bd_60_, bd_60_0_1_2_3, bd_60_0_1_2_3_4_5, bd_60_0_1_3, bd_60_0_1_4_5, bd_60_0_2_3, bd_60_0_3, bd_60_0_4_5, k_u8_2, tn_u8_2, al_60, stN_60, cv_5_50, ldN_60, call_23, k_u16_0, ldN_52, cv_50_3, call_124, cv_50_194, call_128, ix_26_int, ix_26_u8, ix_26_u16, ix_26_i16, st_30, call_125, call_123, fa_77_2, ld_74, len_74, lenS_74, cv_3_5, fa_77_5, ld_39, fa_52_1, ix_39_int, ix_39_u8, ix_39_u16, ix_39_i16, k_u8_1, tn_u8_1, fa_52_2, call_63, fa_60_1, call_126, cv_50_5, t0, t3, t5, t6, t8, t9, t13, t14, t15, q1]
    | refine W_drawL (id := 1) (by kernel_rfl) [0, 0, 0, 0, 0, 0, 0, 0] (by kernel_rfl) ?_
    | refine W_drawL (id := 11) (by kernel_rfl) [0, 0, 0, 0, 0, 0, 0, 0, 0, 0, 0, 0, 0, 0, 0, 0, 2] (by kernel_rfl) ?_
    | refine W_drawL (id := 13) (by kernel_rfl) [0, 0, 0, 0, 0, 0, 0, 0, 0, 0, 0, 2] (by kernel_rfl) ?_
    | refine W_drawL (id := 14) (by kernel_rfl) [0, 0, 0, 0, 0, 0, 0, 0, 0, 0, 0, 0, 0, 0, 0, 0, 0] (by kernel_rfl) ?_
    | refine Alloc.mono ?_
    | (refine CondW_intro (fun hc => ?_) (fun hc => ?_) <;> (try simp only [Bool.not_eq_true', Bool.not_eq_false'] at hc) <;> (try simp only [hc]))
    | (refine GrdV_intro (fun hc => ?_) (fun hc => ?_) <;> (try simp only [Bool.not_eq_true', Bool.not_eq_false'] at hc) <;> (try simp only [hc]))
    | (refine GrdL_intro (fun hc => ?_) (fun hc => ?_) <;> (try simp only [Bool.not_eq_true', Bool.not_eq_false'] at hc) <;> (try simp only [hc]))))
      exact ⟨m - 1, by omega, j + 1, _, _, _, _, by omega, hX10.weaken hH2, hsimj.1, rfl⟩
    · exact ⟨0, _, _, _, _, by omega, hX7, hsim0.1, w0, w3, w5, w6, w8, w9, w13, w14, w15⟩
    · intro T G' hfin
      (repeat' (first
    | simp -implicitDefEqProofs only [WV_seq, WV_cond, WV_block, WV_skip, WV_ret, WV_exit, WV_region, WV_draw, WV_loop, thenQ_normal, thenQ_ret, thenQ_exit, blockQ_normal, blockQ_ret, blockQ_exit, V_nil, V_cons, KV_eq, VL_nil, VL_cons, KL_eq, vcl_zero, vcl_one, vcl_two, isV_same, isV_eq, monoK_eq, dOk, put, gd_none, gd_some, gdst_eq, gdv_some, gdB_true, gdB_false, gdB_undef, ev_const, ev_tmp, lit_i64, lit_i32, lit_bool, lit_pointer, lit_slice, lit_string, CondW_true, CondW_false, GrdV_true, GrdV_false, GrdL_true, GrdL_false, vc_move, vc_assign, vc_load, vc_store, vc_field, vc_indexAddr, vc_index, vc_box, vc_alloc, vc_build, vc_buildSlice, vc_makeSlice, vc_slice, vc_extract, vc_unOp, vc_convert, vc_bin, vc_pick, vc_call, vc_append, vc_len, vc_min, vc_max, vc_copy, vc_clear, pickK_true, pickK_false, stK_eq, not_bool, min_i64, max_i64, min_u16, max_u16, extract_tuple, vc_nil, nilK_ptr, int_add, int_sub, int_mul, int_eql, int_neq, int_lss, int_leq, int_gtr, int_geq, u8_add, u8_sub, u8_mul, u8_eql, u8_neq, u8_lss, u8_leq, u8_gtr, u8_geq, u16_add, u16_sub, u16_mul, u16_eql, u16_neq, u16_lss, u16_leq, u16_gtr, u16_geq, u32_add, u32_sub, u32_mul, u32_eql, u32_neq, u32_lss, u32_leq, u32_gtr, u32_geq, u64_add, u64_sub, u64_mul, u64_eql, u64_neq, u64_lss, u64_leq, u64_gtr, u64_geq, u8_and, u8_or, u8_xor, u8_andNot, u64_and, u64_or, u64_xor, u64_andNot, u8_shl_u8, u8_shl_u16, u8_shl_u64, u32_shl_u8, u32_shl_u16, u32_shl_u64, u64_shl_u8, u64_shl_u16, u64_shl_u64, u8_shr_u8, u8_shr_u16, u8_shr_u64, u64_shr_u8, u64_shr_u16, u64_shr_u64, u16_quo8, u16_rem8, u16_quo64, u16_rem64, u64_quo8, u64_rem8, u64_quo64, u64_rem64, u32_quo8, u32_rem8, u32_quo64, u32_rem64, int_quo2, int_rem2, int_quo8, int_rem8, int_quo64, int_rem64, u64_shrN, u64_shlN, fold64, fold32, i64_shl_u8, i16_eql, i16_neq, i16_lss, i16_geq, Nat.reduceEqDiff, Nat.reduceLT, Nat.reduceAdd, Nat.reduceMul, Nat.reduceSub, ↓reduceIte, if_true, if_false, eq_self, true_and, and_true, Bool.false_eq_true, Bool.not_true, Bool.not_false, reduceCtorEq, upd_get, List.getElem?_toArray, List.getElem?_cons_zero, List.getElem?_cons_succ, Option.bind_some, rdK_some, List.map_toArray, List.map_cons, List.map_nil, rd_upd, rdO_fblk, wrOk_fblk, wrO_fblk, lget_zero, lget_succ, upd_upd, agg_cells, cells_of_list, List.length_cons, List.length_nil, Nat.add_zero, pv_cells, pl_len, pl_0, pl_1, pl_2, pl_3, pl_4, pl_5, pv_fold, pv_eta, ov_eta, opv_eta, ov_cells, ol_len, ov_fold, opv_cells, opl_len, opv_fold, st_pv, st_ov, st_opv, ol_0, ol_1, ol_2, ol_3, ol_4, ol_5, ol_6, ol_7, ol_8, ol_9, opl_0, opl_1, opl_2, opl_3, opl_4, opl_5, opl_6, opl_7, wrsOk_fblk, wrsO_fblk, fblk_all, Nat.reduceLeDiff, Nat.zero_add, rdsK2, rdsK4, rdsK6, rdsK8, rdsK10, wrsK_nil, wrsK_cons, oneCell_u8, oneCell_u16, oneCell_u32, oneCell_u64, oneCell_i16, oneCell_int, oneCell_bool, oneCell_ptr, oneCell_pointer, oneCell_sl, oneCell_slice, oneCell_string, box_eq, List.all_cons, List.all_nil, Bool.and_self, Ex1_eq, Ex1_and, endQ, resH, res_tmp, res_cell, resC_ptr, tupleOf, Fabg.results127, fa_52_4, ld_5, k_u64_4, tn_u64_4, k_u8_15, tn_u8_15, fa_77_0, ld_26, len_26, lenS_26, cv_3_50, k_u16_1, fa_52_3, fa_52_5, ld_50, bd_60_, bd_60_0_1_2_3, bd_60_0_1_2_3_4_5, bd_60_0_1_3, bd_60_0_1_4_5, bd_60_0_2_3, bd_60_0_3, bd_60_0_4_5, k_u8_2, tn_u8_2, al_60, stN_60, cv_5_50, ldN_60, call_23, k_u16_0, ldN_52, cv_50_3, call_124, cv_50_194, call_128, ix_26_int, ix_26_u8, ix_26_u16, ix_26_i16, st_30, call_125, call_123, fa_77_2, ld_74, len_74, lenS_74, cv_3_5, fa_77_5, ld_39, fa_52_1, ix_39_int, ix_39_u8, ix_39_u16, ix_39_i16, k_u8_1, tn_u8_1, fa_52_2, call_63, fa_60_1, call_126, cv_50_5]
    | refine W_drawL (id := 1) (by kernel_rfl) [0, 0, 0, 0, 0, 0, 0, 0] (by kernel_rfl) ?_
    | refine W_drawL (id := 11) (by kernel_rfl) [0, 0, 0, 0, 0, 0, 0, 0, 0, 0, 0, 0, 0, 0, 0, 0, 2] (by kernel_rfl) ?_
    | refine W_drawL (id := 13) (by kernel_rfl) [0, 0, 0, 0, 0, 0, 0, 0, 0, 0, 0, 2] (by kernel_rfl) ?_
    | refine W_drawL (id := 14) (by kernel_rfl) [0, 0, 0, 0, 0, 0, 0, 0, 0, 0, 0, 0, 0, 0, 0, 0, 0] (by kernel_rfl) ?_
    | refine Alloc.mono ?_
    | (refine CondW_intro (fun hc => ?_) (fun hc => ?_) <;> (try simp only [Bool.not_eq_true', Bool.not_eq_false'] at hc) <;> (try simp only [hc]))
    | (refine GrdV_intro (fun hc => ?_) (fun hc => ?_) <;> (try simp only [Bool.not_eq_true', Bool.not_eq_false'] at hc) <;> (try simp only [hc]))
    | (refine GrdL_intro (fun hc => ?_) (fun hc => ?_) <;> (try simp only [Bool.not_eq_true', Bool.not_eq_false'] at hc) <;> (try simp only [hc]))))
      rw [em]
      first | exact ⟨_, Le.refl _, rfl, hfin⟩ | exact ⟨_, Le.refl _, hfin⟩
end Eng
end Go.Proofs.Ygcfab
