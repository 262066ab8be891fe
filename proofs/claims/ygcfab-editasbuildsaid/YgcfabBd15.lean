/-
  Package build: New. Editor and builder side by side.
-/
import Derived.Test.YgcfabBd14
set_option linter.unusedSimpArgs false
set_option linter.unusedVariables false
set_option maxRecDepth 100000
namespace Go.Proofs.Ygcfab
namespace Eng
def v0N (b : Nat) : Nat → Value := fun i => if i = 0 then sl b 0 1 1 else .slice none 0 0
def w0N : Nat → UInt64 := fun i => if i = 0 then 1 else 0
theorem bc_new (b : Nat) : fblk 10 (upd (lget [sl b 0 1 1, u64 0, u64 0, u64 0, u64 0, .slice none 0 0, .slice none 0 0, .slice none 0 0, .slice none 0 0, .slice none 0 0]) 1 (u64 1)) 77 = fblk 10 (bc (v0N b) w0N) 77 := by
  apply fblk_congr
  intro j hj
  have hj' : j = 0 ∨ j = 1 ∨ j = 2 ∨ j = 3 ∨ j = 4 ∨ j = 5 ∨ j = 6 ∨ j = 7 ∨ j = 8 ∨ j = 9 := by omega
  rcases hj' with rfl | rfl | rfl | rfl | rfl | rfl | rfl | rfl | rfl | rfl <;> rfl
theorem sim0 : Sim E0 (fun _ => ⟨1, 0, 0, 1, 0, 0⟩) (fun _ => 0) (fun _ => 0) (fun _ => 0) := by
  have h0 : ∀ k, Lv E0 k → k = 0 := fun k hk => by have : k < 1 := hk.1; omega
  refine ⟨fun k hk => .inl rfl, fun k h1 h2 => ?_, fun k hk => ?_, fun k hk => ?_⟩
  · have : k < 1 := h2
    omega
  · rw [h0 k hk]; rfl
  · rw [h0 k hk]; exact .inl (Int.le_refl 0)
theorem bnew_ok (G : Heap) : Fn Fabg.prog 29 #[] G (fun r H' => ∃ bb, r = ptr bb 0 ∧ BdS G H' bb E0) := by
  refine Fn_of Fabg.func29 rfl Fabg.ntmps29 (by simp) (WV_sound _ _ _ _ ?_)
  have mk : ∀ k, runH Fabg.prog (Instr.makeSlice 26 (.int .i64 1) (.int .i64 1)) G k = AllocS G (fblk 1 (fun _ => u64 0) 30) 1 1 k := fun k => mk_26 1 1 (by omega) (by omega)
  (repeat' (first
    | simp -implicitDefEqProofs only [WV_seq, WV_cond, WV_block, WV_skip, WV_ret, WV_exit, WV_region, WV_draw, WV_loop, thenQ_normal, thenQ_ret, thenQ_exit, blockQ_normal, blockQ_ret, blockQ_exit, V_nil, V_cons, KV_eq, VL_nil, VL_cons, KL_eq, vcl_zero, vcl_one, vcl_two, isV_same, isV_eq, monoK_eq, dOk, put, gd_none, gd_some, gdst_eq, gdv_some, gdB_true, gdB_false, gdB_undef, ev_const, ev_tmp, lit_i64, lit_i32, lit_bool, lit_pointer, lit_slice, lit_string, CondW_true, CondW_false, GrdV_true, GrdV_false, GrdL_true, GrdL_false, vc_move, vc_assign, vc_load, vc_store, vc_field, vc_indexAddr, vc_index, vc_box, vc_alloc, vc_build, vc_buildSlice, vc_makeSlice, vc_slice, vc_extract, vc_unOp, vc_convert, vc_bin, vc_pick, vc_call, vc_append, vc_len, vc_min, vc_max, vc_copy, vc_clear, pickK_true, pickK_false, stK_eq, not_bool, min_i64, max_i64, min_u16, max_u16, extract_tuple, vc_nil, nilK_ptr, int_add, int_sub, int_mul, int_eql, int_neq, int_lss, int_leq, int_gtr, int_geq, u8_add, u8_sub, u8_mul, u8_eql, u8_neq, u8_lss, u8_leq, u8_gtr, u8_geq, u16_add, u16_sub, u16_mul, u16_eql, u16_neq, u16_lss, u16_leq, u16_gtr, u16_geq, u32_add, u32_sub, u32_mul, u32_eql, u32_neq, u32_lss, u32_leq, u32_gtr, u32_geq, u64_add, u64_sub, u64_mul, u64_eql, u64_neq, u64_lss, u64_leq, u64_gtr, u64_geq, u8_and, u8_or, u8_xor, u8_andNot, u64_and, u64_or, u64_xor, u64_andNot, u8_shl_u8, u8_shl_u16, u8_shl_u64, u32_shl_u8, u32_shl_u16, u32_shl_u64, u64_shl_u8, u64_shl_u16, u64_shl_u64, u8_shr_u8, u8_shr_u16, u8_shr_u64, u64_shr_u8, u64_shr_u16, u64_shr_u64, u16_quo8, u16_rem8, u16_quo64, u16_rem64, u64_quo8, u64_rem8, u64_quo64, u64_rem64, u32_quo8, u32_rem8, u32_quo64, u32_rem64, int_quo2, int_rem2, int_quo8, int_rem8, int_quo64, int_rem64, u64_shrN, u64_shlN, fold64, fold32, i64_shl_u8, i16_eql, i16_neq, i16_lss, i16_geq, Nat.reduceEqDiff, Nat.reduceLT, Nat.reduceAdd, Nat.reduceMul, Nat.reduceSub, ↓reduceIte, if_true, if_false, eq_self, true_and, and_true, Bool.false_eq_true, Bool.not_true, Bool.not_false, reduceCtorEq, upd_get, List.getElem?_toArray, List.getElem?_cons_zero, List.getElem?_cons_succ, Option.bind_some, rdK_some, List.map_toArray, List.map_cons, List.map_nil, rd_upd, rdO_fblk, wrOk_fblk, wrO_fblk, lget_zero, lget_succ, upd_upd, agg_cells, cells_of_list, List.length_cons, List.length_nil, Nat.add_zero, pv_cells, pl_len, pl_0, pl_1, pl_2, pl_3, pl_4, pl_5, pv_fold, pv_eta, ov_eta, opv_eta, ov_cells, ol_len, ov_fold, opv_cells, opl_len, opv_fold, st_pv, st_ov, st_opv, ol_0, ol_1, ol_2, ol_3, ol_4, ol_5, ol_6, ol_7, ol_8, ol_9, opl_0, opl_1, opl_2, opl_3, opl_4, opl_5, opl_6, opl_7, wrsOk_fblk, wrsO_fblk, fblk_all, Nat.reduceLeDiff, Nat.zero_add, rdsK2, rdsK4, rdsK6, rdsK8, rdsK10, wrsK_nil, wrsK_cons, oneCell_u8, oneCell_u16, oneCell_u32, oneCell_u64, oneCell_i16, oneCell_int, oneCell_bool, oneCell_ptr, oneCell_pointer, oneCell_sl, oneCell_slice, oneCell_string, box_eq, List.all_cons, List.all_nil, Bool.and_self, Ex1_eq, Ex1_and, endQ, resH, res_tmp, res_cell, resC_ptr, tupleOf, Fabg.results29, bd_77_0, bd_77s_0, fa_77_1, ix_31_int, ix_31_u8, ix_31_u16, ix_31_i16, st_30, k_u64_1, tn_u64_1, bd_60_, bd_60_0_1_2_3, bd_60_0_1_2_3_4_5, bd_60_0_1_3, bd_60_0_1_4_5, bd_60_0_2_3, bd_60_0_3, bd_60_0_4_5, k_u8_1, tn_u8_1, call_63, k_u8_0, tn_u8_0, mk]
    | refine Alloc.mono ?_
    | (refine CondW_intro (fun hc => ?_) (fun hc => ?_) <;> (try simp only [Bool.not_eq_true', Bool.not_eq_false'] at hc) <;> (try simp only [hc]))
    | (refine GrdV_intro (fun hc => ?_) (fun hc => ?_) <;> (try simp only [Bool.not_eq_true', Bool.not_eq_false'] at hc) <;> (try simp only [hc]))
    | (refine GrdL_intro (fun hc => ?_) (fun hc => ?_) <;> (try simp only [Bool.not_eq_true', Bool.not_eq_false'] at hc) <;> (try simp only [hc]))))
  refine ⟨fun b1 hb1 => ?_⟩
  (repeat' (first
    | simp -implicitDefEqProofs only [WV_seq, WV_cond, WV_block, WV_skip, WV_ret, WV_exit, WV_region, WV_draw, WV_loop, thenQ_normal, thenQ_ret, thenQ_exit, blockQ_normal, blockQ_ret, blockQ_exit, V_nil, V_cons, KV_eq, VL_nil, VL_cons, KL_eq, vcl_zero, vcl_one, vcl_two, isV_same, isV_eq, monoK_eq, dOk, put, gd_none, gd_some, gdst_eq, gdv_some, gdB_true, gdB_false, gdB_undef, ev_const, ev_tmp, lit_i64, lit_i32, lit_bool, lit_pointer, lit_slice, lit_string, CondW_true, CondW_false, GrdV_true, GrdV_false, GrdL_true, GrdL_false, vc_move, vc_assign, vc_load, vc_store, vc_field, vc_indexAddr, vc_index, vc_box, vc_alloc, vc_build, vc_buildSlice, vc_makeSlice, vc_slice, vc_extract, vc_unOp, vc_convert, vc_bin, vc_pick, vc_call, vc_append, vc_len, vc_min, vc_max, vc_copy, vc_clear, pickK_true, pickK_false, stK_eq, not_bool, min_i64, max_i64, min_u16, max_u16, extract_tuple, vc_nil, nilK_ptr, int_add, int_sub, int_mul, int_eql, int_neq, int_lss, int_leq, int_gtr, int_geq, u8_add, u8_sub, u8_mul, u8_eql, u8_neq, u8_lss, u8_leq, u8_gtr, u8_geq, u16_add, u16_sub, u16_mul, u16_eql, u16_neq, u16_lss, u16_leq, u16_gtr, u16_geq, u32_add, u32_sub, u32_mul, u32_eql, u32_neq, u32_lss, u32_leq, u32_gtr, u32_geq, u64_add, u64_sub, u64_mul, u64_eql, u64_neq, u64_lss, u64_leq, u64_gtr, u64_geq, u8_and, u8_or, u8_xor, u8_andNot, u64_and, u64_or, u64_xor, u64_andNot, u8_shl_u8, u8_shl_u16, u8_shl_u64, u32_shl_u8, u32_shl_u16, u32_shl_u64, u64_shl_u8, u64_shl_u16, u64_shl_u64, u8_shr_u8, u8_shr_u16, u8_shr_u64, u64_shr_u8, u64_shr_u16, u64_shr_u64, u16_quo8, u16_rem8, u16_quo64, u16_rem64, u64_quo8, u64_rem8, u64_quo64, u64_rem64, u32_quo8, u32_rem8, u32_quo64, u32_rem64, int_quo2, int_rem2, int_quo8, int_rem8, int_quo64, int_rem64, u64_shrN, u64_shlN, fold64, fold32, i64_shl_u8, i16_eql, i16_neq, i16_lss, i16_geq, Nat.reduceEqDiff, Nat.reduceLT, Nat.reduceAdd, Nat.reduceMul, Nat.reduceSub, ↓reduceIte, if_true, if_false, eq_self, true_and, and_true, Bool.false_eq_true, Bool.not_true, Bool.not_false, reduceCtorEq, upd_get, List.getElem?_toArray, List.getElem?_cons_zero, List.getElem?_cons_succ, Option.bind_some, rdK_some, List.map_toArray, List.map_cons, List.map_nil, rd_upd, rdO_fblk, wrOk_fblk, wrO_fblk, lget_zero, lget_succ, upd_upd, agg_cells, cells_of_list, List.length_cons, List.length_nil, Nat.add_zero, pv_cells, pl_len, pl_0, pl_1, pl_2, pl_3, pl_4, pl_5, pv_fold, pv_eta, ov_eta, opv_eta, ov_cells, ol_len, ov_fold, opv_cells, opl_len, opv_fold, st_pv, st_ov, st_opv, ol_0, ol_1, ol_2, ol_3, ol_4, ol_5, ol_6, ol_7, ol_8, ol_9, opl_0, opl_1, opl_2, opl_3, opl_4, opl_5, opl_6, opl_7, wrsOk_fblk, wrsO_fblk, fblk_all, Nat.reduceLeDiff, Nat.zero_add, rdsK2, rdsK4, rdsK6, rdsK8, rdsK10, wrsK_nil, wrsK_cons, oneCell_u8, oneCell_u16, oneCell_u32, oneCell_u64, oneCell_i16, oneCell_int, oneCell_bool, oneCell_ptr, oneCell_pointer, oneCell_sl, oneCell_slice, oneCell_string, box_eq, List.all_cons, List.all_nil, Bool.and_self, Ex1_eq, Ex1_and, endQ, resH, res_tmp, res_cell, resC_ptr, tupleOf, Fabg.results29, bd_77_0, bd_77s_0, fa_77_1, ix_31_int, ix_31_u8, ix_31_u16, ix_31_i16, st_30, k_u64_1, tn_u64_1, bd_60_, bd_60_0_1_2_3, bd_60_0_1_2_3_4_5, bd_60_0_1_3, bd_60_0_1_4_5, bd_60_0_2_3, bd_60_0_3, bd_60_0_4_5, k_u8_1, tn_u8_1, call_63, k_u8_0, tn_u8_0]
    | refine Alloc.mono ?_
    | (refine CondW_intro (fun hc => ?_) (fun hc => ?_) <;> (try simp only [Bool.not_eq_true', Bool.not_eq_false'] at hc) <;> (try simp only [hc]))
    | (refine GrdV_intro (fun hc => ?_) (fun hc => ?_) <;> (try simp only [Bool.not_eq_true', Bool.not_eq_false'] at hc) <;> (try simp only [hc]))
    | (refine GrdL_intro (fun hc => ?_) (fun hc => ?_) <;> (try simp only [Bool.not_eq_true', Bool.not_eq_false'] at hc) <;> (try simp only [hc]))))
  refine ⟨fun b2 hb2 => ?_⟩
  have n2 := fresh_upd hb2
  have hbc := bc_new b1
  have hL : Le G (upd (upd G b1 (some (fblk 1 (fun _ => u64 0) 30))) b2 (some (fblk 10 (bc (v0N b1) w0N) 77))) := ((Le.refl G).fresh hb1 _).fresh n2.2.2 _
  have hB : BdH G (upd (upd G b1 (some (fblk 1 (fun _ => u64 0) 30))) b2 (some (fblk 10 (bc (v0N b1) w0N) 77))) b2 (fun i => if i = 0 then 1 else 0) (fun _ _ => u64 0) := by
    refine ⟨v0N b1, w0N, upd_same _ _ _, hL, n2.2.2, fun i => if i = 0 then some b1 else none, fun i hi => ?_, fun i c hi hc => ?_, fun i j c hi hj h1 h2 => ?_⟩
    · by_cases e : i = 0
      · subst e
        exact ⟨.inr ⟨b1, 1, fun _ => u64 0, rfl, Nat.le_refl _, rfl, by rw [upd_ne _ _ _ _ n2.2.1, upd_same]; rfl, fun _ _ => rfl⟩⟩
      · refine ⟨.inl ⟨?_, ?_, ?_⟩⟩
        · show (if i = 0 then _ else _) = _; rw [if_neg e]
        · show (if i = 0 then _ else _) = _; rw [if_neg e]
        · show (if i = 0 then _ else _) = _; rw [if_neg e]
    · by_cases e : i = 0
      · subst e
        have : some b1 = some c := hc
        cases this
        exact ⟨hb1, n2.2.1⟩
      · have : (if i = 0 then some b1 else none) = some c := hc
        rw [if_neg e] at this
        cases this
    · have g1 : (if i = 0 then some b1 else none) = some c := h1
      have g2 : (if j = 0 then some b1 else none) = some c := h2
      by_cases e : i = 0
      · by_cases e' : j = 0
        · rw [e, e']
        · rw [if_neg e'] at g2; cases g2
      · rw [if_neg e] at g1; cases g1
  (repeat' (first
    | simp -implicitDefEqProofs only [WV_seq, WV_cond, WV_block, WV_skip, WV_ret, WV_exit, WV_region, WV_draw, WV_loop, thenQ_normal, thenQ_ret, thenQ_exit, blockQ_normal, blockQ_ret, blockQ_exit, V_nil, V_cons, KV_eq, VL_nil, VL_cons, KL_eq, vcl_zero, vcl_one, vcl_two, isV_same, isV_eq, monoK_eq, dOk, put, gd_none, gd_some, gdst_eq, gdv_some, gdB_true, gdB_false, gdB_undef, ev_const, ev_tmp, lit_i64, lit_i32, lit_bool, lit_pointer, lit_slice, lit_string, CondW_true, CondW_false, GrdV_true, GrdV_false, GrdL_true, GrdL_false, vc_move, vc_assign, vc_load, vc_store, vc_field, vc_indexAddr, vc_index, vc_box, vc_alloc, vc_build, vc_buildSlice, vc_makeSlice, vc_slice, vc_extract, vc_unOp, vc_convert, vc_bin, vc_pick, vc_call, vc_append, vc_len, vc_min, vc_max, vc_copy, vc_clear, pickK_true, pickK_false, stK_eq, not_bool, min_i64, max_i64, min_u16, max_u16, extract_tuple, vc_nil, nilK_ptr, int_add, int_sub, int_mul, int_eql, int_neq, int_lss, int_leq, int_gtr, int_geq, u8_add, u8_sub, u8_mul, u8_eql, u8_neq, u8_lss, u8_leq, u8_gtr, u8_geq, u16_add, u16_sub, u16_mul, u16_eql, u16_neq, u16_lss, u16_leq, u16_gtr, u16_geq, u32_add, u32_sub, u32_mul, u32_eql, u32_neq, u32_lss, u32_leq, u32_gtr, u32_geq, u64_add, u64_sub, u64_mul, u64_eql, u64_neq, u64_lss, u64_leq, u64_gtr, u64_geq, u8_and, u8_or, u8_xor, u8_andNot, u64_and, u64_or, u64_xor, u64_andNot, u8_shl_u8, u8_shl_u16, u8_shl_u64, u32_shl_u8, u32_shl_u16, u32_shl_u64, u64_shl_u8, u64_shl_u16, u64_shl_u64, u8_shr_u8, u8_shr_u16, u8_shr_u64, u64_shr_u8, u64_shr_u16, u64_shr_u64, u16_quo8, u16_rem8, u16_quo64, u16_rem64, u64_quo8, u64_rem8, u64_quo64, u64_rem64, u32_quo8, u32_rem8, u32_quo64, u32_rem64, int_quo2, int_rem2, int_quo8, int_rem8, int_quo64, int_rem64, u64_shrN, u64_shlN, fold64, fold32, i64_shl_u8, i16_eql, i16_neq, i16_lss, i16_geq, Nat.reduceEqDiff, Nat.reduceLT, Nat.reduceAdd, Nat.reduceMul, Nat.reduceSub, ↓reduceIte, if_true, if_false, eq_self, true_and, and_true, Bool.false_eq_true, Bool.not_true, Bool.not_false, reduceCtorEq, upd_get, List.getElem?_toArray, List.getElem?_cons_zero, List.getElem?_cons_succ, Option.bind_some, rdK_some, List.map_toArray, List.map_cons, List.map_nil, rd_upd, rdO_fblk, wrOk_fblk, wrO_fblk, lget_zero, lget_succ, upd_upd, agg_cells, cells_of_list, List.length_cons, List.length_nil, Nat.add_zero, pv_cells, pl_len, pl_0, pl_1, pl_2, pl_3, pl_4, pl_5, pv_fold, pv_eta, ov_eta, opv_eta, ov_cells, ol_len, ov_fold, opv_cells, opl_len, opv_fold, st_pv, st_ov, st_opv, ol_0, ol_1, ol_2, ol_3, ol_4, ol_5, ol_6, ol_7, ol_8, ol_9, opl_0, opl_1, opl_2, opl_3, opl_4, opl_5, opl_6, opl_7, wrsOk_fblk, wrsO_fblk, fblk_all, Nat.reduceLeDiff, Nat.zero_add, rdsK2, rdsK4, rdsK6, rdsK8, rdsK10, wrsK_nil, wrsK_cons, oneCell_u8, oneCell_u16, oneCell_u32, oneCell_u64, oneCell_i16, oneCell_int, oneCell_bool, oneCell_ptr, oneCell_pointer, oneCell_sl, oneCell_slice, oneCell_string, box_eq, List.all_cons, List.all_nil, Bool.and_self, Ex1_eq, Ex1_and, endQ, resH, res_tmp, res_cell, resC_ptr, tupleOf, Fabg.results29, bd_77_0, bd_77s_0, fa_77_1, ix_31_int, ix_31_u8, ix_31_u16, ix_31_i16, st_30, k_u64_1, tn_u64_1, bd_60_, bd_60_0_1_2_3, bd_60_0_1_2_3_4_5, bd_60_0_1_3, bd_60_0_1_4_5, bd_60_0_2_3, bd_60_0_3, bd_60_0_4_5, k_u8_1, tn_u8_1, call_63, k_u8_0, tn_u8_0, Int.reduceToNat, Int.reduceLE, Int.reduceLT, hbc]
    | refine Alloc.mono ?_
    | (refine CondW_intro (fun hc => ?_) (fun hc => ?_) <;> (try simp only [Bool.not_eq_true', Bool.not_eq_false'] at hc) <;> (try simp only [hc]))
    | (refine GrdV_intro (fun hc => ?_) (fun hc => ?_) <;> (try simp only [Bool.not_eq_true', Bool.not_eq_false'] at hc) <;> (try simp only [hc]))
    | (refine GrdL_intro (fun hc => ?_) (fun hc => ?_) <;> (try simp only [Bool.not_eq_true', Bool.not_eq_false'] at hc) <;> (try simp only [hc]))))
  refine (hang_ok hB ⟨1, 0, 0, 1, 0, 0⟩ 0 0 0 (fun i hi => by show (if i = 0 then 1 else 0) + 1 ≤ 1000; split <;> omega)).mono ?_
  rintro _ G3 ⟨rfl, hB3⟩
  (repeat' (first
    | simp -implicitDefEqProofs only [WV_seq, WV_cond, WV_block, WV_skip, WV_ret, WV_exit, WV_region, WV_draw, WV_loop, thenQ_normal, thenQ_ret, thenQ_exit, blockQ_normal, blockQ_ret, blockQ_exit, V_nil, V_cons, KV_eq, VL_nil, VL_cons, KL_eq, vcl_zero, vcl_one, vcl_two, isV_same, isV_eq, monoK_eq, dOk, put, gd_none, gd_some, gdst_eq, gdv_some, gdB_true, gdB_false, gdB_undef, ev_const, ev_tmp, lit_i64, lit_i32, lit_bool, lit_pointer, lit_slice, lit_string, CondW_true, CondW_false, GrdV_true, GrdV_false, GrdL_true, GrdL_false, vc_move, vc_assign, vc_load, vc_store, vc_field, vc_indexAddr, vc_index, vc_box, vc_alloc, vc_build, vc_buildSlice, vc_makeSlice, vc_slice, vc_extract, vc_unOp, vc_convert, vc_bin, vc_pick, vc_call, vc_append, vc_len, vc_min, vc_max, vc_copy, vc_clear, pickK_true, pickK_false, stK_eq, not_bool, min_i64, max_i64, min_u16, max_u16, extract_tuple, vc_nil, nilK_ptr, int_add, int_sub, int_mul, int_eql, int_neq, int_lss, int_leq, int_gtr, int_geq, u8_add, u8_sub, u8_mul, u8_eql, u8_neq, u8_lss, u8_leq, u8_gtr, u8_geq, u16_add, u16_sub, u16_mul, u16_eql, u16_neq, u16_lss, u16_leq, u16_gtr, u16_geq, u32_add, u32_sub, u32_mul, u32_eql, u32_neq, u32_lss, u32_leq, u32_gtr, u32_geq, u64_add, u64_sub, u64_mul, u64_eql, u64_neq, u64_lss, u64_leq, u64_gtr, u64_geq, u8_and, u8_or, u8_xor, u8_andNot, u64_and, u64_or, u64_xor, u64_andNot, u8_shl_u8, u8_shl_u16, u8_shl_u64, u32_shl_u8, u32_shl_u16, u32_shl_u64, u64_shl_u8, u64_shl_u16, u64_shl_u64, u8_shr_u8, u8_shr_u16, u8_shr_u64, u64_shr_u8, u64_shr_u16, u64_shr_u64, u16_quo8, u16_rem8, u16_quo64, u16_rem64, u64_quo8, u64_rem8, u64_quo64, u64_rem64, u32_quo8, u32_rem8, u32_quo64, u32_rem64, int_quo2, int_rem2, int_quo8, int_rem8, int_quo64, int_rem64, u64_shrN, u64_shlN, fold64, fold32, i64_shl_u8, i16_eql, i16_neq, i16_lss, i16_geq, Nat.reduceEqDiff, Nat.reduceLT, Nat.reduceAdd, Nat.reduceMul, Nat.reduceSub, ↓reduceIte, if_true, if_false, eq_self, true_and, and_true, Bool.false_eq_true, Bool.not_true, Bool.not_false, reduceCtorEq, upd_get, List.getElem?_toArray, List.getElem?_cons_zero, List.getElem?_cons_succ, Option.bind_some, rdK_some, List.map_toArray, List.map_cons, List.map_nil, rd_upd, rdO_fblk, wrOk_fblk, wrO_fblk, lget_zero, lget_succ, upd_upd, agg_cells, cells_of_list, List.length_cons, List.length_nil, Nat.add_zero, pv_cells, pl_len, pl_0, pl_1, pl_2, pl_3, pl_4, pl_5, pv_fold, pv_eta, ov_eta, opv_eta, ov_cells, ol_len, ov_fold, opv_cells, opl_len, opv_fold, st_pv, st_ov, st_opv, ol_0, ol_1, ol_2, ol_3, ol_4, ol_5, ol_6, ol_7, ol_8, ol_9, opl_0, opl_1, opl_2, opl_3, opl_4, opl_5, opl_6, opl_7, wrsOk_fblk, wrsO_fblk, fblk_all, Nat.reduceLeDiff, Nat.zero_add, rdsK2, rdsK4, rdsK6, rdsK8, rdsK10, wrsK_nil, wrsK_cons, oneCell_u8, oneCell_u16, oneCell_u32, oneCell_u64, oneCell_i16, oneCell_int, oneCell_bool, oneCell_ptr, oneCell_pointer, oneCell_sl, oneCell_slice, oneCell_string, box_eq, List.all_cons, List.all_nil, Bool.and_self, Ex1_eq, Ex1_and, endQ, resH, res_tmp, res_cell, resC_ptr, tupleOf, Fabg.results29, bd_77_0, bd_77s_0, fa_77_1, ix_31_int, ix_31_u8, ix_31_u16, ix_31_i16, st_30, k_u64_1, tn_u64_1, bd_60_, bd_60_0_1_2_3, bd_60_0_1_2_3_4_5, bd_60_0_1_3, bd_60_0_1_4_5, bd_60_0_2_3, bd_60_0_3, bd_60_0_4_5, k_u8_1, tn_u8_1, call_63, k_u8_0, tn_u8_0]
    | refine Alloc.mono ?_
    | (refine CondW_intro (fun hc => ?_) (fun hc => ?_) <;> (try simp only [Bool.not_eq_true', Bool.not_eq_false'] at hc) <;> (try simp only [hc]))
    | (refine GrdV_intro (fun hc => ?_) (fun hc => ?_) <;> (try simp only [Bool.not_eq_true', Bool.not_eq_false'] at hc) <;> (try simp only [hc]))
    | (refine GrdL_intro (fun hc => ?_) (fun hc => ?_) <;> (try simp only [Bool.not_eq_true', Bool.not_eq_false'] at hc) <;> (try simp only [hc]))))
  have hX : BdX G G3 b2 E0 (fun _ => ⟨1, 0, 0, 1, 0, 0⟩) (fun _ => 0) (fun _ => 0) (fun _ => 0) := by
    refine hB3.congr (fun i hi => ?_) (fun i hi j hj => ?_)
    · rcases six hi with rfl | rfl | rfl | rfl | rfl | rfl <;> rfl
    · rcases six hi with rfl | rfl | rfl | rfl | rfl | rfl
      · rfl
      · have hj' : j < 1 * 6 := hj
        show appF 6 0 (fun _ => u64 0) (pl ⟨1, 0, 0, 1, 0, 0⟩) j = lget (pl ⟨1, 0, 0, 1, 0, 0⟩) (j % 6)
        unfold appF
        rw [if_neg (by omega), show j % 6 = j by omega, show j - 0 * 6 = j by omega]
      all_goals
        have hj' : j < 1 * 1 := hj
        have e : j = 0 := by omega
        subst e
        rfl
  refine ⟨_, Le.refl _, b2, rfl, ⟨_, _, _, _, hX, sim0⟩⟩
/-- an editor and a builder in one heap: the builder goes on, the editor stands still -/
theorem swap1 {H HB G : Heap} {bb eb : Nat} {S S' : Ed} (hB : BdS H HB bb S) (hE : EdH HB G eb S') : ∃ HE, EdH H HE eb S' ∧ BdS HE G bb S := by
  obtain ⟨P, up, via, dep, hX, hS⟩ := hB.is
  obtain ⟨v, w, hf, hV⟩ := hX.is
  obtain ⟨o, k1, k2, k3⟩ := hV.blk
  obtain ⟨va, vo, oa, oo, e1, e2, e3, e4, e5, e6⟩ := hE.blk
  have hle := hE.le0
  have hbd : ∀ c, (c = bb ∨ ∃ i, i < 6 ∧ o i = some c) → HB c ≠ none ∧ H c = none := by
    rintro c (rfl | ⟨i, hi, hc⟩)
    · exact ⟨by rw [hf]; simp, hV.own⟩
    · exact ⟨(k1 i hi).dom c hc, (k2 i c hi hc).1⟩
  obtain ⟨Z, hZ⟩ : ∃ Z : Nat → Prop, Z = fun c => c = bb ∨ ∃ i, i < 6 ∧ o i = some c := ⟨_, rfl⟩
  obtain ⟨HE, hHE⟩ : ∃ HE : Heap, (∀ c, Z c → HE c = none) ∧ ∀ c, ¬ Z c → HE c = G c := by
    refine ⟨fun c => if c = bb ∨ o 0 = some c ∨ o 1 = some c ∨ o 2 = some c ∨ o 3 = some c ∨ o 4 = some c ∨ o 5 = some c then none else G c, fun c h => ?_, fun c h => ?_⟩
    · show (if c = bb ∨ o 0 = some c ∨ o 1 = some c ∨ o 2 = some c ∨ o 3 = some c ∨ o 4 = some c ∨ o 5 = some c then none else G c) = none
      rw [hZ] at h
      rw [if_pos]
      rcases h with h | ⟨i, hi, hc⟩
      · exact .inl h
      · rcases six hi with rfl | rfl | rfl | rfl | rfl | rfl
        · exact .inr (.inl hc)
        · exact .inr (.inr (.inl hc))
        · exact .inr (.inr (.inr (.inl hc)))
        · exact .inr (.inr (.inr (.inr (.inl hc))))
        · exact .inr (.inr (.inr (.inr (.inr (.inl hc)))))
        · exact .inr (.inr (.inr (.inr (.inr (.inr hc)))))
    · show (if c = bb ∨ o 0 = some c ∨ o 1 = some c ∨ o 2 = some c ∨ o 3 = some c ∨ o 4 = some c ∨ o 5 = some c then none else G c) = G c
      rw [if_neg]
      intro h'
      apply h
      rw [hZ]
      rcases h' with h' | h' | h' | h' | h' | h' | h'
      · exact .inl h'
      · exact .inr ⟨0, by omega, h'⟩
      · exact .inr ⟨1, by omega, h'⟩
      · exact .inr ⟨2, by omega, h'⟩
      · exact .inr ⟨3, by omega, h'⟩
      · exact .inr ⟨4, by omega, h'⟩
      · exact .inr ⟨5, by omega, h'⟩
  have hLe : Le HE G := by
    intro c z hz
    by_cases h : Z c
    · rw [hHE.1 c h] at hz; cases hz
    · rw [hHE.2 c h] at hz; exact hz
  have hne : ∀ c, HB c = none → ¬ Z c := fun c hc hz => by rw [hZ] at hz; exact (hbd c hz).1 hc
  have hk : ∀ c, HB c = none → HE c = G c := fun c hc => hHE.2 c (hne c hc)
  refine ⟨HE, ⟨?_, le_none hX.le0 hE.own, va, vo, oa, oo, ?_, e2.keep (fun c hc => hk c (e4 c hc).1), e3.keep (fun c hc => hk c (e5 c hc).1), fun c hc => ⟨le_none hX.le0 (e4 c hc).1, (e4 c hc).2⟩, fun c hc => ⟨le_none hX.le0 (e5 c hc).1, (e5 c hc).2⟩, e6⟩, P, up, via, dep, ⟨v, w, hle _ _ hf, hLe, ?_, o, fun i hi => (k1 i hi).keep (fun c hc => ?_), fun i c hi hc => ⟨?_, (k2 i c hi hc).2⟩, k3⟩, hS⟩
  · intro c z hz
    rw [hHE.2 c (fun h => by rw [hZ] at h; have := (hbd c h).2; rw [hz] at this; cases this)]
    exact hle c z (hX.le0 c z hz)
  · rw [hk eb hE.own]; exact e1
  · exact hHE.1 bb (by rw [hZ]; exact .inl rfl)
  · cases e : HB c with
    | none => exact absurd e ((k1 i hi).dom c hc)
    | some z => exact hle c z e
  · exact hHE.1 c (by rw [hZ]; exact .inr ⟨i, hi, hc⟩)
/-- the editor goes on, the builder stands still -/
theorem swap2 {H HE G : Heap} {bb eb : Nat} {S S' : Ed} (hE : EdH H HE eb S) (hB : BdS HE G bb S') : ∃ HB, BdS H HB bb S' ∧ EdH HB G eb S := by
  obtain ⟨P, up, via, dep, hX, hS⟩ := hB.is
  obtain ⟨v, w, hf, hV⟩ := hX.is
  obtain ⟨o, k1, k2, k3⟩ := hV.blk
  obtain ⟨va, vo, oa, oo, e1, e2, e3, e4, e5, e6⟩ := hE.blk
  have hle := hX.le0
  have hbd : ∀ c, (c = eb ∨ oa = some c ∨ oo = some c) → HE c ≠ none ∧ H c = none := by
    rintro c (rfl | hc | hc)
    · exact ⟨by rw [e1]; simp, hE.own⟩
    · exact ⟨e2.dom c hc, (e4 c hc).1⟩
    · exact ⟨e3.dom c hc, (e5 c hc).1⟩
  obtain ⟨Z, hZ⟩ : ∃ Z : Nat → Prop, Z = fun c => c = eb ∨ oa = some c ∨ oo = some c := ⟨_, rfl⟩
  obtain ⟨HB, hHB⟩ : ∃ HB : Heap, (∀ c, Z c → HB c = none) ∧ ∀ c, ¬ Z c → HB c = G c := by
    refine ⟨fun c => if c = eb ∨ oa = some c ∨ oo = some c then none else G c, fun c h => ?_, fun c h => ?_⟩
    · show (if c = eb ∨ oa = some c ∨ oo = some c then none else G c) = none
      rw [hZ] at h
      rw [if_pos h]
    · show (if c = eb ∨ oa = some c ∨ oo = some c then none else G c) = G c
      rw [hZ] at h
      rw [if_neg h]
  have hLe : Le HB G := by
    intro c z hz
    by_cases h : Z c
    · rw [hHB.1 c h] at hz; cases hz
    · rw [hHB.2 c h] at hz; exact hz
  have hne : ∀ c, HE c = none → ¬ Z c := fun c hc hz => by rw [hZ] at hz; exact (hbd c hz).1 hc
  have hk : ∀ c, HE c = none → HB c = G c := fun c hc => hHB.2 c (hne c hc)
  have hup : ∀ c, HE c ≠ none → G c = HE c := by
    intro c hc
    cases e : HE c with
    | none => exact absurd e hc
    | some z => exact hle c z e
  refine ⟨HB, ⟨P, up, via, dep, ⟨v, w, by rw [hk bb hV.own]; exact hf, ?_, le_none hE.le0 hV.own, o, fun i hi => (k1 i hi).keep (fun c hc => hk c (k2 i c hi hc).1), fun i c hi hc => ⟨le_none hE.le0 (k2 i c hi hc).1, (k2 i c hi hc).2⟩, k3⟩, hS⟩, hLe, ?_, va, vo, oa, oo, hle _ _ e1, e2.keep (fun c hc => hup c (e2.dom c hc)), e3.keep (fun c hc => hup c (e3.dom c hc)), fun c hc => ⟨?_, (e4 c hc).2⟩, fun c hc => ⟨?_, (e5 c hc).2⟩, e6⟩
  · intro c z hz
    rw [hHB.2 c (fun h => by rw [hZ] at h; have := (hbd c h).2; rw [hz] at this; cases this)]
    exact hle c z (hE.le0 c z hz)
  · exact hHB.1 eb (by rw [hZ]; exact .inl rfl)
  · exact hHB.1 c (by rw [hZ]; exact .inr (.inl hc))
  · exact hHB.1 c (by rw [hZ]; exact .inr (.inr hc))
end Eng
end Go.Proofs.Ygcfab
