/-
  Package edit: shrink, truncate.
-/
import Derived.Test.YgcfabEw5
set_option linter.unusedSimpArgs false
set_option linter.unusedVariables false
set_option maxRecDepth 100000
namespace Go.Proofs.Ygcfab
namespace Eng
theorem sboundE {H : Heap} {kd : IntKind} {i : Int} {y : Nat} {c : BoundsCode} {k : Nat → Heap → Prop} (h0 : 0 ≤ i) (h1 : i ≤ (y : Int)) : runH Fabg.prog (Instr.sliceBound (.int kd i) y c) H k = k i.toNat H := by
  unfold Instr.sliceBound asIntOf
  simp only [pure_bind]
  rw [runH_ite, if_pos ⟨h0, h1⟩, runH_pure]
theorem sl1_26 {H : Heap} {k : Value → Heap → Prop} {b len cap n : Nat} (h2 : n ≤ cap) :
    runH Fabg.prog (Instr.sliceAt 26 (sl b 0 len cap) none (some (.int .i64 (n : Nat))) none) H k = k (sl b 0 n cap) H := by
  unfold Instr.sliceAt
  rw [runH_underlying Fabg.underlying26]
  show runH Fabg.prog (Instr.slice 26 (sl b 0 len cap) none (some (.int .i64 (n : Nat))) none) H k = _
  unfold Instr.slice sl
  rw [runH_underlying Fabg.underlying26]
  simp only []
  rw [runH_bind]
  unfold Instr.sliceBounds
  simp only []
  rw [runH_bind, runH_pure, runH_bind, sboundE (by omega) (by omega), runH_bind, runH_pure, runH_pure]
  simp only []
  rw [runH_bind]
  have hs : ∀ (k : Nat → Heap → Prop), runH Fabg.prog (sizeOf 30) H k = k 1 H := fun _ => by kernel_rfl
  rw [hs, runH_pure]
  have e : (if cap = 0 then (some ⟨b, 0, none⟩ : Option Addr) else Option.map (fun x : Addr => x.add (0 * 1)) (some (⟨b, 0, none⟩ : Addr))) = some ⟨b, 0, none⟩ := by
    split
    · rfl
    · rw [Option.map_some, addr_add]
  rw [e]
  rfl
theorem EdH.cut {H0 G : Heap} {eb : Nat} {S : Ed} (h : EdH H0 G eb S) (hl : 1 ≤ S.len) :
    ∃ ba cap vo, rd G eb 0 = some (sl ba 0 S.len cap) ∧ S.len ≤ cap ∧ G eb = some (fblk 2 (lget [sl ba 0 S.len cap, vo]) 57) ∧ rd G eb 1 = some vo ∧
      (∀ n, n ≤ S.len → EdH H0 (upd G eb (some (fblk 2 (lget [sl ba 0 n cap, vo]) 57))) eb { S with len := n }) := by
  obtain ⟨va, vo, oa, oo, k1, k2, k3, k4, k5, k6⟩ := h.blk
  rcases k2.is with ⟨_, h0, _⟩ | ⟨ba, cap, g, rfl, hcap, rfl, hG, hg⟩
  · omega
  have hba := k4 ba rfl
  refine ⟨ba, cap, vo, ?_, hcap, k1, ?_, fun n hn => ?_⟩
  · rw [rd_eq, k1, rdO_fblk, if_pos (by omega)]; rfl
  · rw [rd_eq, k1, rdO_fblk, if_pos (by omega)]; rfl
  · refine ⟨h.le0.fresh h.own _, h.own, sl ba 0 n cap, vo, some ba, oo, upd_same _ _ _, ⟨.inr ⟨ba, cap, g, rfl, by show n ≤ cap; omega, rfl, ?_, ?_⟩⟩, k3.keep (fun c hc => upd_ne _ _ _ _ (k5 c hc).2), k4, k5, k6⟩
    · rw [upd_ne _ _ _ _ hba.2]; exact hG
    · intro j hj
      exact hg j (by have : j < n * 1 := hj; omega)
def endN (S : Ed) : Nat → UInt16
  | 0 => 1
  | m + 1 => if aliveB S (m : Nat) = true ∧ 0 < m ∧ wlessB (S.O m).p = false then max (endN S m) (firstL (S.O m).p + wordsL (S.O m).p) else endN S m
def shrinkE (S : Ed) : Ed := { S with len := min (endN S S.cnt).toNat S.len }
theorem shrink_ok {H0 G : Heap} {eb : Nat} {S : Ed} (hC : EdH H0 G eb S) (h0 : 1 ≤ S.len) (h1 : S.len ≤ 256) (h2 : S.cnt ≤ 256) :
    Fn Fabg.prog 160 #[ptr eb 0] G (fun r H' => r = .tuple #[] ∧ EdH H0 H' eb (shrinkE S)) := by
  refine Fn_of Fabg.func160 rfl Fabg.ntmps160 (by simp) (WV_sound _ _ _ _ ?_)
  rw [argEnv1]
  obtain ⟨aA, cA, aO, cO, hE⟩ := hC.rdr (by omega) (by omega)
  have r1 := hE.r1
  (repeat' (first
    | simp -implicitDefEqProofs only [WV_seq, WV_cond, WV_block, WV_skip, WV_ret, WV_exit, WV_region, WV_draw, WV_loop, thenQ_normal, thenQ_ret, thenQ_exit, blockQ_normal, blockQ_ret, blockQ_exit, V_nil, V_cons, KV_eq, VL_nil, VL_cons, KL_eq, vcl_zero, vcl_one, vcl_two, isV_same, isV_eq, monoK_eq, dOk, put, gd_none, gd_some, gdst_eq, gdv_some, gdB_true, gdB_false, gdB_undef, ev_const, ev_tmp, lit_i64, lit_i32, lit_bool, lit_pointer, lit_slice, lit_string, CondW_true, CondW_false, GrdV_true, GrdV_false, GrdL_true, GrdL_false, vc_move, vc_assign, vc_load, vc_store, vc_field, vc_indexAddr, vc_index, vc_box, vc_alloc, vc_build, vc_buildSlice, vc_makeSlice, vc_slice, vc_extract, vc_unOp, vc_convert, vc_bin, vc_pick, vc_call, vc_append, vc_len, vc_min, vc_max, vc_copy, vc_clear, pickK_true, pickK_false, stK_eq, not_bool, min_i64, max_i64, min_u16, max_u16, extract_tuple, vc_nil, nilK_ptr, int_add, int_sub, int_mul, int_eql, int_neq, int_lss, int_leq, int_gtr, int_geq, u8_add, u8_sub, u8_mul, u8_eql, u8_neq, u8_lss, u8_leq, u8_gtr, u8_geq, u16_add, u16_sub, u16_mul, u16_eql, u16_neq, u16_lss, u16_leq, u16_gtr, u16_geq, u32_add, u32_sub, u32_mul, u32_eql, u32_neq, u32_lss, u32_leq, u32_gtr, u32_geq, u64_add, u64_sub, u64_mul, u64_eql, u64_neq, u64_lss, u64_leq, u64_gtr, u64_geq, u8_and, u8_or, u8_xor, u8_andNot, u64_and, u64_or, u64_xor, u64_andNot, u8_shl_u8, u8_shl_u16, u8_shl_u64, u32_shl_u8, u32_shl_u16, u32_shl_u64, u64_shl_u8, u64_shl_u16, u64_shl_u64, u8_shr_u8, u8_shr_u16, u8_shr_u64, u64_shr_u8, u64_shr_u16, u64_shr_u64, u16_quo8, u16_rem8, u16_quo64, u16_rem64, u64_quo8, u64_rem8, u64_quo64, u64_rem64, u32_quo8, u32_rem8, u32_quo64, u32_rem64, int_quo2, int_rem2, int_quo8, int_rem8, int_quo64, int_rem64, u64_shrN, u64_shlN, fold64, fold32, i64_shl_u8, i16_eql, i16_neq, i16_lss, i16_geq, Nat.reduceEqDiff, Nat.reduceLT, Nat.reduceAdd, Nat.reduceMul, Nat.reduceSub, ↓reduceIte, if_true, if_false, eq_self, true_and, and_true, Bool.false_eq_true, Bool.not_true, Bool.not_false, reduceCtorEq, upd_get, List.getElem?_toArray, List.getElem?_cons_zero, List.getElem?_cons_succ, Option.bind_some, rdK_some, List.map_toArray, List.map_cons, List.map_nil, rd_upd, rdO_fblk, wrOk_fblk, wrO_fblk, lget_zero, lget_succ, upd_upd, agg_cells, cells_of_list, List.length_cons, List.length_nil, Nat.add_zero, pv_cells, pl_len, pl_0, pl_1, pl_2, pl_3, pl_4, pl_5, pv_fold, pv_eta, ov_eta, opv_eta, ov_cells, ol_len, ov_fold, opv_cells, opl_len, opv_fold, st_pv, st_ov, st_opv, ol_0, ol_1, ol_2, ol_3, ol_4, ol_5, ol_6, ol_7, ol_8, ol_9, opl_0, opl_1, opl_2, opl_3, opl_4, opl_5, opl_6, opl_7, wrsOk_fblk, wrsO_fblk, fblk_all, Nat.reduceLeDiff, Nat.zero_add, rdsK2, rdsK4, rdsK6, rdsK8, rdsK10, wrsK_nil, wrsK_cons, oneCell_u8, oneCell_u16, oneCell_u32, oneCell_u64, oneCell_i16, oneCell_int, oneCell_bool, oneCell_ptr, oneCell_pointer, oneCell_sl, oneCell_slice, oneCell_string, box_eq, List.all_cons, List.all_nil, Bool.and_self, Ex1_eq, Ex1_and, endQ, resH, res_tmp, res_cell, resC_ptr, tupleOf, Fabg.results160, k_u16_1, fa_57_1, ld_55, len_55, lenS_55, call_102, ix_55_int, ix_55_u8, ix_55_u16, ix_55_i16, fa_62_0, ldN_60, call_111, call_134, fa_57_0, ld_26, cv_50_3, len_26, lenS_26, st_26, r1]
    | refine W_drawL (id := 8) (by kernel_rfl) [0, 0, 0, 0, 0, 0, 0, 0, 0, 0, 0, 0, 0, 0, 0, 0, 2] (by kernel_rfl) ?_
    | refine Alloc.mono ?_
    | (refine CondW_intro (fun hc => ?_) (fun hc => ?_) <;> (try simp only [Bool.not_eq_true', Bool.not_eq_false'] at hc) <;> (try simp only [hc]))
    | (refine GrdV_intro (fun hc => ?_) (fun hc => ?_) <;> (try simp only [Bool.not_eq_true', Bool.not_eq_false'] at hc) <;> (try simp only [hc]))
    | (refine GrdL_intro (fun hc => ?_) (fun hc => ?_) <;> (try simp only [Bool.not_eq_true', Bool.not_eq_false'] at hc) <;> (try simp only [hc]))))
  refine W_loopM (fun m T G' => ∃ k : Nat, m + k = S.cnt ∧ G' = G ∧ T 0 = ptr eb 0 ∧ T 2 = u16 (endN S k) ∧ T 10 = .int .i64 (S.cnt : Nat) ∧ T 11 = .int .i64 (k : Nat))
    (fun T G' => G' = G ∧ T 0 = ptr eb 0 ∧ T 2 = u16 (endN S S.cnt)) ?_ S.cnt _ _ ?_ ?_
  · rintro m T G' ⟨k, hmk, rfl, t0, t2, t10, t11⟩
    refine WV_sound _ _ _ _ ?_
    by_cases hk : k < S.cnt
    rotate_left
    · have q : decide ((k : Int) < (S.cnt : Int)) = false := decide_eq_false (by omega)
      have e : k = S.cnt := by omega
      rw [e] at t2
      (repeat' (first
    | simp -implicitDefEqProofs only [WV_seq, WV_cond, WV_block, WV_skip, WV_ret, WV_exit, WV_region, WV_draw, WV_loop, thenQ_normal, thenQ_ret, thenQ_exit, blockQ_normal, blockQ_ret, blockQ_exit, V_nil, V_cons, KV_eq, VL_nil, VL_cons, KL_eq, vcl_zero, vcl_one, vcl_two, isV_same, isV_eq, monoK_eq, dOk, put, gd_none, gd_some, gdst_eq, gdv_some, gdB_true, gdB_false, gdB_undef, ev_const, ev_tmp, lit_i64, lit_i32, lit_bool, lit_pointer, lit_slice, lit_string, CondW_true, CondW_false, GrdV_true, GrdV_false, GrdL_true, GrdL_false, vc_move, vc_assign, vc_load, vc_store, vc_field, vc_indexAddr, vc_index, vc_box, vc_alloc, vc_build, vc_buildSlice, vc_makeSlice, vc_slice, vc_extract, vc_unOp, vc_convert, vc_bin, vc_pick, vc_call, vc_append, vc_len, vc_min, vc_max, vc_copy, vc_clear, pickK_true, pickK_false, stK_eq, not_bool, min_i64, max_i64, min_u16, max_u16, extract_tuple, vc_nil, nilK_ptr, int_add, int_sub, int_mul, int_eql, int_neq, int_lss, int_leq, int_gtr, int_geq, u8_add, u8_sub, u8_mul, u8_eql, u8_neq, u8_lss, u8_leq, u8_gtr, u8_geq, u16_add, u16_sub, u16_mul, u16_eql, u16_neq, u16_lss, u16_leq, u16_gtr, u16_geq, u32_add, u32_sub, u32_mul, u32_eql, u32_neq, u32_lss, u32_leq, u32_gtr, u32_geq, u64_add, u64_sub, u64_mul, u64_eql, u64_neq, u64_lss, u64_leq, u64_gtr, u64_geq, u8_and, u8_or, u8_xor, u8_andNot, u64_and, u64_or, u64_xor, u64_andNot, u8_shl_u8, u8_shl_u16, u8_shl_u64, u32_shl_u8, u32_shl_u16, u32_shl_u64, u64_shl_u8, u64_shl_u16, u64_shl_u64, u8_shr_u8, u8_shr_u16, u8_shr_u64, u64_shr_u8, u64_shr_u16, u64_shr_u64, u16_quo8, u16_rem8, u16_quo64, u16_rem64, u64_quo8, u64_rem8, u64_quo64, u64_rem64, u32_quo8, u32_rem8, u32_quo64, u32_rem64, int_quo2, int_rem2, int_quo8, int_rem8, int_quo64, int_rem64, u64_shrN, u64_shlN, fold64, fold32, i64_shl_u8, i16_eql, i16_neq, i16_lss, i16_geq, Nat.reduceEqDiff, Nat.reduceLT, Nat.reduceAdd, Nat.reduceMul, Nat.reduceSub, ↓reduceIte, if_true, if_false, eq_self, true_and, and_true, Bool.false_eq_true, Bool.not_true, Bool.not_false, reduceCtorEq, upd_get, List.getElem?_toArray, List.getElem?_cons_zero, List.getElem?_cons_succ, Option.bind_some, rdK_some, List.map_toArray, List.map_cons, List.map_nil, rd_upd, rdO_fblk, wrOk_fblk, wrO_fblk, lget_zero, lget_succ, upd_upd, agg_cells, cells_of_list, List.length_cons, List.length_nil, Nat.add_zero, pv_cells, pl_len, pl_0, pl_1, pl_2, pl_3, pl_4, pl_5, pv_fold, pv_eta, ov_eta, opv_eta, ov_cells, ol_len, ov_fold, opv_cells, opl_len, opv_fold, st_pv, st_ov, st_opv, ol_0, ol_1, ol_2, ol_3, ol_4, ol_5, ol_6, ol_7, ol_8, ol_9, opl_0, opl_1, opl_2, opl_3, opl_4, opl_5, opl_6, opl_7, wrsOk_fblk, wrsO_fblk, fblk_all, Nat.reduceLeDiff, Nat.zero_add, rdsK2, rdsK4, rdsK6, rdsK8, rdsK10, wrsK_nil, wrsK_cons, oneCell_u8, oneCell_u16, oneCell_u32, oneCell_u64, oneCell_i16, oneCell_int, oneCell_bool, oneCell_ptr, oneCell_pointer, oneCell_sl, oneCell_slice, oneCell_string, box_eq, List.all_cons, List.all_nil, Bool.and_self, Ex1_eq, Ex1_and, endQ, resH, res_tmp, res_cell, resC_ptr, tupleOf, Fabg.results160, k_u16_1, fa_57_1, ld_55, len_55, lenS_55, call_102, ix_55_int, ix_55_u8, ix_55_u16, ix_55_i16, fa_62_0, ldN_60, call_111, call_134, fa_57_0, ld_26, cv_50_3, len_26, lenS_26, st_26, t0, t2, t10, t11, q]
    | refine W_drawL (id := 8) (by kernel_rfl) [0, 0, 0, 0, 0, 0, 0, 0, 0, 0, 0, 0, 0, 0, 0, 0, 2] (by kernel_rfl) ?_
    | refine Alloc.mono ?_
    | (refine CondW_intro (fun hc => ?_) (fun hc => ?_) <;> (try simp only [Bool.not_eq_true', Bool.not_eq_false'] at hc) <;> (try simp only [hc]))
    | (refine GrdV_intro (fun hc => ?_) (fun hc => ?_) <;> (try simp only [Bool.not_eq_true', Bool.not_eq_false'] at hc) <;> (try simp only [hc]))
    | (refine GrdL_intro (fun hc => ?_) (fun hc => ?_) <;> (try simp only [Bool.not_eq_true', Bool.not_eq_false'] at hc) <;> (try simp only [hc]))))
    have q : decide ((k : Int) < (S.cnt : Int)) = true := decide_eq_true (by omega)
    have q2 : w64 ((k : Int) + 1) = ((k + 1 : Nat) : Int) := by rw [w64_id] <;> omega
    have q5 : ((k : Int) < (S.cnt : Int)) = True := eq_true (by omega)
    have ca := alive_ok hE (k : Nat)
    obtain ⟨b, o, e, r1', hO⟩ := hE.obj (k := k) hk
    obtain ⟨p0, p1, p2, p3, p4, p5, p6, p7, p8, p9⟩ := hO
    have cw := wordless_ok (S.O k).p G'
    have en : endN S (k + 1) = if aliveB S (k : Nat) = true ∧ 0 < k ∧ wlessB (S.O k).p = false then max (endN S k) (firstL (S.O k).p + wordsL (S.O k).p) else endN S k := rfl
    cases hal : aliveB S (k : Nat)
    · rw [hal] at ca
      rw [if_neg (by rw [hal]; simp)] at en
      (repeat' (first
    | simp -implicitDefEqProofs only [WV_seq, WV_cond, WV_block, WV_skip, WV_ret, WV_exit, WV_region, WV_draw, WV_loop, thenQ_normal, thenQ_ret, thenQ_exit, blockQ_normal, blockQ_ret, blockQ_exit, V_nil, V_cons, KV_eq, VL_nil, VL_cons, KL_eq, vcl_zero, vcl_one, vcl_two, isV_same, isV_eq, monoK_eq, dOk, put, gd_none, gd_some, gdst_eq, gdv_some, gdB_true, gdB_false, gdB_undef, ev_const, ev_tmp, lit_i64, lit_i32, lit_bool, lit_pointer, lit_slice, lit_string, CondW_true, CondW_false, GrdV_true, GrdV_false, GrdL_true, GrdL_false, vc_move, vc_assign, vc_load, vc_store, vc_field, vc_indexAddr, vc_index, vc_box, vc_alloc, vc_build, vc_buildSlice, vc_makeSlice, vc_slice, vc_extract, vc_unOp, vc_convert, vc_bin, vc_pick, vc_call, vc_append, vc_len, vc_min, vc_max, vc_copy, vc_clear, pickK_true, pickK_false, stK_eq, not_bool, min_i64, max_i64, min_u16, max_u16, extract_tuple, vc_nil, nilK_ptr, int_add, int_sub, int_mul, int_eql, int_neq, int_lss, int_leq, int_gtr, int_geq, u8_add, u8_sub, u8_mul, u8_eql, u8_neq, u8_lss, u8_leq, u8_gtr, u8_geq, u16_add, u16_sub, u16_mul, u16_eql, u16_neq, u16_lss, u16_leq, u16_gtr, u16_geq, u32_add, u32_sub, u32_mul, u32_eql, u32_neq, u32_lss, u32_leq, u32_gtr, u32_geq, u64_add, u64_sub, u64_mul, u64_eql, u64_neq, u64_lss, u64_leq, u64_gtr, u64_geq, u8_and, u8_or, u8_xor, u8_andNot, u64_and, u64_or, u64_xor, u64_andNot, u8_shl_u8, u8_shl_u16, u8_shl_u64, u32_shl_u8, u32_shl_u16, u32_shl_u64, u64_shl_u8, u64_shl_u16, u64_shl_u64, u8_shr_u8, u8_shr_u16, u8_shr_u64, u64_shr_u8, u64_shr_u16, u64_shr_u64, u16_quo8, u16_rem8, u16_quo64, u16_rem64, u64_quo8, u64_rem8, u64_quo64, u64_rem64, u32_quo8, u32_rem8, u32_quo64, u32_rem64, int_quo2, int_rem2, int_quo8, int_rem8, int_quo64, int_rem64, u64_shrN, u64_shlN, fold64, fold32, i64_shl_u8, i16_eql, i16_neq, i16_lss, i16_geq, Nat.reduceEqDiff, Nat.reduceLT, Nat.reduceAdd, Nat.reduceMul, Nat.reduceSub, ↓reduceIte, if_true, if_false, eq_self, true_and, and_true, Bool.false_eq_true, Bool.not_true, Bool.not_false, reduceCtorEq, upd_get, List.getElem?_toArray, List.getElem?_cons_zero, List.getElem?_cons_succ, Option.bind_some, rdK_some, List.map_toArray, List.map_cons, List.map_nil, rd_upd, rdO_fblk, wrOk_fblk, wrO_fblk, lget_zero, lget_succ, upd_upd, agg_cells, cells_of_list, List.length_cons, List.length_nil, Nat.add_zero, pv_cells, pl_len, pl_0, pl_1, pl_2, pl_3, pl_4, pl_5, pv_fold, pv_eta, ov_eta, opv_eta, ov_cells, ol_len, ov_fold, opv_cells, opl_len, opv_fold, st_pv, st_ov, st_opv, ol_0, ol_1, ol_2, ol_3, ol_4, ol_5, ol_6, ol_7, ol_8, ol_9, opl_0, opl_1, opl_2, opl_3, opl_4, opl_5, opl_6, opl_7, wrsOk_fblk, wrsO_fblk, fblk_all, Nat.reduceLeDiff, Nat.zero_add, rdsK2, rdsK4, rdsK6, rdsK8, rdsK10, wrsK_nil, wrsK_cons, oneCell_u8, oneCell_u16, oneCell_u32, oneCell_u64, oneCell_i16, oneCell_int, oneCell_bool, oneCell_ptr, oneCell_pointer, oneCell_sl, oneCell_slice, oneCell_string, box_eq, List.all_cons, List.all_nil, Bool.and_self, Ex1_eq, Ex1_and, endQ, resH, res_tmp, res_cell, resC_ptr, tupleOf, Fabg.results160, k_u16_1, fa_57_1, ld_55, len_55, lenS_55, call_102, ix_55_int, ix_55_u8, ix_55_u16, ix_55_i16, fa_62_0, ldN_60, call_111, call_134, fa_57_0, ld_26, cv_50_3, len_26, lenS_26, st_26, t0, t2, t10, t11, q, q2]
    | refine (ca).use ?_
    | refine (ca).useQ ?_
    | refine W_drawL (id := 8) (by kernel_rfl) [0, 0, 0, 0, 0, 0, 0, 0, 0, 0, 0, 0, 0, 0, 0, 0, 2] (by kernel_rfl) ?_
    | refine Alloc.mono ?_
    | (refine CondW_intro (fun hc => ?_) (fun hc => ?_) <;> (try simp only [Bool.not_eq_true', Bool.not_eq_false'] at hc) <;> (try simp only [hc]))
    | (refine GrdV_intro (fun hc => ?_) (fun hc => ?_) <;> (try simp only [Bool.not_eq_true', Bool.not_eq_false'] at hc) <;> (try simp only [hc]))
    | (refine GrdL_intro (fun hc => ?_) (fun hc => ?_) <;> (try simp only [Bool.not_eq_true', Bool.not_eq_false'] at hc) <;> (try simp only [hc]))))
      exact ⟨m - 1, by omega, k + 1, by omega, by rw [en], rfl⟩
    rw [hal] at ca
    by_cases hk0 : 0 < k
    rotate_left
    · have q3 : decide ((k : Int) > 0) = false := decide_eq_false (by omega)
      rw [if_neg (by intro h; exact hk0 h.2.1)] at en
      (repeat' (first
    | simp -implicitDefEqProofs only [WV_seq, WV_cond, WV_block, WV_skip, WV_ret, WV_exit, WV_region, WV_draw, WV_loop, thenQ_normal, thenQ_ret, thenQ_exit, blockQ_normal, blockQ_ret, blockQ_exit, V_nil, V_cons, KV_eq, VL_nil, VL_cons, KL_eq, vcl_zero, vcl_one, vcl_two, isV_same, isV_eq, monoK_eq, dOk, put, gd_none, gd_some, gdst_eq, gdv_some, gdB_true, gdB_false, gdB_undef, ev_const, ev_tmp, lit_i64, lit_i32, lit_bool, lit_pointer, lit_slice, lit_string, CondW_true, CondW_false, GrdV_true, GrdV_false, GrdL_true, GrdL_false, vc_move, vc_assign, vc_load, vc_store, vc_field, vc_indexAddr, vc_index, vc_box, vc_alloc, vc_build, vc_buildSlice, vc_makeSlice, vc_slice, vc_extract, vc_unOp, vc_convert, vc_bin, vc_pick, vc_call, vc_append, vc_len, vc_min, vc_max, vc_copy, vc_clear, pickK_true, pickK_false, stK_eq, not_bool, min_i64, max_i64, min_u16, max_u16, extract_tuple, vc_nil, nilK_ptr, int_add, int_sub, int_mul, int_eql, int_neq, int_lss, int_leq, int_gtr, int_geq, u8_add, u8_sub, u8_mul, u8_eql, u8_neq, u8_lss, u8_leq, u8_gtr, u8_geq, u16_add, u16_sub, u16_mul, u16_eql, u16_neq, u16_lss, u16_leq, u16_gtr, u16_geq, u32_add, u32_sub, u32_mul, u32_eql, u32_neq, u32_lss, u32_leq, u32_gtr, u32_geq, u64_add, u64_sub, u64_mul, u64_eql, u64_neq, u64_lss, u64_leq, u64_gtr, u64_geq, u8_and, u8_or, u8_xor, u8_andNot, u64_and, u64_or, u64_xor, u64_andNot, u8_shl_u8, u8_shl_u16, u8_shl_u64, u32_shl_u8, u32_shl_u16, u32_shl_u64, u64_shl_u8, u64_shl_u16, u64_shl_u64, u8_shr_u8, u8_shr_u16, u8_shr_u64, u64_shr_u8, u64_shr_u16, u64_shr_u64, u16_quo8, u16_rem8, u16_quo64, u16_rem64, u64_quo8, u64_rem8, u64_quo64, u64_rem64, u32_quo8, u32_rem8, u32_quo64, u32_rem64, int_quo2, int_rem2, int_quo8, int_rem8, int_quo64, int_rem64, u64_shrN, u64_shlN, fold64, fold32, i64_shl_u8, i16_eql, i16_neq, i16_lss, i16_geq, Nat.reduceEqDiff, Nat.reduceLT, Nat.reduceAdd, Nat.reduceMul, Nat.reduceSub, ↓reduceIte, if_true, if_false, eq_self, true_and, and_true, Bool.false_eq_true, Bool.not_true, Bool.not_false, reduceCtorEq, upd_get, List.getElem?_toArray, List.getElem?_cons_zero, List.getElem?_cons_succ, Option.bind_some, rdK_some, List.map_toArray, List.map_cons, List.map_nil, rd_upd, rdO_fblk, wrOk_fblk, wrO_fblk, lget_zero, lget_succ, upd_upd, agg_cells, cells_of_list, List.length_cons, List.length_nil, Nat.add_zero, pv_cells, pl_len, pl_0, pl_1, pl_2, pl_3, pl_4, pl_5, pv_fold, pv_eta, ov_eta, opv_eta, ov_cells, ol_len, ov_fold, opv_cells, opl_len, opv_fold, st_pv, st_ov, st_opv, ol_0, ol_1, ol_2, ol_3, ol_4, ol_5, ol_6, ol_7, ol_8, ol_9, opl_0, opl_1, opl_2, opl_3, opl_4, opl_5, opl_6, opl_7, wrsOk_fblk, wrsO_fblk, fblk_all, Nat.reduceLeDiff, Nat.zero_add, rdsK2, rdsK4, rdsK6, rdsK8, rdsK10, wrsK_nil, wrsK_cons, oneCell_u8, oneCell_u16, oneCell_u32, oneCell_u64, oneCell_i16, oneCell_int, oneCell_bool, oneCell_ptr, oneCell_pointer, oneCell_sl, oneCell_slice, oneCell_string, box_eq, List.all_cons, List.all_nil, Bool.and_self, Ex1_eq, Ex1_and, endQ, resH, res_tmp, res_cell, resC_ptr, tupleOf, Fabg.results160, k_u16_1, fa_57_1, ld_55, len_55, lenS_55, call_102, ix_55_int, ix_55_u8, ix_55_u16, ix_55_i16, fa_62_0, ldN_60, call_111, call_134, fa_57_0, ld_26, cv_50_3, len_26, lenS_26, st_26, t0, t2, t10, t11, q, q2, q3]
    | refine (ca).use ?_
    | refine (ca).useQ ?_
    | refine W_drawL (id := 8) (by kernel_rfl) [0, 0, 0, 0, 0, 0, 0, 0, 0, 0, 0, 0, 0, 0, 0, 0, 2] (by kernel_rfl) ?_
    | refine Alloc.mono ?_
    | (refine CondW_intro (fun hc => ?_) (fun hc => ?_) <;> (try simp only [Bool.not_eq_true', Bool.not_eq_false'] at hc) <;> (try simp only [hc]))
    | (refine GrdV_intro (fun hc => ?_) (fun hc => ?_) <;> (try simp only [Bool.not_eq_true', Bool.not_eq_false'] at hc) <;> (try simp only [hc]))
    | (refine GrdL_intro (fun hc => ?_) (fun hc => ?_) <;> (try simp only [Bool.not_eq_true', Bool.not_eq_false'] at hc) <;> (try simp only [hc]))))
      exact ⟨m - 1, by omega, k + 1, by omega, by rw [en], rfl⟩
    have q3 : decide ((k : Int) > 0) = true := decide_eq_true (by omega)
    cases hw : wlessB (S.O k).p
    rotate_left
    · rw [hw] at cw
      rw [if_neg (by rw [hw]; simp)] at en
      (repeat' (first
    | simp -implicitDefEqProofs only [WV_seq, WV_cond, WV_block, WV_skip, WV_ret, WV_exit, WV_region, WV_draw, WV_loop, thenQ_normal, thenQ_ret, thenQ_exit, blockQ_normal, blockQ_ret, blockQ_exit, V_nil, V_cons, KV_eq, VL_nil, VL_cons, KL_eq, vcl_zero, vcl_one, vcl_two, isV_same, isV_eq, monoK_eq, dOk, put, gd_none, gd_some, gdst_eq, gdv_some, gdB_true, gdB_false, gdB_undef, ev_const, ev_tmp, lit_i64, lit_i32, lit_bool, lit_pointer, lit_slice, lit_string, CondW_true, CondW_false, GrdV_true, GrdV_false, GrdL_true, GrdL_false, vc_move, vc_assign, vc_load, vc_store, vc_field, vc_indexAddr, vc_index, vc_box, vc_alloc, vc_build, vc_buildSlice, vc_makeSlice, vc_slice, vc_extract, vc_unOp, vc_convert, vc_bin, vc_pick, vc_call, vc_append, vc_len, vc_min, vc_max, vc_copy, vc_clear, pickK_true, pickK_false, stK_eq, not_bool, min_i64, max_i64, min_u16, max_u16, extract_tuple, vc_nil, nilK_ptr, int_add, int_sub, int_mul, int_eql, int_neq, int_lss, int_leq, int_gtr, int_geq, u8_add, u8_sub, u8_mul, u8_eql, u8_neq, u8_lss, u8_leq, u8_gtr, u8_geq, u16_add, u16_sub, u16_mul, u16_eql, u16_neq, u16_lss, u16_leq, u16_gtr, u16_geq, u32_add, u32_sub, u32_mul, u32_eql, u32_neq, u32_lss, u32_leq, u32_gtr, u32_geq, u64_add, u64_sub, u64_mul, u64_eql, u64_neq, u64_lss, u64_leq, u64_gtr, u64_geq, u8_and, u8_or, u8_xor, u8_andNot, u64_and, u64_or, u64_xor, u64_andNot, u8_shl_u8, u8_shl_u16, u8_shl_u64, u32_shl_u8, u32_shl_u16, u32_shl_u64, u64_shl_u8, u64_shl_u16, u64_shl_u64, u8_shr_u8, u8_shr_u16, u8_shr_u64, u64_shr_u8, u64_shr_u16, u64_shr_u64, u16_quo8, u16_rem8, u16_quo64, u16_rem64, u64_quo8, u64_rem8, u64_quo64, u64_rem64, u32_quo8, u32_rem8, u32_quo64, u32_rem64, int_quo2, int_rem2, int_quo8, int_rem8, int_quo64, int_rem64, u64_shrN, u64_shlN, fold64, fold32, i64_shl_u8, i16_eql, i16_neq, i16_lss, i16_geq, Nat.reduceEqDiff, Nat.reduceLT, Nat.reduceAdd, Nat.reduceMul, Nat.reduceSub, ↓reduceIte, if_true, if_false, eq_self, true_and, and_true, Bool.false_eq_true, Bool.not_true, Bool.not_false, reduceCtorEq, upd_get, List.getElem?_toArray, List.getElem?_cons_zero, List.getElem?_cons_succ, Option.bind_some, rdK_some, List.map_toArray, List.map_cons, List.map_nil, rd_upd, rdO_fblk, wrOk_fblk, wrO_fblk, lget_zero, lget_succ, upd_upd, agg_cells, cells_of_list, List.length_cons, List.length_nil, Nat.add_zero, pv_cells, pl_len, pl_0, pl_1, pl_2, pl_3, pl_4, pl_5, pv_fold, pv_eta, ov_eta, opv_eta, ov_cells, ol_len, ov_fold, opv_cells, opl_len, opv_fold, st_pv, st_ov, st_opv, ol_0, ol_1, ol_2, ol_3, ol_4, ol_5, ol_6, ol_7, ol_8, ol_9, opl_0, opl_1, opl_2, opl_3, opl_4, opl_5, opl_6, opl_7, wrsOk_fblk, wrsO_fblk, fblk_all, Nat.reduceLeDiff, Nat.zero_add, rdsK2, rdsK4, rdsK6, rdsK8, rdsK10, wrsK_nil, wrsK_cons, oneCell_u8, oneCell_u16, oneCell_u32, oneCell_u64, oneCell_i16, oneCell_int, oneCell_bool, oneCell_ptr, oneCell_pointer, oneCell_sl, oneCell_slice, oneCell_string, box_eq, List.all_cons, List.all_nil, Bool.and_self, Ex1_eq, Ex1_and, endQ, resH, res_tmp, res_cell, resC_ptr, tupleOf, Fabg.results160, k_u16_1, fa_57_1, ld_55, len_55, lenS_55, call_102, ix_55_int, ix_55_u8, ix_55_u16, ix_55_i16, fa_62_0, ldN_60, call_111, call_134, fa_57_0, ld_26, cv_50_3, len_26, lenS_26, st_26, t0, t2, t10, t11, q, q2, q3, q5, decide_true, r1', p0, p1, p2, p3, p4, p5, Int.natCast_nonneg, Int.toNat_natCast]
    | refine (ca).use ?_
    | refine (ca).useQ ?_
    | refine (cw).use ?_
    | refine (cw).useQ ?_
    | refine W_drawL (id := 8) (by kernel_rfl) [0, 0, 0, 0, 0, 0, 0, 0, 0, 0, 0, 0, 0, 0, 0, 0, 2] (by kernel_rfl) ?_
    | refine Alloc.mono ?_
    | (refine CondW_intro (fun hc => ?_) (fun hc => ?_) <;> (try simp only [Bool.not_eq_true', Bool.not_eq_false'] at hc) <;> (try simp only [hc]))
    | (refine GrdV_intro (fun hc => ?_) (fun hc => ?_) <;> (try simp only [Bool.not_eq_true', Bool.not_eq_false'] at hc) <;> (try simp only [hc]))
    | (refine GrdL_intro (fun hc => ?_) (fun hc => ?_) <;> (try simp only [Bool.not_eq_true', Bool.not_eq_false'] at hc) <;> (try simp only [hc]))))
      exact ⟨m - 1, by omega, k + 1, by omega, by rw [en], rfl⟩
    · rw [hw] at cw
      rw [if_pos ⟨hal, hk0, hw⟩] at en
      (repeat' (first
    | simp -implicitDefEqProofs only [WV_seq, WV_cond, WV_block, WV_skip, WV_ret, WV_exit, WV_region, WV_draw, WV_loop, thenQ_normal, thenQ_ret, thenQ_exit, blockQ_normal, blockQ_ret, blockQ_exit, V_nil, V_cons, KV_eq, VL_nil, VL_cons, KL_eq, vcl_zero, vcl_one, vcl_two, isV_same, isV_eq, monoK_eq, dOk, put, gd_none, gd_some, gdst_eq, gdv_some, gdB_true, gdB_false, gdB_undef, ev_const, ev_tmp, lit_i64, lit_i32, lit_bool, lit_pointer, lit_slice, lit_string, CondW_true, CondW_false, GrdV_true, GrdV_false, GrdL_true, GrdL_false, vc_move, vc_assign, vc_load, vc_store, vc_field, vc_indexAddr, vc_index, vc_box, vc_alloc, vc_build, vc_buildSlice, vc_makeSlice, vc_slice, vc_extract, vc_unOp, vc_convert, vc_bin, vc_pick, vc_call, vc_append, vc_len, vc_min, vc_max, vc_copy, vc_clear, pickK_true, pickK_false, stK_eq, not_bool, min_i64, max_i64, min_u16, max_u16, extract_tuple, vc_nil, nilK_ptr, int_add, int_sub, int_mul, int_eql, int_neq, int_lss, int_leq, int_gtr, int_geq, u8_add, u8_sub, u8_mul, u8_eql, u8_neq, u8_lss, u8_leq, u8_gtr, u8_geq, u16_add, u16_sub, u16_mul, u16_eql, u16_neq, u16_lss, u16_leq, u16_gtr, u16_geq, u32_add, u32_sub, u32_mul, u32_eql, u32_neq, u32_lss, u32_leq, u32_gtr, u32_geq, u64_add, u64_sub, u64_mul, u64_eql, u64_neq, u64_lss, u64_leq, u64_gtr, u64_geq, u8_and, u8_or, u8_xor, u8_andNot, u64_and, u64_or, u64_xor, u64_andNot, u8_shl_u8, u8_shl_u16, u8_shl_u64, u32_shl_u8, u32_shl_u16, u32_shl_u64, u64_shl_u8, u64_shl_u16, u64_shl_u64, u8_shr_u8, u8_shr_u16, u8_shr_u64, u64_shr_u8, u64_shr_u16, u64_shr_u64, u16_quo8, u16_rem8, u16_quo64, u16_rem64, u64_quo8, u64_rem8, u64_quo64, u64_rem64, u32_quo8, u32_rem8, u32_quo64, u32_rem64, int_quo2, int_rem2, int_quo8, int_rem8, int_quo64, int_rem64, u64_shrN, u64_shlN, fold64, fold32, i64_shl_u8, i16_eql, i16_neq, i16_lss, i16_geq, Nat.reduceEqDiff, Nat.reduceLT, Nat.reduceAdd, Nat.reduceMul, Nat.reduceSub, ↓reduceIte, if_true, if_false, eq_self, true_and, and_true, Bool.false_eq_true, Bool.not_true, Bool.not_false, reduceCtorEq, upd_get, List.getElem?_toArray, List.getElem?_cons_zero, List.getElem?_cons_succ, Option.bind_some, rdK_some, List.map_toArray, List.map_cons, List.map_nil, rd_upd, rdO_fblk, wrOk_fblk, wrO_fblk, lget_zero, lget_succ, upd_upd, agg_cells, cells_of_list, List.length_cons, List.length_nil, Nat.add_zero, pv_cells, pl_len, pl_0, pl_1, pl_2, pl_3, pl_4, pl_5, pv_fold, pv_eta, ov_eta, opv_eta, ov_cells, ol_len, ov_fold, opv_cells, opl_len, opv_fold, st_pv, st_ov, st_opv, ol_0, ol_1, ol_2, ol_3, ol_4, ol_5, ol_6, ol_7, ol_8, ol_9, opl_0, opl_1, opl_2, opl_3, opl_4, opl_5, opl_6, opl_7, wrsOk_fblk, wrsO_fblk, fblk_all, Nat.reduceLeDiff, Nat.zero_add, rdsK2, rdsK4, rdsK6, rdsK8, rdsK10, wrsK_nil, wrsK_cons, oneCell_u8, oneCell_u16, oneCell_u32, oneCell_u64, oneCell_i16, oneCell_int, oneCell_bool, oneCell_ptr, oneCell_pointer, oneCell_sl, oneCell_slice, oneCell_string, box_eq, List.all_cons, List.all_nil, Bool.and_self, Ex1_eq, Ex1_and, endQ, resH, res_tmp, res_cell, resC_ptr, tupleOf, Fabg.results160, k_u16_1, fa_57_1, ld_55, len_55, lenS_55, call_102, ix_55_int, ix_55_u8, ix_55_u16, ix_55_i16, fa_62_0, ldN_60, call_111, call_134, fa_57_0, ld_26, cv_50_3, len_26, lenS_26, st_26, t0, t2, t10, t11, q, q2, q3, q5, decide_true, r1', p0, p1, p2, p3, p4, p5, Int.natCast_nonneg, Int.toNat_natCast]
    | refine (ca).use ?_
    | refine (ca).useQ ?_
    | refine (cw).use ?_
    | refine (cw).useQ ?_
    | refine (extent_ok _ _).use ?_
    | refine (extent_ok _ _).useQ ?_
    | refine W_drawL (id := 8) (by kernel_rfl) [0, 0, 0, 0, 0, 0, 0, 0, 0, 0, 0, 0, 0, 0, 0, 0, 2] (by kernel_rfl) ?_
    | refine Alloc.mono ?_
    | (refine CondW_intro (fun hc => ?_) (fun hc => ?_) <;> (try simp only [Bool.not_eq_true', Bool.not_eq_false'] at hc) <;> (try simp only [hc]))
    | (refine GrdV_intro (fun hc => ?_) (fun hc => ?_) <;> (try simp only [Bool.not_eq_true', Bool.not_eq_false'] at hc) <;> (try simp only [hc]))
    | (refine GrdL_intro (fun hc => ?_) (fun hc => ?_) <;> (try simp only [Bool.not_eq_true', Bool.not_eq_false'] at hc) <;> (try simp only [hc]))))
      exact ⟨m - 1, by omega, k + 1, by omega, by rw [en], rfl⟩
  · exact ⟨0, by omega, rfl, by simp [upd_get], by simp [upd_get, endN], by simp [upd_get], by simp [upd_get]⟩
  · rintro T G' ⟨rfl, t0, t2⟩
    obtain ⟨ba, cap, vo, a1, a2, a3, a4, a5⟩ := hC.cut h0
    have e1 : min ((endN S S.cnt).toNat : Int) (S.len : Int) = ((min (endN S S.cnt).toNat S.len : Nat) : Int) := by omega
    have es : ∀ (k : Value → Heap → Prop), runH Fabg.prog (Instr.sliceAt 26 (sl ba 0 S.len cap) none (some (.int .i64 (min (endN S S.cnt).toNat S.len : Nat))) none) G' k = k (sl ba 0 (min (endN S S.cnt).toNat S.len) cap) G' := fun k => sl1_26 (by omega)
    (repeat' (first
    | simp -implicitDefEqProofs only [WV_seq, WV_cond, WV_block, WV_skip, WV_ret, WV_exit, WV_region, WV_draw, WV_loop, thenQ_normal, thenQ_ret, thenQ_exit, blockQ_normal, blockQ_ret, blockQ_exit, V_nil, V_cons, KV_eq, VL_nil, VL_cons, KL_eq, vcl_zero, vcl_one, vcl_two, isV_same, isV_eq, monoK_eq, dOk, put, gd_none, gd_some, gdst_eq, gdv_some, gdB_true, gdB_false, gdB_undef, ev_const, ev_tmp, lit_i64, lit_i32, lit_bool, lit_pointer, lit_slice, lit_string, CondW_true, CondW_false, GrdV_true, GrdV_false, GrdL_true, GrdL_false, vc_move, vc_assign, vc_load, vc_store, vc_field, vc_indexAddr, vc_index, vc_box, vc_alloc, vc_build, vc_buildSlice, vc_makeSlice, vc_slice, vc_extract, vc_unOp, vc_convert, vc_bin, vc_pick, vc_call, vc_append, vc_len, vc_min, vc_max, vc_copy, vc_clear, pickK_true, pickK_false, stK_eq, not_bool, min_i64, max_i64, min_u16, max_u16, extract_tuple, vc_nil, nilK_ptr, int_add, int_sub, int_mul, int_eql, int_neq, int_lss, int_leq, int_gtr, int_geq, u8_add, u8_sub, u8_mul, u8_eql, u8_neq, u8_lss, u8_leq, u8_gtr, u8_geq, u16_add, u16_sub, u16_mul, u16_eql, u16_neq, u16_lss, u16_leq, u16_gtr, u16_geq, u32_add, u32_sub, u32_mul, u32_eql, u32_neq, u32_lss, u32_leq, u32_gtr, u32_geq, u64_add, u64_sub, u64_mul, u64_eql, u64_neq, u64_lss, u64_leq, u64_gtr, u64_geq, u8_and, u8_or, u8_xor, u8_andNot, u64_and, u64_or, u64_xor, u64_andNot, u8_shl_u8, u8_shl_u16, u8_shl_u64, u32_shl_u8, u32_shl_u16, u32_shl_u64, u64_shl_u8, u64_shl_u16, u64_shl_u64, u8_shr_u8, u8_shr_u16, u8_shr_u64, u64_shr_u8, u64_shr_u16, u64_shr_u64, u16_quo8, u16_rem8, u16_quo64, u16_rem64, u64_quo8, u64_rem8, u64_quo64, u64_rem64, u32_quo8, u32_rem8, u32_quo64, u32_rem64, int_quo2, int_rem2, int_quo8, int_rem8, int_quo64, int_rem64, u64_shrN, u64_shlN, fold64, fold32, i64_shl_u8, i16_eql, i16_neq, i16_lss, i16_geq, Nat.reduceEqDiff, Nat.reduceLT, Nat.reduceAdd, Nat.reduceMul, Nat.reduceSub, ↓reduceIte, if_true, if_false, eq_self, true_and, and_true, Bool.false_eq_true, Bool.not_true, Bool.not_false, reduceCtorEq, upd_get, List.getElem?_toArray, List.getElem?_cons_zero, List.getElem?_cons_succ, Option.bind_some, rdK_some, List.map_toArray, List.map_cons, List.map_nil, rd_upd, rdO_fblk, wrOk_fblk, wrO_fblk, lget_zero, lget_succ, upd_upd, agg_cells, cells_of_list, List.length_cons, List.length_nil, Nat.add_zero, pv_cells, pl_len, pl_0, pl_1, pl_2, pl_3, pl_4, pl_5, pv_fold, pv_eta, ov_eta, opv_eta, ov_cells, ol_len, ov_fold, opv_cells, opl_len, opv_fold, st_pv, st_ov, st_opv, ol_0, ol_1, ol_2, ol_3, ol_4, ol_5, ol_6, ol_7, ol_8, ol_9, opl_0, opl_1, opl_2, opl_3, opl_4, opl_5, opl_6, opl_7, wrsOk_fblk, wrsO_fblk, fblk_all, Nat.reduceLeDiff, Nat.zero_add, rdsK2, rdsK4, rdsK6, rdsK8, rdsK10, wrsK_nil, wrsK_cons, oneCell_u8, oneCell_u16, oneCell_u32, oneCell_u64, oneCell_i16, oneCell_int, oneCell_bool, oneCell_ptr, oneCell_pointer, oneCell_sl, oneCell_slice, oneCell_string, box_eq, List.all_cons, List.all_nil, Bool.and_self, Ex1_eq, Ex1_and, endQ, resH, res_tmp, res_cell, resC_ptr, tupleOf, Fabg.results160, k_u16_1, fa_57_1, ld_55, len_55, lenS_55, call_102, ix_55_int, ix_55_u8, ix_55_u16, ix_55_i16, fa_62_0, ldN_60, call_111, call_134, fa_57_0, ld_26, cv_50_3, len_26, lenS_26, st_26, t0, t2, a1, e1, Option.map_some, Option.map_none, es, a3, l2_0]
    | refine W_drawL (id := 8) (by kernel_rfl) [0, 0, 0, 0, 0, 0, 0, 0, 0, 0, 0, 0, 0, 0, 0, 0, 2] (by kernel_rfl) ?_
    | refine Alloc.mono ?_
    | (refine CondW_intro (fun hc => ?_) (fun hc => ?_) <;> (try simp only [Bool.not_eq_true', Bool.not_eq_false'] at hc) <;> (try simp only [hc]))
    | (refine GrdV_intro (fun hc => ?_) (fun hc => ?_) <;> (try simp only [Bool.not_eq_true', Bool.not_eq_false'] at hc) <;> (try simp only [hc]))
    | (refine GrdL_intro (fun hc => ?_) (fun hc => ?_) <;> (try simp only [Bool.not_eq_true', Bool.not_eq_false'] at hc) <;> (try simp only [hc]))))
    exact ⟨_, Le.refl _, a5 _ (by omega)⟩

/-- the same objects, some of them dead -/
structure SameO (S S' : Ed) : Prop where
  len : S'.len = S.len
  cnt : S'.cnt = S.cnt
  p : ∀ k, (S'.O k).p = (S.O k).p
  up : ∀ k, (S'.O k).up = (S.O k).up
  via : ∀ k, (S'.O k).via = (S.O k).via
  elem : ∀ k, (S'.O k).elem = (S.O k).elem
  dead : ∀ k, (S'.O k).dead = false → (S.O k).dead = false
theorem SameO.refl (S : Ed) : SameO S S := ⟨rfl, rfl, fun _ => rfl, fun _ => rfl, fun _ => rfl, fun _ => rfl, fun _ h => h⟩
theorem SameO.trans {S S' S'' : Ed} (h : SameO S S') (h' : SameO S' S'') : SameO S S'' :=
  ⟨h'.len.trans h.len, h'.cnt.trans h.cnt, fun k => (h'.p k).trans (h.p k), fun k => (h'.up k).trans (h.up k), fun k => (h'.via k).trans (h.via k), fun k => (h'.elem k).trans (h.elem k), fun k hk => h.dead k (h'.dead k hk)⟩
theorem same_killE (S : Ed) (h : Int) : SameO S (killE S h) := by
  have key : ∀ k, (killE S h).O k = S.O k ∨ (killE S h).O k = { S.O k with dead := true } := by
    intro k
    show delO S (goneB S h) S.cnt k = _ ∨ delO S (goneB S h) S.cnt k = _
    unfold delO
    split
    · exact .inr rfl
    · exact .inl rfl
  refine ⟨rfl, rfl, fun k => ?_, fun k => ?_, fun k => ?_, fun k => ?_, fun k => ?_⟩ <;> (rcases key k with e | e <;> rw [e])
  · exact id
  · intro h; cases h
theorem cends_same {S S' : Ed} (h : SameO S S') : ∀ n u, Cends S n u → Cends S' n u
  | 0, _, hc => hc
  | n + 1, u, hc => by
    rcases hc with hc | ⟨h1, h2⟩
    · exact .inl hc
    · refine .inr ⟨by rw [h.cnt]; exact h1, ?_⟩
      have e : upI S' u = upI S u := by unfold upI; rw [h.up]
      rw [e]
      exact cends_same h n _ h2
def trGo (S : Ed) (op : OpR) (k : Nat) : Bool := aliveB S (k : Nat) && ((S.O k).up == Int16.ofInt (op.h.toNat : Int) && decide ((S.O k).via.toUInt16 ≥ op.n))
def trK (S : Ed) (op : OpR) : Nat → Ed
  | 0 => S
  | k + 1 => if trGo (trK S op k) op k = true then killE (trK S op k) (k : Nat) else trK S op k
theorem same_trK (S : Ed) (op : OpR) : ∀ k, SameO S (trK S op k)
  | 0 => SameO.refl S
  | k + 1 => by
    rw [trK]
    split
    · exact (same_trK S op k).trans (same_killE _ _)
    · exact same_trK S op k
def cntP (p : Ptr) (n : UInt16) : Ptr := { p with count := n }
def tr2 (S : Ed) (lo hi : Nat) : Ed := { S with A := fun i => if lo ≤ i ∧ i < hi then 0 else S.A i }
def tr3 (S : Ed) (p : Ptr) (at_ : Nat) : Ed := if elSize p * p.count % 8 = 0 then S else { S with A := upd S.A at_ (takeL (S.A at_) 0 (elSize p * p.count % 8 * 8).toUInt8) }
def tr4 (S : Ed) (p : Ptr) : Ed := if p.code = 7 then { S with A := upd S.A (firstL p).toNat (makeTagL p.count p.data p.ptrs) } else S
def tr5 (S : Ed) (h : Nat) (p : Ptr) : Ed := { S with O := upd S.O h { S.O h with p := p } }
def tr6 (S : Ed) (h : Nat) (p : Ptr) : Ed :=
  if 0 ≤ (S.O h).up.toInt then { S with A := upd S.A (slotOf S h).1.toNat (pointerL (slotOf S h).1 p) } else S
def tr7 (S : Ed) (e : Nat) : Ed := if e = S.len then shrinkE S else S
def truncE (S : Ed) (op : OpR) : Bool × Ed :=
  if (S.O op.h.toNat).p.kind ≠ 2 ∨ op.n > (S.O op.h.toNat).p.count then (false, S)
  else (true, tr7 (tr6 (tr5 (tr4 (tr3 (tr2 (trK S op S.cnt) (firstL (S.O op.h.toNat).p + wordsL (cntP (S.O op.h.toNat).p op.n)).toNat (firstL (S.O op.h.toNat).p + wordsL (S.O op.h.toNat).p).toNat) (cntP (S.O op.h.toNat).p op.n) (firstL (S.O op.h.toNat).p + wordsL (cntP (S.O op.h.toNat).p op.n) - 1).toNat) (cntP (S.O op.h.toNat).p op.n)) op.h.toNat (cntP (S.O op.h.toNat).p op.n)) op.h.toNat (cntP (S.O op.h.toNat).p op.n)) (firstL (S.O op.h.toNat).p + wordsL (S.O op.h.toNat).p).toNat)
theorem tr3_keep (S : Ed) (p : Ptr) (a : Nat) : (tr3 S p a).len = S.len ∧ (tr3 S p a).cnt = S.cnt ∧ (tr3 S p a).O = S.O := by unfold tr3; split <;> exact ⟨rfl, rfl, rfl⟩
theorem tr4_keep (S : Ed) (p : Ptr) : (tr4 S p).len = S.len ∧ (tr4 S p).cnt = S.cnt ∧ (tr4 S p).O = S.O := by unfold tr4; split <;> exact ⟨rfl, rfl, rfl⟩
theorem pl_upd5 (p : Ptr) (a : UInt16) (e : TypeId) : fblk 6 (upd (lget (pl p)) 5 (u16 a)) e = fblk 6 (lget (pl (cntP p a))) e := by
  apply fblk_congr
  intro i hi
  match i, hi with
  | 0, _ => rfl
  | 1, _ => rfl
  | 2, _ => rfl
  | 3, _ => rfl
  | 4, _ => rfl
  | 5, _ => rfl
theorem slotB_congr {S S' : Ed} {h i : UInt8} (h1 : (S'.O h.toNat).p = (S.O h.toNat).p) (h2 : S'.len = S.len) : slotB S' h i = slotB S h i := by unfold slotB; rw [h1, h2]
structure TrH (S : Ed) (op : OpR) : Prop where
  kills : ∀ k, k < S.cnt → (S.O k).dead = false → Cends S 40 (k : Nat)
  range : ∀ k, k < S.cnt → (S.O k).dead = false → (firstL (S.O k).p).toNat + (wordsL (S.O k).p).toNat ≤ S.len
  live : (S.O op.h.toNat).dead = false
  less : (S.O op.h.toNat).p.kind = 2 → op.n ≤ (S.O op.h.toNat).p.count → (wordsL (cntP (S.O op.h.toNat).p op.n)).toNat ≤ (wordsL (S.O op.h.toNat).p).toNat ∧
    (elSize (S.O op.h.toNat).p * op.n % 8 ≠ 0 → 1 ≤ (wordsL (cntP (S.O op.h.toNat).p op.n)).toNat) ∧ ((S.O op.h.toNat).p.code = 7 → 1 ≤ (wordsL (S.O op.h.toNat).p).toNat)
  slot : (S.O op.h.toNat).p.kind = 2 → 0 ≤ (S.O op.h.toNat).up.toInt → (toU8 (S.O op.h.toNat).up.toInt).toNat ≠ op.h.toNat ∧ (toU8 (S.O op.h.toNat).up.toInt).toNat < S.cnt ∧ (slotOf S op.h.toNat).2 = true
set_option maxHeartbeats 2000000 in
theorem truncate_ok {H0 G : Heap} {eb : Nat} {S : Ed} (hC : EdH H0 G eb S) (op : OpR) (h0 : 1 ≤ S.len) (h1 : S.len ≤ 256) (h2 : S.cnt ≤ 256) (hh : op.h.toNat < S.cnt) (hT : TrH S op) :
    Fn Fabg.prog 114 #[ptr eb 0, opv op] G (fun r H' => r = .bool (truncE S op).1 ∧ EdH H0 H' eb (truncE S op).2) := by
  refine Fn_of Fabg.func114 rfl Fabg.ntmps114 (by simp) (WV_sound _ _ _ _ ?_)
  rw [argEnv2]
  simp -implicitDefEqProofs only [WV_seq, WV_cond, WV_block, WV_skip, WV_ret, WV_exit, WV_region, WV_draw, WV_loop, thenQ_normal, thenQ_ret, thenQ_exit, blockQ_normal, blockQ_ret, blockQ_exit, V_nil, V_cons, KV_eq, VL_nil, VL_cons, KL_eq, vcl_zero, vcl_one, vcl_two, isV_same, isV_eq, monoK_eq, dOk, put, gd_none, gd_some, gdst_eq, gdv_some, gdB_true, gdB_false, gdB_undef, ev_const, ev_tmp, lit_i64, lit_i32, lit_bool, lit_pointer, lit_slice, lit_string, CondW_true, CondW_false, GrdV_true, GrdV_false, GrdL_true, GrdL_false, vc_move, vc_assign, vc_load, vc_store, vc_field, vc_indexAddr, vc_index, vc_box, vc_alloc, vc_build, vc_buildSlice, vc_makeSlice, vc_slice, vc_extract, vc_unOp, vc_convert, vc_bin, vc_pick, vc_call, vc_append, vc_len, vc_min, vc_max, vc_copy, vc_clear, pickK_true, pickK_false, stK_eq, not_bool, min_i64, max_i64, min_u16, max_u16, extract_tuple, vc_nil, nilK_ptr, int_add, int_sub, int_mul, int_eql, int_neq, int_lss, int_leq, int_gtr, int_geq, u8_add, u8_sub, u8_mul, u8_eql, u8_neq, u8_lss, u8_leq, u8_gtr, u8_geq, u16_add, u16_sub, u16_mul, u16_eql, u16_neq, u16_lss, u16_leq, u16_gtr, u16_geq, u32_add, u32_sub, u32_mul, u32_eql, u32_neq, u32_lss, u32_leq, u32_gtr, u32_geq, u64_add, u64_sub, u64_mul, u64_eql, u64_neq, u64_lss, u64_leq, u64_gtr, u64_geq, u8_and, u8_or, u8_xor, u8_andNot, u64_and, u64_or, u64_xor, u64_andNot, u8_shl_u8, u8_shl_u16, u8_shl_u64, u32_shl_u8, u32_shl_u16, u32_shl_u64, u64_shl_u8, u64_shl_u16, u64_shl_u64, u8_shr_u8, u8_shr_u16, u8_shr_u64, u64_shr_u8, u64_shr_u16, u64_shr_u64, u16_quo8, u16_rem8, u16_quo64, u16_rem64, u64_quo8, u64_rem8, u64_quo64, u64_rem64, u32_quo8, u32_rem8, u32_quo64, u32_rem64, int_quo2, int_rem2, int_quo8, int_rem8, int_quo64, int_rem64, u64_shrN, u64_shlN, fold64, fold32, i64_shl_u8, i16_eql, i16_neq, i16_lss, i16_geq, Nat.reduceEqDiff, Nat.reduceLT, Nat.reduceAdd, Nat.reduceMul, Nat.reduceSub, ↓reduceIte, if_true, if_false, eq_self, true_and, and_true, Bool.false_eq_true, Bool.not_true, Bool.not_false, reduceCtorEq, upd_get, List.getElem?_toArray, List.getElem?_cons_zero, List.getElem?_cons_succ, Option.bind_some, rdK_some, List.map_toArray, List.map_cons, List.map_nil, rd_upd, rdO_fblk, wrOk_fblk, wrO_fblk, lget_zero, lget_succ, upd_upd, agg_cells, cells_of_list, List.length_cons, List.length_nil, Nat.add_zero, pv_cells, pl_len, pl_0, pl_1, pl_2, pl_3, pl_4, pl_5, pv_fold, pv_eta, ov_eta, opv_eta, ov_cells, ol_len, ov_fold, opv_cells, opl_len, opv_fold, st_pv, st_ov, st_opv, ol_0, ol_1, ol_2, ol_3, ol_4, ol_5, ol_6, ol_7, ol_8, ol_9, opl_0, opl_1, opl_2, opl_3, opl_4, opl_5, opl_6, opl_7, wrsOk_fblk, wrsO_fblk, fblk_all, Nat.reduceLeDiff, Nat.zero_add, rdsK2, rdsK4, rdsK6, rdsK8, rdsK10, wrsK_nil, wrsK_cons, oneCell_u8, oneCell_u16, oneCell_u32, oneCell_u64, oneCell_i16, oneCell_int, oneCell_bool, oneCell_ptr, oneCell_pointer, oneCell_sl, oneCell_slice, oneCell_string, box_eq, List.all_cons, List.all_nil, Bool.and_self, Ex1_eq, Ex1_and, endQ, resH, res_tmp, res_cell, resC_ptr, tupleOf, Fabg.results114, fa_52_1, ld_5, cv_5_3, fa_57_1, ld_55, ix_55_int, ix_55_u8, ix_55_u16, ix_55_i16, fa_62_0, ldN_60, al_60, stN_60, fa_60_0, k_u8_2, tn_u8_2, fa_52_5, ld_50, fa_60_5, len_55, lenS_55, call_102, fa_62_1, ld_23, cv_3_23, fa_62_2, cv_5_50, call_155, call_134, st_50, fa_57_0, ld_26, fa_60_4, call_56, k_u16_8, k_u16_0, k_u16_1, ix_26_int, ix_26_u8, ix_26_u16, ix_26_i16, ld_30, cv_50_5, call_140, k_u8_0, tn_u8_0, st_30, k_u8_7, tn_u8_7, fa_60_2, fa_60_3, call_123, k_i16_0, cv_23_5, call_110, call_121, cv_50_3, len_26, lenS_26, call_160, opv_cells, opl_len]
  refine ⟨fun b3 hb3 => ?_⟩
  have hC1 := hC.rebase (.inr hb3) (fblk 8 (lget (opl op)) 52)
  have hH0 : Le H0 (upd H0 b3 (some (fblk 8 (lget (opl op)) 52))) := (Le.refl H0).fresh (le_none hC.le0 hb3) _
  have i3 : upd H0 b3 (some (fblk 8 (lget (opl op)) 52)) b3 = some (fblk 8 (lget (opl op)) 52) := upd_same _ _ _
  generalize upd H0 b3 (some (fblk 8 (lget (opl op)) 52)) = H1 at *
  generalize upd G b3 (some (fblk 8 (lget (opl op)) 52)) = G1 at *
  obtain ⟨o0, o1, o2, o3, o4, o5, o6, o7⟩ := opAt_of (hC1.le0 _ _ i3)
  obtain ⟨aA, cA, aO, cO, hE⟩ := hC1.rdr (by omega) (by omega)
  obtain ⟨b, o, e, r1', hO⟩ := hE.obj hh
  obtain ⟨r0, r1, r2, r3, r4, r5, r6, r7, r8, r9⟩ := hO
  have q1 : (op.h.toNat < S.cnt) = True := eq_true hh
  have q1' : ((op.h.toNat : Int) < (S.cnt : Int)) = True := eq_true (by omega)
  (repeat' (first
    | simp -implicitDefEqProofs only [WV_seq, WV_cond, WV_block, WV_skip, WV_ret, WV_exit, WV_region, WV_draw, WV_loop, thenQ_normal, thenQ_ret, thenQ_exit, blockQ_normal, blockQ_ret, blockQ_exit, V_nil, V_cons, KV_eq, VL_nil, VL_cons, KL_eq, vcl_zero, vcl_one, vcl_two, isV_same, isV_eq, monoK_eq, dOk, put, gd_none, gd_some, gdst_eq, gdv_some, gdB_true, gdB_false, gdB_undef, ev_const, ev_tmp, lit_i64, lit_i32, lit_bool, lit_pointer, lit_slice, lit_string, CondW_true, CondW_false, GrdV_true, GrdV_false, GrdL_true, GrdL_false, vc_move, vc_assign, vc_load, vc_store, vc_field, vc_indexAddr, vc_index, vc_box, vc_alloc, vc_build, vc_buildSlice, vc_makeSlice, vc_slice, vc_extract, vc_unOp, vc_convert, vc_bin, vc_pick, vc_call, vc_append, vc_len, vc_min, vc_max, vc_copy, vc_clear, pickK_true, pickK_false, stK_eq, not_bool, min_i64, max_i64, min_u16, max_u16, extract_tuple, vc_nil, nilK_ptr, int_add, int_sub, int_mul, int_eql, int_neq, int_lss, int_leq, int_gtr, int_geq, u8_add, u8_sub, u8_mul, u8_eql, u8_neq, u8_lss, u8_leq, u8_gtr, u8_geq, u16_add, u16_sub, u16_mul, u16_eql, u16_neq, u16_lss, u16_leq, u16_gtr, u16_geq, u32_add, u32_sub, u32_mul, u32_eql, u32_neq, u32_lss, u32_leq, u32_gtr, u32_geq, u64_add, u64_sub, u64_mul, u64_eql, u64_neq, u64_lss, u64_leq, u64_gtr, u64_geq, u8_and, u8_or, u8_xor, u8_andNot, u64_and, u64_or, u64_xor, u64_andNot, u8_shl_u8, u8_shl_u16, u8_shl_u64, u32_shl_u8, u32_shl_u16, u32_shl_u64, u64_shl_u8, u64_shl_u16, u64_shl_u64, u8_shr_u8, u8_shr_u16, u8_shr_u64, u64_shr_u8, u64_shr_u16, u64_shr_u64, u16_quo8, u16_rem8, u16_quo64, u16_rem64, u64_quo8, u64_rem8, u64_quo64, u64_rem64, u32_quo8, u32_rem8, u32_quo64, u32_rem64, int_quo2, int_rem2, int_quo8, int_rem8, int_quo64, int_rem64, u64_shrN, u64_shlN, fold64, fold32, i64_shl_u8, i16_eql, i16_neq, i16_lss, i16_geq, Nat.reduceEqDiff, Nat.reduceLT, Nat.reduceAdd, Nat.reduceMul, Nat.reduceSub, ↓reduceIte, if_true, if_false, eq_self, true_and, and_true, Bool.false_eq_true, Bool.not_true, Bool.not_false, reduceCtorEq, upd_get, List.getElem?_toArray, List.getElem?_cons_zero, List.getElem?_cons_succ, Option.bind_some, rdK_some, List.map_toArray, List.map_cons, List.map_nil, rd_upd, rdO_fblk, wrOk_fblk, wrO_fblk, lget_zero, lget_succ, upd_upd, agg_cells, cells_of_list, List.length_cons, List.length_nil, Nat.add_zero, pv_cells, pl_len, pl_0, pl_1, pl_2, pl_3, pl_4, pl_5, pv_fold, pv_eta, ov_eta, opv_eta, ov_cells, ol_len, ov_fold, opv_cells, opl_len, opv_fold, st_pv, st_ov, st_opv, ol_0, ol_1, ol_2, ol_3, ol_4, ol_5, ol_6, ol_7, ol_8, ol_9, opl_0, opl_1, opl_2, opl_3, opl_4, opl_5, opl_6, opl_7, wrsOk_fblk, wrsO_fblk, fblk_all, Nat.reduceLeDiff, Nat.zero_add, rdsK2, rdsK4, rdsK6, rdsK8, rdsK10, wrsK_nil, wrsK_cons, oneCell_u8, oneCell_u16, oneCell_u32, oneCell_u64, oneCell_i16, oneCell_int, oneCell_bool, oneCell_ptr, oneCell_pointer, oneCell_sl, oneCell_slice, oneCell_string, box_eq, List.all_cons, List.all_nil, Bool.and_self, Ex1_eq, Ex1_and, endQ, resH, res_tmp, res_cell, resC_ptr, tupleOf, Fabg.results114, fa_52_1, ld_5, cv_5_3, fa_57_1, ld_55, ix_55_int, ix_55_u8, ix_55_u16, ix_55_i16, fa_62_0, ldN_60, al_60, stN_60, fa_60_0, k_u8_2, tn_u8_2, fa_52_5, ld_50, fa_60_5, len_55, lenS_55, call_102, fa_62_1, ld_23, cv_3_23, fa_62_2, cv_5_50, call_155, call_134, st_50, fa_57_0, ld_26, fa_60_4, call_56, k_u16_8, k_u16_0, k_u16_1, ix_26_int, ix_26_u8, ix_26_u16, ix_26_i16, ld_30, cv_50_5, call_140, k_u8_0, tn_u8_0, st_30, k_u8_7, tn_u8_7, fa_60_2, fa_60_3, call_123, k_i16_0, cv_23_5, call_110, call_121, cv_50_3, len_26, lenS_26, call_160, o1, r1', q1, q1', r0, r1, r2, r3, r4, r5, Int.natCast_nonneg, Int.toNat_natCast]
    | refine W_drawL (id := 9) (by kernel_rfl) [0, 0, 0, 0, 0, 0, 0, 0, 0, 0, 0, 0, 0, 0, 0, 0, 0, 0, 0, 0, 0, 0] (by kernel_rfl) ?_
    | refine W_drawL (id := 19) (by kernel_rfl) [0, 0, 0, 0, 0, 0, 0, 0, 0, 0, 0, 0, 0, 2] (by kernel_rfl) ?_
    | refine W_drawL (id := 21) (by kernel_rfl) [0, 0, 0, 0, 0, 0, 0, 0, 0, 0, 0, 0, 0, 2] (by kernel_rfl) ?_
    | refine W_drawL (id := 22) (by kernel_rfl) [0, 0, 0, 0, 0, 0, 0, 0, 2] (by kernel_rfl) ?_
    | refine W_drawL (id := 26) (by kernel_rfl) [0, 0, 0, 0, 0, 0, 0, 0, 0, 2] (by kernel_rfl) ?_
    | refine Alloc.mono ?_
    | (refine CondW_intro (fun hc => ?_) (fun hc => ?_) <;> (try simp only [Bool.not_eq_true', Bool.not_eq_false'] at hc) <;> (try simp only [hc]))
    | (refine GrdV_intro (fun hc => ?_) (fun hc => ?_) <;> (try simp only [Bool.not_eq_true', Bool.not_eq_false'] at hc) <;> (try simp only [hc]))
    | (refine GrdL_intro (fun hc => ?_) (fun hc => ?_) <;> (try simp only [Bool.not_eq_true', Bool.not_eq_false'] at hc) <;> (try simp only [hc]))))
  refine ⟨fun b6 hb6 => ?_⟩
  have z36 : b3 ≠ b6 := ne_fresh (rd_dom o0) hb6
  have hC2 := hC1.rebase (.inr hb6) (fblk 6 (lget (pl (S.O op.h.toNat).p)) 60)
  have f6 : H1 b6 = none := le_none hC1.le0 hb6
  have hH1 : Le H0 (upd H1 b6 (some (fblk 6 (lget (pl (S.O op.h.toNat).p)) 60))) := hH0.fresh (le_none hH0 f6) _
  have i3' : upd H1 b6 (some (fblk 6 (lget (pl (S.O op.h.toNat).p)) 60)) b3 = some (fblk 8 (lget (opl op)) 52) := by rw [upd_ne _ _ _ _ z36]; exact i3
  have i6 : upd H1 b6 (some (fblk 6 (lget (pl (S.O op.h.toNat).p)) 60)) b6 = some (fblk 6 (lget (pl (S.O op.h.toNat).p)) 60) := upd_same _ _ _
  have f60 : H0 b6 = none := le_none hH0 f6
  have z1 : eb ≠ b6 := ne_fresh (rd_dom r1') hb6
  have em : truncE S op = if (S.O op.h.toNat).p.kind ≠ 2 ∨ op.n > (S.O op.h.toNat).p.count then (false, S)
    else (true, tr7 (tr6 (tr5 (tr4 (tr3 (tr2 (trK S op S.cnt) (firstL (S.O op.h.toNat).p + wordsL (cntP (S.O op.h.toNat).p op.n)).toNat (firstL (S.O op.h.toNat).p + wordsL (S.O op.h.toNat).p).toNat) (cntP (S.O op.h.toNat).p op.n) (firstL (S.O op.h.toNat).p + wordsL (cntP (S.O op.h.toNat).p op.n) - 1).toNat) (cntP (S.O op.h.toNat).p op.n)) op.h.toNat (cntP (S.O op.h.toNat).p op.n)) op.h.toNat (cntP (S.O op.h.toNat).p op.n)) (firstL (S.O op.h.toNat).p + wordsL (S.O op.h.toNat).p).toNat) := rfl
  cases d1 : ((S.O op.h.toNat).p.kind != 2)
  rotate_left
  · have d1' : (S.O op.h.toNat).p.kind ≠ 2 := by simpa using d1
    rw [if_pos (.inl d1')] at em
    (repeat' (first
    | simp -implicitDefEqProofs only [WV_seq, WV_cond, WV_block, WV_skip, WV_ret, WV_exit, WV_region, WV_draw, WV_loop, thenQ_normal, thenQ_ret, thenQ_exit, blockQ_normal, blockQ_ret, blockQ_exit, V_nil, V_cons, KV_eq, VL_nil, VL_cons, KL_eq, vcl_zero, vcl_one, vcl_two, isV_same, isV_eq, monoK_eq, dOk, put, gd_none, gd_some, gdst_eq, gdv_some, gdB_true, gdB_false, gdB_undef, ev_const, ev_tmp, lit_i64, lit_i32, lit_bool, lit_pointer, lit_slice, lit_string, CondW_true, CondW_false, GrdV_true, GrdV_false, GrdL_true, GrdL_false, vc_move, vc_assign, vc_load, vc_store, vc_field, vc_indexAddr, vc_index, vc_box, vc_alloc, vc_build, vc_buildSlice, vc_makeSlice, vc_slice, vc_extract, vc_unOp, vc_convert, vc_bin, vc_pick, vc_call, vc_append, vc_len, vc_min, vc_max, vc_copy, vc_clear, pickK_true, pickK_false, stK_eq, not_bool, min_i64, max_i64, min_u16, max_u16, extract_tuple, vc_nil, nilK_ptr, int_add, int_sub, int_mul, int_eql, int_neq, int_lss, int_leq, int_gtr, int_geq, u8_add, u8_sub, u8_mul, u8_eql, u8_neq, u8_lss, u8_leq, u8_gtr, u8_geq, u16_add, u16_sub, u16_mul, u16_eql, u16_neq, u16_lss, u16_leq, u16_gtr, u16_geq, u32_add, u32_sub, u32_mul, u32_eql, u32_neq, u32_lss, u32_leq, u32_gtr, u32_geq, u64_add, u64_sub, u64_mul, u64_eql, u64_neq, u64_lss, u64_leq, u64_gtr, u64_geq, u8_and, u8_or, u8_xor, u8_andNot, u64_and, u64_or, u64_xor, u64_andNot, u8_shl_u8, u8_shl_u16, u8_shl_u64, u32_shl_u8, u32_shl_u16, u32_shl_u64, u64_shl_u8, u64_shl_u16, u64_shl_u64, u8_shr_u8, u8_shr_u16, u8_shr_u64, u64_shr_u8, u64_shr_u16, u64_shr_u64, u16_quo8, u16_rem8, u16_quo64, u16_rem64, u64_quo8, u64_rem8, u64_quo64, u64_rem64, u32_quo8, u32_rem8, u32_quo64, u32_rem64, int_quo2, int_rem2, int_quo8, int_rem8, int_quo64, int_rem64, u64_shrN, u64_shlN, fold64, fold32, i64_shl_u8, i16_eql, i16_neq, i16_lss, i16_geq, Nat.reduceEqDiff, Nat.reduceLT, Nat.reduceAdd, Nat.reduceMul, Nat.reduceSub, ↓reduceIte, if_true, if_false, eq_self, true_and, and_true, Bool.false_eq_true, Bool.not_true, Bool.not_false, reduceCtorEq, upd_get, List.getElem?_toArray, List.getElem?_cons_zero, List.getElem?_cons_succ, Option.bind_some, rdK_some, List.map_toArray, List.map_cons, List.map_nil, rd_upd, rdO_fblk, wrOk_fblk, wrO_fblk, lget_zero, lget_succ, upd_upd, agg_cells, cells_of_list, List.length_cons, List.length_nil, Nat.add_zero, pv_cells, pl_len, pl_0, pl_1, pl_2, pl_3, pl_4, pl_5, pv_fold, pv_eta, ov_eta, opv_eta, ov_cells, ol_len, ov_fold, opv_cells, opl_len, opv_fold, st_pv, st_ov, st_opv, ol_0, ol_1, ol_2, ol_3, ol_4, ol_5, ol_6, ol_7, ol_8, ol_9, opl_0, opl_1, opl_2, opl_3, opl_4, opl_5, opl_6, opl_7, wrsOk_fblk, wrsO_fblk, fblk_all, Nat.reduceLeDiff, Nat.zero_add, rdsK2, rdsK4, rdsK6, rdsK8, rdsK10, wrsK_nil, wrsK_cons, oneCell_u8, oneCell_u16, oneCell_u32, oneCell_u64, oneCell_i16, oneCell_int, oneCell_bool, oneCell_ptr, oneCell_pointer, oneCell_sl, oneCell_slice, oneCell_string, box_eq, List.all_cons, List.all_nil, Bool.and_self, Ex1_eq, Ex1_and, endQ, resH, res_tmp, res_cell, resC_ptr, tupleOf, Fabg.results114, fa_52_1, ld_5, cv_5_3, fa_57_1, ld_55, ix_55_int, ix_55_u8, ix_55_u16, ix_55_i16, fa_62_0, ldN_60, al_60, stN_60, fa_60_0, k_u8_2, tn_u8_2, fa_52_5, ld_50, fa_60_5, len_55, lenS_55, call_102, fa_62_1, ld_23, cv_3_23, fa_62_2, cv_5_50, call_155, call_134, st_50, fa_57_0, ld_26, fa_60_4, call_56, k_u16_8, k_u16_0, k_u16_1, ix_26_int, ix_26_u8, ix_26_u16, ix_26_i16, ld_30, cv_50_5, call_140, k_u8_0, tn_u8_0, st_30, k_u8_7, tn_u8_7, fa_60_2, fa_60_3, call_123, k_i16_0, cv_23_5, call_110, call_121, cv_50_3, len_26, lenS_26, call_160, o5, z36, d1]
    | refine W_drawL (id := 9) (by kernel_rfl) [0, 0, 0, 0, 0, 0, 0, 0, 0, 0, 0, 0, 0, 0, 0, 0, 0, 0, 0, 0, 0, 0] (by kernel_rfl) ?_
    | refine W_drawL (id := 19) (by kernel_rfl) [0, 0, 0, 0, 0, 0, 0, 0, 0, 0, 0, 0, 0, 2] (by kernel_rfl) ?_
    | refine W_drawL (id := 21) (by kernel_rfl) [0, 0, 0, 0, 0, 0, 0, 0, 0, 0, 0, 0, 0, 2] (by kernel_rfl) ?_
    | refine W_drawL (id := 22) (by kernel_rfl) [0, 0, 0, 0, 0, 0, 0, 0, 2] (by kernel_rfl) ?_
    | refine W_drawL (id := 26) (by kernel_rfl) [0, 0, 0, 0, 0, 0, 0, 0, 0, 2] (by kernel_rfl) ?_
    | refine Alloc.mono ?_
    | (refine CondW_intro (fun hc => ?_) (fun hc => ?_) <;> (try simp only [Bool.not_eq_true', Bool.not_eq_false'] at hc) <;> (try simp only [hc]))
    | (refine GrdV_intro (fun hc => ?_) (fun hc => ?_) <;> (try simp only [Bool.not_eq_true', Bool.not_eq_false'] at hc) <;> (try simp only [hc]))
    | (refine GrdL_intro (fun hc => ?_) (fun hc => ?_) <;> (try simp only [Bool.not_eq_true', Bool.not_eq_false'] at hc) <;> (try simp only [hc]))))
    rw [em]
    exact ⟨_, Le.refl _, rfl, hC2.weaken hH1⟩
  have d1' : (S.O op.h.toNat).p.kind = 2 := by simpa using d1
  cases d2 : decide (op.n > (S.O op.h.toNat).p.count)
  rotate_left
  · have d2' : op.n > (S.O op.h.toNat).p.count := of_decide_eq_true d2
    rw [if_pos (.inr d2')] at em
    (repeat' (first
    | simp -implicitDefEqProofs only [WV_seq, WV_cond, WV_block, WV_skip, WV_ret, WV_exit, WV_region, WV_draw, WV_loop, thenQ_normal, thenQ_ret, thenQ_exit, blockQ_normal, blockQ_ret, blockQ_exit, V_nil, V_cons, KV_eq, VL_nil, VL_cons, KL_eq, vcl_zero, vcl_one, vcl_two, isV_same, isV_eq, monoK_eq, dOk, put, gd_none, gd_some, gdst_eq, gdv_some, gdB_true, gdB_false, gdB_undef, ev_const, ev_tmp, lit_i64, lit_i32, lit_bool, lit_pointer, lit_slice, lit_string, CondW_true, CondW_false, GrdV_true, GrdV_false, GrdL_true, GrdL_false, vc_move, vc_assign, vc_load, vc_store, vc_field, vc_indexAddr, vc_index, vc_box, vc_alloc, vc_build, vc_buildSlice, vc_makeSlice, vc_slice, vc_extract, vc_unOp, vc_convert, vc_bin, vc_pick, vc_call, vc_append, vc_len, vc_min, vc_max, vc_copy, vc_clear, pickK_true, pickK_false, stK_eq, not_bool, min_i64, max_i64, min_u16, max_u16, extract_tuple, vc_nil, nilK_ptr, int_add, int_sub, int_mul, int_eql, int_neq, int_lss, int_leq, int_gtr, int_geq, u8_add, u8_sub, u8_mul, u8_eql, u8_neq, u8_lss, u8_leq, u8_gtr, u8_geq, u16_add, u16_sub, u16_mul, u16_eql, u16_neq, u16_lss, u16_leq, u16_gtr, u16_geq, u32_add, u32_sub, u32_mul, u32_eql, u32_neq, u32_lss, u32_leq, u32_gtr, u32_geq, u64_add, u64_sub, u64_mul, u64_eql, u64_neq, u64_lss, u64_leq, u64_gtr, u64_geq, u8_and, u8_or, u8_xor, u8_andNot, u64_and, u64_or, u64_xor, u64_andNot, u8_shl_u8, u8_shl_u16, u8_shl_u64, u32_shl_u8, u32_shl_u16, u32_shl_u64, u64_shl_u8, u64_shl_u16, u64_shl_u64, u8_shr_u8, u8_shr_u16, u8_shr_u64, u64_shr_u8, u64_shr_u16, u64_shr_u64, u16_quo8, u16_rem8, u16_quo64, u16_rem64, u64_quo8, u64_rem8, u64_quo64, u64_rem64, u32_quo8, u32_rem8, u32_quo64, u32_rem64, int_quo2, int_rem2, int_quo8, int_rem8, int_quo64, int_rem64, u64_shrN, u64_shlN, fold64, fold32, i64_shl_u8, i16_eql, i16_neq, i16_lss, i16_geq, Nat.reduceEqDiff, Nat.reduceLT, Nat.reduceAdd, Nat.reduceMul, Nat.reduceSub, ↓reduceIte, if_true, if_false, eq_self, true_and, and_true, Bool.false_eq_true, Bool.not_true, Bool.not_false, reduceCtorEq, upd_get, List.getElem?_toArray, List.getElem?_cons_zero, List.getElem?_cons_succ, Option.bind_some, rdK_some, List.map_toArray, List.map_cons, List.map_nil, rd_upd, rdO_fblk, wrOk_fblk, wrO_fblk, lget_zero, lget_succ, upd_upd, agg_cells, cells_of_list, List.length_cons, List.length_nil, Nat.add_zero, pv_cells, pl_len, pl_0, pl_1, pl_2, pl_3, pl_4, pl_5, pv_fold, pv_eta, ov_eta, opv_eta, ov_cells, ol_len, ov_fold, opv_cells, opl_len, opv_fold, st_pv, st_ov, st_opv, ol_0, ol_1, ol_2, ol_3, ol_4, ol_5, ol_6, ol_7, ol_8, ol_9, opl_0, opl_1, opl_2, opl_3, opl_4, opl_5, opl_6, opl_7, wrsOk_fblk, wrsO_fblk, fblk_all, Nat.reduceLeDiff, Nat.zero_add, rdsK2, rdsK4, rdsK6, rdsK8, rdsK10, wrsK_nil, wrsK_cons, oneCell_u8, oneCell_u16, oneCell_u32, oneCell_u64, oneCell_i16, oneCell_int, oneCell_bool, oneCell_ptr, oneCell_pointer, oneCell_sl, oneCell_slice, oneCell_string, box_eq, List.all_cons, List.all_nil, Bool.and_self, Ex1_eq, Ex1_and, endQ, resH, res_tmp, res_cell, resC_ptr, tupleOf, Fabg.results114, fa_52_1, ld_5, cv_5_3, fa_57_1, ld_55, ix_55_int, ix_55_u8, ix_55_u16, ix_55_i16, fa_62_0, ldN_60, al_60, stN_60, fa_60_0, k_u8_2, tn_u8_2, fa_52_5, ld_50, fa_60_5, len_55, lenS_55, call_102, fa_62_1, ld_23, cv_3_23, fa_62_2, cv_5_50, call_155, call_134, st_50, fa_57_0, ld_26, fa_60_4, call_56, k_u16_8, k_u16_0, k_u16_1, ix_26_int, ix_26_u8, ix_26_u16, ix_26_i16, ld_30, cv_50_5, call_140, k_u8_0, tn_u8_0, st_30, k_u8_7, tn_u8_7, fa_60_2, fa_60_3, call_123, k_i16_0, cv_23_5, call_110, call_121, cv_50_3, len_26, lenS_26, call_160, o5, z36, d1, d2]
    | refine W_drawL (id := 9) (by kernel_rfl) [0, 0, 0, 0, 0, 0, 0, 0, 0, 0, 0, 0, 0, 0, 0, 0, 0, 0, 0, 0, 0, 0] (by kernel_rfl) ?_
    | refine W_drawL (id := 19) (by kernel_rfl) [0, 0, 0, 0, 0, 0, 0, 0, 0, 0, 0, 0, 0, 2] (by kernel_rfl) ?_
    | refine W_drawL (id := 21) (by kernel_rfl) [0, 0, 0, 0, 0, 0, 0, 0, 0, 0, 0, 0, 0, 2] (by kernel_rfl) ?_
    | refine W_drawL (id := 22) (by kernel_rfl) [0, 0, 0, 0, 0, 0, 0, 0, 2] (by kernel_rfl) ?_
    | refine W_drawL (id := 26) (by kernel_rfl) [0, 0, 0, 0, 0, 0, 0, 0, 0, 2] (by kernel_rfl) ?_
    | refine Alloc.mono ?_
    | (refine CondW_intro (fun hc => ?_) (fun hc => ?_) <;> (try simp only [Bool.not_eq_true', Bool.not_eq_false'] at hc) <;> (try simp only [hc]))
    | (refine GrdV_intro (fun hc => ?_) (fun hc => ?_) <;> (try simp only [Bool.not_eq_true', Bool.not_eq_false'] at hc) <;> (try simp only [hc]))
    | (refine GrdL_intro (fun hc => ?_) (fun hc => ?_) <;> (try simp only [Bool.not_eq_true', Bool.not_eq_false'] at hc) <;> (try simp only [hc]))))
    rw [em]
    exact ⟨_, Le.refl _, rfl, hC2.weaken hH1⟩
  have d2' : ¬ op.n > (S.O op.h.toNat).p.count := of_decide_eq_false d2
  rw [if_neg (by rintro (h | h); exact h d1'; exact d2' h)] at em
  (repeat' (first
    | simp -implicitDefEqProofs only [WV_seq, WV_cond, WV_block, WV_skip, WV_ret, WV_exit, WV_region, WV_draw, WV_loop, thenQ_normal, thenQ_ret, thenQ_exit, blockQ_normal, blockQ_ret, blockQ_exit, V_nil, V_cons, KV_eq, VL_nil, VL_cons, KL_eq, vcl_zero, vcl_one, vcl_two, isV_same, isV_eq, monoK_eq, dOk, put, gd_none, gd_some, gdst_eq, gdv_some, gdB_true, gdB_false, gdB_undef, ev_const, ev_tmp, lit_i64, lit_i32, lit_bool, lit_pointer, lit_slice, lit_string, CondW_true, CondW_false, GrdV_true, GrdV_false, GrdL_true, GrdL_false, vc_move, vc_assign, vc_load, vc_store, vc_field, vc_indexAddr, vc_index, vc_box, vc_alloc, vc_build, vc_buildSlice, vc_makeSlice, vc_slice, vc_extract, vc_unOp, vc_convert, vc_bin, vc_pick, vc_call, vc_append, vc_len, vc_min, vc_max, vc_copy, vc_clear, pickK_true, pickK_false, stK_eq, not_bool, min_i64, max_i64, min_u16, max_u16, extract_tuple, vc_nil, nilK_ptr, int_add, int_sub, int_mul, int_eql, int_neq, int_lss, int_leq, int_gtr, int_geq, u8_add, u8_sub, u8_mul, u8_eql, u8_neq, u8_lss, u8_leq, u8_gtr, u8_geq, u16_add, u16_sub, u16_mul, u16_eql, u16_neq, u16_lss, u16_leq, u16_gtr, u16_geq, u32_add, u32_sub, u32_mul, u32_eql, u32_neq, u32_lss, u32_leq, u32_gtr, u32_geq, u64_add, u64_sub, u64_mul, u64_eql, u64_neq, u64_lss, u64_leq, u64_gtr, u64_geq, u8_and, u8_or, u8_xor, u8_andNot, u64_and, u64_or, u64_xor, u64_andNot, u8_shl_u8, u8_shl_u16, u8_shl_u64, u32_shl_u8, u32_shl_u16, u32_shl_u64, u64_shl_u8, u64_shl_u16, u64_shl_u64, u8_shr_u8, u8_shr_u16, u8_shr_u64, u64_shr_u8, u64_shr_u16, u64_shr_u64, u16_quo8, u16_rem8, u16_quo64, u16_rem64, u64_quo8, u64_rem8, u64_quo64, u64_rem64, u32_quo8, u32_rem8, u32_quo64, u32_rem64, int_quo2, int_rem2, int_quo8, int_rem8, int_quo64, int_rem64, u64_shrN, u64_shlN, fold64, fold32, i64_shl_u8, i16_eql, i16_neq, i16_lss, i16_geq, Nat.reduceEqDiff, Nat.reduceLT, Nat.reduceAdd, Nat.reduceMul, Nat.reduceSub, ↓reduceIte, if_true, if_false, eq_self, true_and, and_true, Bool.false_eq_true, Bool.not_true, Bool.not_false, reduceCtorEq, upd_get, List.getElem?_toArray, List.getElem?_cons_zero, List.getElem?_cons_succ, Option.bind_some, rdK_some, List.map_toArray, List.map_cons, List.map_nil, rd_upd, rdO_fblk, wrOk_fblk, wrO_fblk, lget_zero, lget_succ, upd_upd, agg_cells, cells_of_list, List.length_cons, List.length_nil, Nat.add_zero, pv_cells, pl_len, pl_0, pl_1, pl_2, pl_3, pl_4, pl_5, pv_fold, pv_eta, ov_eta, opv_eta, ov_cells, ol_len, ov_fold, opv_cells, opl_len, opv_fold, st_pv, st_ov, st_opv, ol_0, ol_1, ol_2, ol_3, ol_4, ol_5, ol_6, ol_7, ol_8, ol_9, opl_0, opl_1, opl_2, opl_3, opl_4, opl_5, opl_6, opl_7, wrsOk_fblk, wrsO_fblk, fblk_all, Nat.reduceLeDiff, Nat.zero_add, rdsK2, rdsK4, rdsK6, rdsK8, rdsK10, wrsK_nil, wrsK_cons, oneCell_u8, oneCell_u16, oneCell_u32, oneCell_u64, oneCell_i16, oneCell_int, oneCell_bool, oneCell_ptr, oneCell_pointer, oneCell_sl, oneCell_slice, oneCell_string, box_eq, List.all_cons, List.all_nil, Bool.and_self, Ex1_eq, Ex1_and, endQ, resH, res_tmp, res_cell, resC_ptr, tupleOf, Fabg.results114, fa_52_1, ld_5, cv_5_3, fa_57_1, ld_55, ix_55_int, ix_55_u8, ix_55_u16, ix_55_i16, fa_62_0, ldN_60, al_60, stN_60, fa_60_0, k_u8_2, tn_u8_2, fa_52_5, ld_50, fa_60_5, len_55, lenS_55, call_102, fa_62_1, ld_23, cv_3_23, fa_62_2, cv_5_50, call_155, call_134, st_50, fa_57_0, ld_26, fa_60_4, call_56, k_u16_8, k_u16_0, k_u16_1, ix_26_int, ix_26_u8, ix_26_u16, ix_26_i16, ld_30, cv_50_5, call_140, k_u8_0, tn_u8_0, st_30, k_u8_7, tn_u8_7, fa_60_2, fa_60_3, call_123, k_i16_0, cv_23_5, call_110, call_121, cv_50_3, len_26, lenS_26, call_160, o5, z36, d1, d2, r1', z1]
    | refine W_drawL (id := 9) (by kernel_rfl) [0, 0, 0, 0, 0, 0, 0, 0, 0, 0, 0, 0, 0, 0, 0, 0, 0, 0, 0, 0, 0, 0] (by kernel_rfl) ?_
    | refine W_drawL (id := 19) (by kernel_rfl) [0, 0, 0, 0, 0, 0, 0, 0, 0, 0, 0, 0, 0, 2] (by kernel_rfl) ?_
    | refine W_drawL (id := 21) (by kernel_rfl) [0, 0, 0, 0, 0, 0, 0, 0, 0, 0, 0, 0, 0, 2] (by kernel_rfl) ?_
    | refine W_drawL (id := 22) (by kernel_rfl) [0, 0, 0, 0, 0, 0, 0, 0, 2] (by kernel_rfl) ?_
    | refine W_drawL (id := 26) (by kernel_rfl) [0, 0, 0, 0, 0, 0, 0, 0, 0, 2] (by kernel_rfl) ?_
    | refine Alloc.mono ?_
    | (refine CondW_intro (fun hc => ?_) (fun hc => ?_) <;> (try simp only [Bool.not_eq_true', Bool.not_eq_false'] at hc) <;> (try simp only [hc]))
    | (refine GrdV_intro (fun hc => ?_) (fun hc => ?_) <;> (try simp only [Bool.not_eq_true', Bool.not_eq_false'] at hc) <;> (try simp only [hc]))
    | (refine GrdL_intro (fun hc => ?_) (fun hc => ?_) <;> (try simp only [Bool.not_eq_true', Bool.not_eq_false'] at hc) <;> (try simp only [hc]))))
  generalize upd H1 b6 (some (fblk 6 (lget (pl (S.O op.h.toNat).p)) 60)) = H2 at *
  generalize upd G1 b6 (some (fblk 6 (lget (pl (S.O op.h.toNat).p)) 60)) = G2 at *
  clear hC hE hC1 hb6 r1' r0 r1 r2 r3 r4 r5 r6 r7 r8 r9 o0 o1 o2 o3 o4 o5 o6 o7 e i3 f6
  refine W_loopM (fun m T G' => ∃ k : Nat, m + k = S.cnt ∧ EdH H2 G' eb (trK S op k) ∧ T 0 = ptr eb 0 ∧ T 3 = ptr b3 0 ∧ T 5 = .int .i64 (op.h.toNat : Nat) ∧ T 6 = ptr b6 0 ∧ T 43 = .int .i64 (S.cnt : Nat) ∧ T 44 = .int .i64 (k : Nat))
    (fun T G' => EdH H2 G' eb (trK S op S.cnt) ∧ T 0 = ptr eb 0 ∧ T 3 = ptr b3 0 ∧ T 5 = .int .i64 (op.h.toNat : Nat) ∧ T 6 = ptr b6 0) ?_ S.cnt _ _ ?_ ?_
  · rintro m T G' ⟨k, hmk, hC3, t0, t3, t5, t6, t43, t44⟩
    refine WV_sound _ _ _ _ ?_
    by_cases hk : k < S.cnt
    rotate_left
    · have q : decide ((k : Int) < (S.cnt : Int)) = false := decide_eq_false (by omega)
      have e : k = S.cnt := by omega
      rw [e] at hC3
      (repeat' (first
    | simp -implicitDefEqProofs only [WV_seq, WV_cond, WV_block, WV_skip, WV_ret, WV_exit, WV_region, WV_draw, WV_loop, thenQ_normal, thenQ_ret, thenQ_exit, blockQ_normal, blockQ_ret, blockQ_exit, V_nil, V_cons, KV_eq, VL_nil, VL_cons, KL_eq, vcl_zero, vcl_one, vcl_two, isV_same, isV_eq, monoK_eq, dOk, put, gd_none, gd_some, gdst_eq, gdv_some, gdB_true, gdB_false, gdB_undef, ev_const, ev_tmp, lit_i64, lit_i32, lit_bool, lit_pointer, lit_slice, lit_string, CondW_true, CondW_false, GrdV_true, GrdV_false, GrdL_true, GrdL_false, vc_move, vc_assign, vc_load, vc_store, vc_field, vc_indexAddr, vc_index, vc_box, vc_alloc, vc_build, vc_buildSlice, vc_makeSlice, vc_slice, vc_extract, vc_unOp, vc_convert, vc_bin, vc_pick, vc_call, vc_append, vc_len, vc_min, vc_max, vc_copy, vc_clear, pickK_true, pickK_false, stK_eq, not_bool, min_i64, max_i64, min_u16, max_u16, extract_tuple, vc_nil, nilK_ptr, int_add, int_sub, int_mul, int_eql, int_neq, int_lss, int_leq, int_gtr, int_geq, u8_add, u8_sub, u8_mul, u8_eql, u8_neq, u8_lss, u8_leq, u8_gtr, u8_geq, u16_add, u16_sub, u16_mul, u16_eql, u16_neq, u16_lss, u16_leq, u16_gtr, u16_geq, u32_add, u32_sub, u32_mul, u32_eql, u32_neq, u32_lss, u32_leq, u32_gtr, u32_geq, u64_add, u64_sub, u64_mul, u64_eql, u64_neq, u64_lss, u64_leq, u64_gtr, u64_geq, u8_and, u8_or, u8_xor, u8_andNot, u64_and, u64_or, u64_xor, u64_andNot, u8_shl_u8, u8_shl_u16, u8_shl_u64, u32_shl_u8, u32_shl_u16, u32_shl_u64, u64_shl_u8, u64_shl_u16, u64_shl_u64, u8_shr_u8, u8_shr_u16, u8_shr_u64, u64_shr_u8, u64_shr_u16, u64_shr_u64, u16_quo8, u16_rem8, u16_quo64, u16_rem64, u64_quo8, u64_rem8, u64_quo64, u64_rem64, u32_quo8, u32_rem8, u32_quo64, u32_rem64, int_quo2, int_rem2, int_quo8, int_rem8, int_quo64, int_rem64, u64_shrN, u64_shlN, fold64, fold32, i64_shl_u8, i16_eql, i16_neq, i16_lss, i16_geq, Nat.reduceEqDiff, Nat.reduceLT, Nat.reduceAdd, Nat.reduceMul, Nat.reduceSub, ↓reduceIte, if_true, if_false, eq_self, true_and, and_true, Bool.false_eq_true, Bool.not_true, Bool.not_false, reduceCtorEq, upd_get, List.getElem?_toArray, List.getElem?_cons_zero, List.getElem?_cons_succ, Option.bind_some, rdK_some, List.map_toArray, List.map_cons, List.map_nil, rd_upd, rdO_fblk, wrOk_fblk, wrO_fblk, lget_zero, lget_succ, upd_upd, agg_cells, cells_of_list, List.length_cons, List.length_nil, Nat.add_zero, pv_cells, pl_len, pl_0, pl_1, pl_2, pl_3, pl_4, pl_5, pv_fold, pv_eta, ov_eta, opv_eta, ov_cells, ol_len, ov_fold, opv_cells, opl_len, opv_fold, st_pv, st_ov, st_opv, ol_0, ol_1, ol_2, ol_3, ol_4, ol_5, ol_6, ol_7, ol_8, ol_9, opl_0, opl_1, opl_2, opl_3, opl_4, opl_5, opl_6, opl_7, wrsOk_fblk, wrsO_fblk, fblk_all, Nat.reduceLeDiff, Nat.zero_add, rdsK2, rdsK4, rdsK6, rdsK8, rdsK10, wrsK_nil, wrsK_cons, oneCell_u8, oneCell_u16, oneCell_u32, oneCell_u64, oneCell_i16, oneCell_int, oneCell_bool, oneCell_ptr, oneCell_pointer, oneCell_sl, oneCell_slice, oneCell_string, box_eq, List.all_cons, List.all_nil, Bool.and_self, Ex1_eq, Ex1_and, endQ, resH, res_tmp, res_cell, resC_ptr, tupleOf, Fabg.results114, fa_52_1, ld_5, cv_5_3, fa_57_1, ld_55, ix_55_int, ix_55_u8, ix_55_u16, ix_55_i16, fa_62_0, ldN_60, al_60, stN_60, fa_60_0, k_u8_2, tn_u8_2, fa_52_5, ld_50, fa_60_5, len_55, lenS_55, call_102, fa_62_1, ld_23, cv_3_23, fa_62_2, cv_5_50, call_155, call_134, st_50, fa_57_0, ld_26, fa_60_4, call_56, k_u16_8, k_u16_0, k_u16_1, ix_26_int, ix_26_u8, ix_26_u16, ix_26_i16, ld_30, cv_50_5, call_140, k_u8_0, tn_u8_0, st_30, k_u8_7, tn_u8_7, fa_60_2, fa_60_3, call_123, k_i16_0, cv_23_5, call_110, call_121, cv_50_3, len_26, lenS_26, call_160, t0, t3, t5, t6, t43, t44, q]
    | refine W_drawL (id := 9) (by kernel_rfl) [0, 0, 0, 0, 0, 0, 0, 0, 0, 0, 0, 0, 0, 0, 0, 0, 0, 0, 0, 0, 0, 0] (by kernel_rfl) ?_
    | refine W_drawL (id := 19) (by kernel_rfl) [0, 0, 0, 0, 0, 0, 0, 0, 0, 0, 0, 0, 0, 2] (by kernel_rfl) ?_
    | refine W_drawL (id := 21) (by kernel_rfl) [0, 0, 0, 0, 0, 0, 0, 0, 0, 0, 0, 0, 0, 2] (by kernel_rfl) ?_
    | refine W_drawL (id := 22) (by kernel_rfl) [0, 0, 0, 0, 0, 0, 0, 0, 2] (by kernel_rfl) ?_
    | refine W_drawL (id := 26) (by kernel_rfl) [0, 0, 0, 0, 0, 0, 0, 0, 0, 2] (by kernel_rfl) ?_
    | refine Alloc.mono ?_
    | (refine CondW_intro (fun hc => ?_) (fun hc => ?_) <;> (try simp only [Bool.not_eq_true', Bool.not_eq_false'] at hc) <;> (try simp only [hc]))
    | (refine GrdV_intro (fun hc => ?_) (fun hc => ?_) <;> (try simp only [Bool.not_eq_true', Bool.not_eq_false'] at hc) <;> (try simp only [hc]))
    | (refine GrdL_intro (fun hc => ?_) (fun hc => ?_) <;> (try simp only [Bool.not_eq_true', Bool.not_eq_false'] at hc) <;> (try simp only [hc]))))
      exact hC3
    have q : decide ((k : Int) < (S.cnt : Int)) = true := decide_eq_true (by omega)
    have q2 : w64 ((k : Int) + 1) = ((k + 1 : Nat) : Int) := by rw [w64_id] <;> omega
    have q5 : ((k : Int) < (S.cnt : Int)) = True := eq_true (by omega)
    have hS := same_trK S op k
    have et : trK S op (k + 1) = if trGo (trK S op k) op k = true then killE (trK S op k) (k : Nat) else trK S op k := rfl
    obtain ⟨w0, w1, w2, w3, w4, w5, w6, w7⟩ := opAt_of (hC3.le0 _ _ i3')
    obtain ⟨aA, cA, aO, cO, hE⟩ := hC3.rdr (by rw [hS.len]; omega) (by rw [hS.cnt]; omega)
    have eg : trGo (trK S op k) op k = (aliveB (trK S op k) (k : Nat) && (((trK S op k).O k).up == Int16.ofInt (op.h.toNat : Int) && decide (((trK S op k).O k).via.toUInt16 ≥ op.n))) := rfl
    have ca := alive_ok hE (k : Nat)
    obtain ⟨b, o, e, r1', hO⟩ := hE.obj (k := k) (by rw [hS.cnt]; exact hk)
    rw [hS.cnt] at r1'
    have ck := kill_ok hC3 (k : Nat) (by rw [hS.len]; exact h0) (by rw [hS.len]; exact h1) (by rw [hS.cnt]; exact h2) (fun j hj hd => cends_same hS _ _ (hT.kills j (by rw [hS.cnt] at hj; exact hj) (hS.dead j hd))) (fun j hj hd => by rw [hS.p, hS.len]; exact hT.range j (by rw [hS.cnt] at hj; exact hj) (hS.dead j hd))
    generalize trK S op k = Sk at *
    obtain ⟨p0, p1, p2, p3, p4, p5, p6, p7, p8, p9⟩ := hO
    cases e1 : aliveB Sk (k : Nat)
    · rw [e1] at ca eg
      rw [if_neg (by rw [eg]; simp)] at et
      (repeat' (first
    | simp -implicitDefEqProofs only [WV_seq, WV_cond, WV_block, WV_skip, WV_ret, WV_exit, WV_region, WV_draw, WV_loop, thenQ_normal, thenQ_ret, thenQ_exit, blockQ_normal, blockQ_ret, blockQ_exit, V_nil, V_cons, KV_eq, VL_nil, VL_cons, KL_eq, vcl_zero, vcl_one, vcl_two, isV_same, isV_eq, monoK_eq, dOk, put, gd_none, gd_some, gdst_eq, gdv_some, gdB_true, gdB_false, gdB_undef, ev_const, ev_tmp, lit_i64, lit_i32, lit_bool, lit_pointer, lit_slice, lit_string, CondW_true, CondW_false, GrdV_true, GrdV_false, GrdL_true, GrdL_false, vc_move, vc_assign, vc_load, vc_store, vc_field, vc_indexAddr, vc_index, vc_box, vc_alloc, vc_build, vc_buildSlice, vc_makeSlice, vc_slice, vc_extract, vc_unOp, vc_convert, vc_bin, vc_pick, vc_call, vc_append, vc_len, vc_min, vc_max, vc_copy, vc_clear, pickK_true, pickK_false, stK_eq, not_bool, min_i64, max_i64, min_u16, max_u16, extract_tuple, vc_nil, nilK_ptr, int_add, int_sub, int_mul, int_eql, int_neq, int_lss, int_leq, int_gtr, int_geq, u8_add, u8_sub, u8_mul, u8_eql, u8_neq, u8_lss, u8_leq, u8_gtr, u8_geq, u16_add, u16_sub, u16_mul, u16_eql, u16_neq, u16_lss, u16_leq, u16_gtr, u16_geq, u32_add, u32_sub, u32_mul, u32_eql, u32_neq, u32_lss, u32_leq, u32_gtr, u32_geq, u64_add, u64_sub, u64_mul, u64_eql, u64_neq, u64_lss, u64_leq, u64_gtr, u64_geq, u8_and, u8_or, u8_xor, u8_andNot, u64_and, u64_or, u64_xor, u64_andNot, u8_shl_u8, u8_shl_u16, u8_shl_u64, u32_shl_u8, u32_shl_u16, u32_shl_u64, u64_shl_u8, u64_shl_u16, u64_shl_u64, u8_shr_u8, u8_shr_u16, u8_shr_u64, u64_shr_u8, u64_shr_u16, u64_shr_u64, u16_quo8, u16_rem8, u16_quo64, u16_rem64, u64_quo8, u64_rem8, u64_quo64, u64_rem64, u32_quo8, u32_rem8, u32_quo64, u32_rem64, int_quo2, int_rem2, int_quo8, int_rem8, int_quo64, int_rem64, u64_shrN, u64_shlN, fold64, fold32, i64_shl_u8, i16_eql, i16_neq, i16_lss, i16_geq, Nat.reduceEqDiff, Nat.reduceLT, Nat.reduceAdd, Nat.reduceMul, Nat.reduceSub, ↓reduceIte, if_true, if_false, eq_self, true_and, and_true, Bool.false_eq_true, Bool.not_true, Bool.not_false, reduceCtorEq, upd_get, List.getElem?_toArray, List.getElem?_cons_zero, List.getElem?_cons_succ, Option.bind_some, rdK_some, List.map_toArray, List.map_cons, List.map_nil, rd_upd, rdO_fblk, wrOk_fblk, wrO_fblk, lget_zero, lget_succ, upd_upd, agg_cells, cells_of_list, List.length_cons, List.length_nil, Nat.add_zero, pv_cells, pl_len, pl_0, pl_1, pl_2, pl_3, pl_4, pl_5, pv_fold, pv_eta, ov_eta, opv_eta, ov_cells, ol_len, ov_fold, opv_cells, opl_len, opv_fold, st_pv, st_ov, st_opv, ol_0, ol_1, ol_2, ol_3, ol_4, ol_5, ol_6, ol_7, ol_8, ol_9, opl_0, opl_1, opl_2, opl_3, opl_4, opl_5, opl_6, opl_7, wrsOk_fblk, wrsO_fblk, fblk_all, Nat.reduceLeDiff, Nat.zero_add, rdsK2, rdsK4, rdsK6, rdsK8, rdsK10, wrsK_nil, wrsK_cons, oneCell_u8, oneCell_u16, oneCell_u32, oneCell_u64, oneCell_i16, oneCell_int, oneCell_bool, oneCell_ptr, oneCell_pointer, oneCell_sl, oneCell_slice, oneCell_string, box_eq, List.all_cons, List.all_nil, Bool.and_self, Ex1_eq, Ex1_and, endQ, resH, res_tmp, res_cell, resC_ptr, tupleOf, Fabg.results114, fa_52_1, ld_5, cv_5_3, fa_57_1, ld_55, ix_55_int, ix_55_u8, ix_55_u16, ix_55_i16, fa_62_0, ldN_60, al_60, stN_60, fa_60_0, k_u8_2, tn_u8_2, fa_52_5, ld_50, fa_60_5, len_55, lenS_55, call_102, fa_62_1, ld_23, cv_3_23, fa_62_2, cv_5_50, call_155, call_134, st_50, fa_57_0, ld_26, fa_60_4, call_56, k_u16_8, k_u16_0, k_u16_1, ix_26_int, ix_26_u8, ix_26_u16, ix_26_i16, ld_30, cv_50_5, call_140, k_u8_0, tn_u8_0, st_30, k_u8_7, tn_u8_7, fa_60_2, fa_60_3, call_123, k_i16_0, cv_23_5, call_110, call_121, cv_50_3, len_26, lenS_26, call_160, t0, t3, t5, t6, t43, t44, q, q2, q5, r1', p6, p7, w5, decide_true, Int.natCast_nonneg, Int.toNat_natCast]
    | refine (ca).use ?_
    | refine (ca).useQ ?_
    | refine W_drawL (id := 9) (by kernel_rfl) [0, 0, 0, 0, 0, 0, 0, 0, 0, 0, 0, 0, 0, 0, 0, 0, 0, 0, 0, 0, 0, 0] (by kernel_rfl) ?_
    | refine W_drawL (id := 19) (by kernel_rfl) [0, 0, 0, 0, 0, 0, 0, 0, 0, 0, 0, 0, 0, 2] (by kernel_rfl) ?_
    | refine W_drawL (id := 21) (by kernel_rfl) [0, 0, 0, 0, 0, 0, 0, 0, 0, 0, 0, 0, 0, 2] (by kernel_rfl) ?_
    | refine W_drawL (id := 22) (by kernel_rfl) [0, 0, 0, 0, 0, 0, 0, 0, 2] (by kernel_rfl) ?_
    | refine W_drawL (id := 26) (by kernel_rfl) [0, 0, 0, 0, 0, 0, 0, 0, 0, 2] (by kernel_rfl) ?_
    | refine Alloc.mono ?_
    | (refine CondW_intro (fun hc => ?_) (fun hc => ?_) <;> (try simp only [Bool.not_eq_true', Bool.not_eq_false'] at hc) <;> (try simp only [hc]))
    | (refine GrdV_intro (fun hc => ?_) (fun hc => ?_) <;> (try simp only [Bool.not_eq_true', Bool.not_eq_false'] at hc) <;> (try simp only [hc]))
    | (refine GrdL_intro (fun hc => ?_) (fun hc => ?_) <;> (try simp only [Bool.not_eq_true', Bool.not_eq_false'] at hc) <;> (try simp only [hc]))))
      exact ⟨m - 1, by omega, k + 1, by omega, by rw [et]; exact hC3, rfl⟩
    rw [e1] at ca eg
    cases e2 : ((Sk.O k).up == Int16.ofInt (op.h.toNat : Int))
    · rw [e2] at eg
      rw [if_neg (by rw [eg]; simp)] at et
      (repeat' (first
    | simp -implicitDefEqProofs only [WV_seq, WV_cond, WV_block, WV_skip, WV_ret, WV_exit, WV_region, WV_draw, WV_loop, thenQ_normal, thenQ_ret, thenQ_exit, blockQ_normal, blockQ_ret, blockQ_exit, V_nil, V_cons, KV_eq, VL_nil, VL_cons, KL_eq, vcl_zero, vcl_one, vcl_two, isV_same, isV_eq, monoK_eq, dOk, put, gd_none, gd_some, gdst_eq, gdv_some, gdB_true, gdB_false, gdB_undef, ev_const, ev_tmp, lit_i64, lit_i32, lit_bool, lit_pointer, lit_slice, lit_string, CondW_true, CondW_false, GrdV_true, GrdV_false, GrdL_true, GrdL_false, vc_move, vc_assign, vc_load, vc_store, vc_field, vc_indexAddr, vc_index, vc_box, vc_alloc, vc_build, vc_buildSlice, vc_makeSlice, vc_slice, vc_extract, vc_unOp, vc_convert, vc_bin, vc_pick, vc_call, vc_append, vc_len, vc_min, vc_max, vc_copy, vc_clear, pickK_true, pickK_false, stK_eq, not_bool, min_i64, max_i64, min_u16, max_u16, extract_tuple, vc_nil, nilK_ptr, int_add, int_sub, int_mul, int_eql, int_neq, int_lss, int_leq, int_gtr, int_geq, u8_add, u8_sub, u8_mul, u8_eql, u8_neq, u8_lss, u8_leq, u8_gtr, u8_geq, u16_add, u16_sub, u16_mul, u16_eql, u16_neq, u16_lss, u16_leq, u16_gtr, u16_geq, u32_add, u32_sub, u32_mul, u32_eql, u32_neq, u32_lss, u32_leq, u32_gtr, u32_geq, u64_add, u64_sub, u64_mul, u64_eql, u64_neq, u64_lss, u64_leq, u64_gtr, u64_geq, u8_and, u8_or, u8_xor, u8_andNot, u64_and, u64_or, u64_xor, u64_andNot, u8_shl_u8, u8_shl_u16, u8_shl_u64, u32_shl_u8, u32_shl_u16, u32_shl_u64, u64_shl_u8, u64_shl_u16, u64_shl_u64, u8_shr_u8, u8_shr_u16, u8_shr_u64, u64_shr_u8, u64_shr_u16, u64_shr_u64, u16_quo8, u16_rem8, u16_quo64, u16_rem64, u64_quo8, u64_rem8, u64_quo64, u64_rem64, u32_quo8, u32_rem8, u32_quo64, u32_rem64, int_quo2, int_rem2, int_quo8, int_rem8, int_quo64, int_rem64, u64_shrN, u64_shlN, fold64, fold32, i64_shl_u8, i16_eql, i16_neq, i16_lss, i16_geq, Nat.reduceEqDiff, Nat.reduceLT, Nat.reduceAdd, Nat.reduceMul, Nat.reduceSub, ↓reduceIte, if_true, if_false, eq_self, true_and, and_true, Bool.false_eq_true, Bool.not_true, Bool.not_false, reduceCtorEq, upd_get, List.getElem?_toArray, List.getElem?_cons_zero, List.getElem?_cons_succ, Option.bind_some, rdK_some, List.map_toArray, List.map_cons, List.map_nil, rd_upd, rdO_fblk, wrOk_fblk, wrO_fblk, lget_zero, lget_succ, upd_upd, agg_cells, cells_of_list, List.length_cons, List.length_nil, Nat.add_zero, pv_cells, pl_len, pl_0, pl_1, pl_2, pl_3, pl_4, pl_5, pv_fold, pv_eta, ov_eta, opv_eta, ov_cells, ol_len, ov_fold, opv_cells, opl_len, opv_fold, st_pv, st_ov, st_opv, ol_0, ol_1, ol_2, ol_3, ol_4, ol_5, ol_6, ol_7, ol_8, ol_9, opl_0, opl_1, opl_2, opl_3, opl_4, opl_5, opl_6, opl_7, wrsOk_fblk, wrsO_fblk, fblk_all, Nat.reduceLeDiff, Nat.zero_add, rdsK2, rdsK4, rdsK6, rdsK8, rdsK10, wrsK_nil, wrsK_cons, oneCell_u8, oneCell_u16, oneCell_u32, oneCell_u64, oneCell_i16, oneCell_int, oneCell_bool, oneCell_ptr, oneCell_pointer, oneCell_sl, oneCell_slice, oneCell_string, box_eq, List.all_cons, List.all_nil, Bool.and_self, Ex1_eq, Ex1_and, endQ, resH, res_tmp, res_cell, resC_ptr, tupleOf, Fabg.results114, fa_52_1, ld_5, cv_5_3, fa_57_1, ld_55, ix_55_int, ix_55_u8, ix_55_u16, ix_55_i16, fa_62_0, ldN_60, al_60, stN_60, fa_60_0, k_u8_2, tn_u8_2, fa_52_5, ld_50, fa_60_5, len_55, lenS_55, call_102, fa_62_1, ld_23, cv_3_23, fa_62_2, cv_5_50, call_155, call_134, st_50, fa_57_0, ld_26, fa_60_4, call_56, k_u16_8, k_u16_0, k_u16_1, ix_26_int, ix_26_u8, ix_26_u16, ix_26_i16, ld_30, cv_50_5, call_140, k_u8_0, tn_u8_0, st_30, k_u8_7, tn_u8_7, fa_60_2, fa_60_3, call_123, k_i16_0, cv_23_5, call_110, call_121, cv_50_3, len_26, lenS_26, call_160, t0, t3, t5, t6, t43, t44, q, q2, q5, r1', p6, p7, w5, e2, decide_true, Int.natCast_nonneg, Int.toNat_natCast]
    | refine (ca).use ?_
    | refine (ca).useQ ?_
    | refine W_drawL (id := 9) (by kernel_rfl) [0, 0, 0, 0, 0, 0, 0, 0, 0, 0, 0, 0, 0, 0, 0, 0, 0, 0, 0, 0, 0, 0] (by kernel_rfl) ?_
    | refine W_drawL (id := 19) (by kernel_rfl) [0, 0, 0, 0, 0, 0, 0, 0, 0, 0, 0, 0, 0, 2] (by kernel_rfl) ?_
    | refine W_drawL (id := 21) (by kernel_rfl) [0, 0, 0, 0, 0, 0, 0, 0, 0, 0, 0, 0, 0, 2] (by kernel_rfl) ?_
    | refine W_drawL (id := 22) (by kernel_rfl) [0, 0, 0, 0, 0, 0, 0, 0, 2] (by kernel_rfl) ?_
    | refine W_drawL (id := 26) (by kernel_rfl) [0, 0, 0, 0, 0, 0, 0, 0, 0, 2] (by kernel_rfl) ?_
    | refine Alloc.mono ?_
    | (refine CondW_intro (fun hc => ?_) (fun hc => ?_) <;> (try simp only [Bool.not_eq_true', Bool.not_eq_false'] at hc) <;> (try simp only [hc]))
    | (refine GrdV_intro (fun hc => ?_) (fun hc => ?_) <;> (try simp only [Bool.not_eq_true', Bool.not_eq_false'] at hc) <;> (try simp only [hc]))
    | (refine GrdL_intro (fun hc => ?_) (fun hc => ?_) <;> (try simp only [Bool.not_eq_true', Bool.not_eq_false'] at hc) <;> (try simp only [hc]))))
      exact ⟨m - 1, by omega, k + 1, by omega, by rw [et]; exact hC3, rfl⟩
    rw [e2] at eg
    cases e3 : decide ((Sk.O k).via.toUInt16 ≥ op.n)
    · rw [e3] at eg
      rw [if_neg (by rw [eg]; simp)] at et
      (repeat' (first
    | simp -implicitDefEqProofs only [WV_seq, WV_cond, WV_block, WV_skip, WV_ret, WV_exit, WV_region, WV_draw, WV_loop, thenQ_normal, thenQ_ret, thenQ_exit, blockQ_normal, blockQ_ret, blockQ_exit, V_nil, V_cons, KV_eq, VL_nil, VL_cons, KL_eq, vcl_zero, vcl_one, vcl_two, isV_same, isV_eq, monoK_eq, dOk, put, gd_none, gd_some, gdst_eq, gdv_some, gdB_true, gdB_false, gdB_undef, ev_const, ev_tmp, lit_i64, lit_i32, lit_bool, lit_pointer, lit_slice, lit_string, CondW_true, CondW_false, GrdV_true, GrdV_false, GrdL_true, GrdL_false, vc_move, vc_assign, vc_load, vc_store, vc_field, vc_indexAddr, vc_index, vc_box, vc_alloc, vc_build, vc_buildSlice, vc_makeSlice, vc_slice, vc_extract, vc_unOp, vc_convert, vc_bin, vc_pick, vc_call, vc_append, vc_len, vc_min, vc_max, vc_copy, vc_clear, pickK_true, pickK_false, stK_eq, not_bool, min_i64, max_i64, min_u16, max_u16, extract_tuple, vc_nil, nilK_ptr, int_add, int_sub, int_mul, int_eql, int_neq, int_lss, int_leq, int_gtr, int_geq, u8_add, u8_sub, u8_mul, u8_eql, u8_neq, u8_lss, u8_leq, u8_gtr, u8_geq, u16_add, u16_sub, u16_mul, u16_eql, u16_neq, u16_lss, u16_leq, u16_gtr, u16_geq, u32_add, u32_sub, u32_mul, u32_eql, u32_neq, u32_lss, u32_leq, u32_gtr, u32_geq, u64_add, u64_sub, u64_mul, u64_eql, u64_neq, u64_lss, u64_leq, u64_gtr, u64_geq, u8_and, u8_or, u8_xor, u8_andNot, u64_and, u64_or, u64_xor, u64_andNot, u8_shl_u8, u8_shl_u16, u8_shl_u64, u32_shl_u8, u32_shl_u16, u32_shl_u64, u64_shl_u8, u64_shl_u16, u64_shl_u64, u8_shr_u8, u8_shr_u16, u8_shr_u64, u64_shr_u8, u64_shr_u16, u64_shr_u64, u16_quo8, u16_rem8, u16_quo64, u16_rem64, u64_quo8, u64_rem8, u64_quo64, u64_rem64, u32_quo8, u32_rem8, u32_quo64, u32_rem64, int_quo2, int_rem2, int_quo8, int_rem8, int_quo64, int_rem64, u64_shrN, u64_shlN, fold64, fold32, i64_shl_u8, i16_eql, i16_neq, i16_lss, i16_geq, Nat.reduceEqDiff, Nat.reduceLT, Nat.reduceAdd, Nat.reduceMul, Nat.reduceSub, ↓reduceIte, if_true, if_false, eq_self, true_and, and_true, Bool.false_eq_true, Bool.not_true, Bool.not_false, reduceCtorEq, upd_get, List.getElem?_toArray, List.getElem?_cons_zero, List.getElem?_cons_succ, Option.bind_some, rdK_some, List.map_toArray, List.map_cons, List.map_nil, rd_upd, rdO_fblk, wrOk_fblk, wrO_fblk, lget_zero, lget_succ, upd_upd, agg_cells, cells_of_list, List.length_cons, List.length_nil, Nat.add_zero, pv_cells, pl_len, pl_0, pl_1, pl_2, pl_3, pl_4, pl_5, pv_fold, pv_eta, ov_eta, opv_eta, ov_cells, ol_len, ov_fold, opv_cells, opl_len, opv_fold, st_pv, st_ov, st_opv, ol_0, ol_1, ol_2, ol_3, ol_4, ol_5, ol_6, ol_7, ol_8, ol_9, opl_0, opl_1, opl_2, opl_3, opl_4, opl_5, opl_6, opl_7, wrsOk_fblk, wrsO_fblk, fblk_all, Nat.reduceLeDiff, Nat.zero_add, rdsK2, rdsK4, rdsK6, rdsK8, rdsK10, wrsK_nil, wrsK_cons, oneCell_u8, oneCell_u16, oneCell_u32, oneCell_u64, oneCell_i16, oneCell_int, oneCell_bool, oneCell_ptr, oneCell_pointer, oneCell_sl, oneCell_slice, oneCell_string, box_eq, List.all_cons, List.all_nil, Bool.and_self, Ex1_eq, Ex1_and, endQ, resH, res_tmp, res_cell, resC_ptr, tupleOf, Fabg.results114, fa_52_1, ld_5, cv_5_3, fa_57_1, ld_55, ix_55_int, ix_55_u8, ix_55_u16, ix_55_i16, fa_62_0, ldN_60, al_60, stN_60, fa_60_0, k_u8_2, tn_u8_2, fa_52_5, ld_50, fa_60_5, len_55, lenS_55, call_102, fa_62_1, ld_23, cv_3_23, fa_62_2, cv_5_50, call_155, call_134, st_50, fa_57_0, ld_26, fa_60_4, call_56, k_u16_8, k_u16_0, k_u16_1, ix_26_int, ix_26_u8, ix_26_u16, ix_26_i16, ld_30, cv_50_5, call_140, k_u8_0, tn_u8_0, st_30, k_u8_7, tn_u8_7, fa_60_2, fa_60_3, call_123, k_i16_0, cv_23_5, call_110, call_121, cv_50_3, len_26, lenS_26, call_160, t0, t3, t5, t6, t43, t44, q, q2, q5, r1', p6, p7, w5, e2, e3, decide_true, Int.natCast_nonneg, Int.toNat_natCast]
    | refine (ca).use ?_
    | refine (ca).useQ ?_
    | refine W_drawL (id := 9) (by kernel_rfl) [0, 0, 0, 0, 0, 0, 0, 0, 0, 0, 0, 0, 0, 0, 0, 0, 0, 0, 0, 0, 0, 0] (by kernel_rfl) ?_
    | refine W_drawL (id := 19) (by kernel_rfl) [0, 0, 0, 0, 0, 0, 0, 0, 0, 0, 0, 0, 0, 2] (by kernel_rfl) ?_
    | refine W_drawL (id := 21) (by kernel_rfl) [0, 0, 0, 0, 0, 0, 0, 0, 0, 0, 0, 0, 0, 2] (by kernel_rfl) ?_
    | refine W_drawL (id := 22) (by kernel_rfl) [0, 0, 0, 0, 0, 0, 0, 0, 2] (by kernel_rfl) ?_
    | refine W_drawL (id := 26) (by kernel_rfl) [0, 0, 0, 0, 0, 0, 0, 0, 0, 2] (by kernel_rfl) ?_
    | refine Alloc.mono ?_
    | (refine CondW_intro (fun hc => ?_) (fun hc => ?_) <;> (try simp only [Bool.not_eq_true', Bool.not_eq_false'] at hc) <;> (try simp only [hc]))
    | (refine GrdV_intro (fun hc => ?_) (fun hc => ?_) <;> (try simp only [Bool.not_eq_true', Bool.not_eq_false'] at hc) <;> (try simp only [hc]))
    | (refine GrdL_intro (fun hc => ?_) (fun hc => ?_) <;> (try simp only [Bool.not_eq_true', Bool.not_eq_false'] at hc) <;> (try simp only [hc]))))
      exact ⟨m - 1, by omega, k + 1, by omega, by rw [et]; exact hC3, rfl⟩
    rw [e3] at eg
    rw [if_pos (by rw [eg]; rfl)] at et
    (repeat' (first
    | simp -implicitDefEqProofs only [WV_seq, WV_cond, WV_block, WV_skip, WV_ret, WV_exit, WV_region, WV_draw, WV_loop, thenQ_normal, thenQ_ret, thenQ_exit, blockQ_normal, blockQ_ret, blockQ_exit, V_nil, V_cons, KV_eq, VL_nil, VL_cons, KL_eq, vcl_zero, vcl_one, vcl_two, isV_same, isV_eq, monoK_eq, dOk, put, gd_none, gd_some, gdst_eq, gdv_some, gdB_true, gdB_false, gdB_undef, ev_const, ev_tmp, lit_i64, lit_i32, lit_bool, lit_pointer, lit_slice, lit_string, CondW_true, CondW_false, GrdV_true, GrdV_false, GrdL_true, GrdL_false, vc_move, vc_assign, vc_load, vc_store, vc_field, vc_indexAddr, vc_index, vc_box, vc_alloc, vc_build, vc_buildSlice, vc_makeSlice, vc_slice, vc_extract, vc_unOp, vc_convert, vc_bin, vc_pick, vc_call, vc_append, vc_len, vc_min, vc_max, vc_copy, vc_clear, pickK_true, pickK_false, stK_eq, not_bool, min_i64, max_i64, min_u16, max_u16, extract_tuple, vc_nil, nilK_ptr, int_add, int_sub, int_mul, int_eql, int_neq, int_lss, int_leq, int_gtr, int_geq, u8_add, u8_sub, u8_mul, u8_eql, u8_neq, u8_lss, u8_leq, u8_gtr, u8_geq, u16_add, u16_sub, u16_mul, u16_eql, u16_neq, u16_lss, u16_leq, u16_gtr, u16_geq, u32_add, u32_sub, u32_mul, u32_eql, u32_neq, u32_lss, u32_leq, u32_gtr, u32_geq, u64_add, u64_sub, u64_mul, u64_eql, u64_neq, u64_lss, u64_leq, u64_gtr, u64_geq, u8_and, u8_or, u8_xor, u8_andNot, u64_and, u64_or, u64_xor, u64_andNot, u8_shl_u8, u8_shl_u16, u8_shl_u64, u32_shl_u8, u32_shl_u16, u32_shl_u64, u64_shl_u8, u64_shl_u16, u64_shl_u64, u8_shr_u8, u8_shr_u16, u8_shr_u64, u64_shr_u8, u64_shr_u16, u64_shr_u64, u16_quo8, u16_rem8, u16_quo64, u16_rem64, u64_quo8, u64_rem8, u64_quo64, u64_rem64, u32_quo8, u32_rem8, u32_quo64, u32_rem64, int_quo2, int_rem2, int_quo8, int_rem8, int_quo64, int_rem64, u64_shrN, u64_shlN, fold64, fold32, i64_shl_u8, i16_eql, i16_neq, i16_lss, i16_geq, Nat.reduceEqDiff, Nat.reduceLT, Nat.reduceAdd, Nat.reduceMul, Nat.reduceSub, ↓reduceIte, if_true, if_false, eq_self, true_and, and_true, Bool.false_eq_true, Bool.not_true, Bool.not_false, reduceCtorEq, upd_get, List.getElem?_toArray, List.getElem?_cons_zero, List.getElem?_cons_succ, Option.bind_some, rdK_some, List.map_toArray, List.map_cons, List.map_nil, rd_upd, rdO_fblk, wrOk_fblk, wrO_fblk, lget_zero, lget_succ, upd_upd, agg_cells, cells_of_list, List.length_cons, List.length_nil, Nat.add_zero, pv_cells, pl_len, pl_0, pl_1, pl_2, pl_3, pl_4, pl_5, pv_fold, pv_eta, ov_eta, opv_eta, ov_cells, ol_len, ov_fold, opv_cells, opl_len, opv_fold, st_pv, st_ov, st_opv, ol_0, ol_1, ol_2, ol_3, ol_4, ol_5, ol_6, ol_7, ol_8, ol_9, opl_0, opl_1, opl_2, opl_3, opl_4, opl_5, opl_6, opl_7, wrsOk_fblk, wrsO_fblk, fblk_all, Nat.reduceLeDiff, Nat.zero_add, rdsK2, rdsK4, rdsK6, rdsK8, rdsK10, wrsK_nil, wrsK_cons, oneCell_u8, oneCell_u16, oneCell_u32, oneCell_u64, oneCell_i16, oneCell_int, oneCell_bool, oneCell_ptr, oneCell_pointer, oneCell_sl, oneCell_slice, oneCell_string, box_eq, List.all_cons, List.all_nil, Bool.and_self, Ex1_eq, Ex1_and, endQ, resH, res_tmp, res_cell, resC_ptr, tupleOf, Fabg.results114, fa_52_1, ld_5, cv_5_3, fa_57_1, ld_55, ix_55_int, ix_55_u8, ix_55_u16, ix_55_i16, fa_62_0, ldN_60, al_60, stN_60, fa_60_0, k_u8_2, tn_u8_2, fa_52_5, ld_50, fa_60_5, len_55, lenS_55, call_102, fa_62_1, ld_23, cv_3_23, fa_62_2, cv_5_50, call_155, call_134, st_50, fa_57_0, ld_26, fa_60_4, call_56, k_u16_8, k_u16_0, k_u16_1, ix_26_int, ix_26_u8, ix_26_u16, ix_26_i16, ld_30, cv_50_5, call_140, k_u8_0, tn_u8_0, st_30, k_u8_7, tn_u8_7, fa_60_2, fa_60_3, call_123, k_i16_0, cv_23_5, call_110, call_121, cv_50_3, len_26, lenS_26, call_160, t0, t3, t5, t6, t43, t44, q, q2, q5, r1', p6, p7, w5, e2, e3, decide_true, Int.natCast_nonneg, Int.toNat_natCast]
    | refine (ca).use ?_
    | refine (ca).useQ ?_
    | refine W_drawL (id := 9) (by kernel_rfl) [0, 0, 0, 0, 0, 0, 0, 0, 0, 0, 0, 0, 0, 0, 0, 0, 0, 0, 0, 0, 0, 0] (by kernel_rfl) ?_
    | refine W_drawL (id := 19) (by kernel_rfl) [0, 0, 0, 0, 0, 0, 0, 0, 0, 0, 0, 0, 0, 2] (by kernel_rfl) ?_
    | refine W_drawL (id := 21) (by kernel_rfl) [0, 0, 0, 0, 0, 0, 0, 0, 0, 0, 0, 0, 0, 2] (by kernel_rfl) ?_
    | refine W_drawL (id := 22) (by kernel_rfl) [0, 0, 0, 0, 0, 0, 0, 0, 2] (by kernel_rfl) ?_
    | refine W_drawL (id := 26) (by kernel_rfl) [0, 0, 0, 0, 0, 0, 0, 0, 0, 2] (by kernel_rfl) ?_
    | refine Alloc.mono ?_
    | (refine CondW_intro (fun hc => ?_) (fun hc => ?_) <;> (try simp only [Bool.not_eq_true', Bool.not_eq_false'] at hc) <;> (try simp only [hc]))
    | (refine GrdV_intro (fun hc => ?_) (fun hc => ?_) <;> (try simp only [Bool.not_eq_true', Bool.not_eq_false'] at hc) <;> (try simp only [hc]))
    | (refine GrdL_intro (fun hc => ?_) (fun hc => ?_) <;> (try simp only [Bool.not_eq_true', Bool.not_eq_false'] at hc) <;> (try simp only [hc]))))
    refine ck.mono ?_
    rintro _ G3 ⟨rfl, hC4⟩
    (repeat' (first
    | simp -implicitDefEqProofs only [WV_seq, WV_cond, WV_block, WV_skip, WV_ret, WV_exit, WV_region, WV_draw, WV_loop, thenQ_normal, thenQ_ret, thenQ_exit, blockQ_normal, blockQ_ret, blockQ_exit, V_nil, V_cons, KV_eq, VL_nil, VL_cons, KL_eq, vcl_zero, vcl_one, vcl_two, isV_same, isV_eq, monoK_eq, dOk, put, gd_none, gd_some, gdst_eq, gdv_some, gdB_true, gdB_false, gdB_undef, ev_const, ev_tmp, lit_i64, lit_i32, lit_bool, lit_pointer, lit_slice, lit_string, CondW_true, CondW_false, GrdV_true, GrdV_false, GrdL_true, GrdL_false, vc_move, vc_assign, vc_load, vc_store, vc_field, vc_indexAddr, vc_index, vc_box, vc_alloc, vc_build, vc_buildSlice, vc_makeSlice, vc_slice, vc_extract, vc_unOp, vc_convert, vc_bin, vc_pick, vc_call, vc_append, vc_len, vc_min, vc_max, vc_copy, vc_clear, pickK_true, pickK_false, stK_eq, not_bool, min_i64, max_i64, min_u16, max_u16, extract_tuple, vc_nil, nilK_ptr, int_add, int_sub, int_mul, int_eql, int_neq, int_lss, int_leq, int_gtr, int_geq, u8_add, u8_sub, u8_mul, u8_eql, u8_neq, u8_lss, u8_leq, u8_gtr, u8_geq, u16_add, u16_sub, u16_mul, u16_eql, u16_neq, u16_lss, u16_leq, u16_gtr, u16_geq, u32_add, u32_sub, u32_mul, u32_eql, u32_neq, u32_lss, u32_leq, u32_gtr, u32_geq, u64_add, u64_sub, u64_mul, u64_eql, u64_neq, u64_lss, u64_leq, u64_gtr, u64_geq, u8_and, u8_or, u8_xor, u8_andNot, u64_and, u64_or, u64_xor, u64_andNot, u8_shl_u8, u8_shl_u16, u8_shl_u64, u32_shl_u8, u32_shl_u16, u32_shl_u64, u64_shl_u8, u64_shl_u16, u64_shl_u64, u8_shr_u8, u8_shr_u16, u8_shr_u64, u64_shr_u8, u64_shr_u16, u64_shr_u64, u16_quo8, u16_rem8, u16_quo64, u16_rem64, u64_quo8, u64_rem8, u64_quo64, u64_rem64, u32_quo8, u32_rem8, u32_quo64, u32_rem64, int_quo2, int_rem2, int_quo8, int_rem8, int_quo64, int_rem64, u64_shrN, u64_shlN, fold64, fold32, i64_shl_u8, i16_eql, i16_neq, i16_lss, i16_geq, Nat.reduceEqDiff, Nat.reduceLT, Nat.reduceAdd, Nat.reduceMul, Nat.reduceSub, ↓reduceIte, if_true, if_false, eq_self, true_and, and_true, Bool.false_eq_true, Bool.not_true, Bool.not_false, reduceCtorEq, upd_get, List.getElem?_toArray, List.getElem?_cons_zero, List.getElem?_cons_succ, Option.bind_some, rdK_some, List.map_toArray, List.map_cons, List.map_nil, rd_upd, rdO_fblk, wrOk_fblk, wrO_fblk, lget_zero, lget_succ, upd_upd, agg_cells, cells_of_list, List.length_cons, List.length_nil, Nat.add_zero, pv_cells, pl_len, pl_0, pl_1, pl_2, pl_3, pl_4, pl_5, pv_fold, pv_eta, ov_eta, opv_eta, ov_cells, ol_len, ov_fold, opv_cells, opl_len, opv_fold, st_pv, st_ov, st_opv, ol_0, ol_1, ol_2, ol_3, ol_4, ol_5, ol_6, ol_7, ol_8, ol_9, opl_0, opl_1, opl_2, opl_3, opl_4, opl_5, opl_6, opl_7, wrsOk_fblk, wrsO_fblk, fblk_all, Nat.reduceLeDiff, Nat.zero_add, rdsK2, rdsK4, rdsK6, rdsK8, rdsK10, wrsK_nil, wrsK_cons, oneCell_u8, oneCell_u16, oneCell_u32, oneCell_u64, oneCell_i16, oneCell_int, oneCell_bool, oneCell_ptr, oneCell_pointer, oneCell_sl, oneCell_slice, oneCell_string, box_eq, List.all_cons, List.all_nil, Bool.and_self, Ex1_eq, Ex1_and, endQ, resH, res_tmp, res_cell, resC_ptr, tupleOf, Fabg.results114, fa_52_1, ld_5, cv_5_3, fa_57_1, ld_55, ix_55_int, ix_55_u8, ix_55_u16, ix_55_i16, fa_62_0, ldN_60, al_60, stN_60, fa_60_0, k_u8_2, tn_u8_2, fa_52_5, ld_50, fa_60_5, len_55, lenS_55, call_102, fa_62_1, ld_23, cv_3_23, fa_62_2, cv_5_50, call_155, call_134, st_50, fa_57_0, ld_26, fa_60_4, call_56, k_u16_8, k_u16_0, k_u16_1, ix_26_int, ix_26_u8, ix_26_u16, ix_26_i16, ld_30, cv_50_5, call_140, k_u8_0, tn_u8_0, st_30, k_u8_7, tn_u8_7, fa_60_2, fa_60_3, call_123, k_i16_0, cv_23_5, call_110, call_121, cv_50_3, len_26, lenS_26, call_160, t0, t3, t5, t6, t43, t44, q2]
    | refine W_drawL (id := 9) (by kernel_rfl) [0, 0, 0, 0, 0, 0, 0, 0, 0, 0, 0, 0, 0, 0, 0, 0, 0, 0, 0, 0, 0, 0] (by kernel_rfl) ?_
    | refine W_drawL (id := 19) (by kernel_rfl) [0, 0, 0, 0, 0, 0, 0, 0, 0, 0, 0, 0, 0, 2] (by kernel_rfl) ?_
    | refine W_drawL (id := 21) (by kernel_rfl) [0, 0, 0, 0, 0, 0, 0, 0, 0, 0, 0, 0, 0, 2] (by kernel_rfl) ?_
    | refine W_drawL (id := 22) (by kernel_rfl) [0, 0, 0, 0, 0, 0, 0, 0, 2] (by kernel_rfl) ?_
    | refine W_drawL (id := 26) (by kernel_rfl) [0, 0, 0, 0, 0, 0, 0, 0, 0, 2] (by kernel_rfl) ?_
    | refine Alloc.mono ?_
    | (refine CondW_intro (fun hc => ?_) (fun hc => ?_) <;> (try simp only [Bool.not_eq_true', Bool.not_eq_false'] at hc) <;> (try simp only [hc]))
    | (refine GrdV_intro (fun hc => ?_) (fun hc => ?_) <;> (try simp only [Bool.not_eq_true', Bool.not_eq_false'] at hc) <;> (try simp only [hc]))
    | (refine GrdL_intro (fun hc => ?_) (fun hc => ?_) <;> (try simp only [Bool.not_eq_true', Bool.not_eq_false'] at hc) <;> (try simp only [hc]))))
    exact ⟨m - 1, by omega, k + 1, by omega, by rw [et]; exact hC4, rfl⟩
  · exact ⟨0, by omega, hC2, by simp [upd_get], by simp [upd_get], by simp [upd_get], by simp [upd_get], by simp [upd_get], by simp [upd_get]⟩
  · rintro T G' ⟨hC3, t0, t3, t5, t6⟩
    have hS := same_trK S op S.cnt
    have hless := hT.less d1' (by simpa using d2')
    have hslot := hT.slot d1'
    have hrng := hT.range _ hh hT.live
    have hp1 : ∀ i, ((trK S op S.cnt).O i).p = (S.O i).p := hS.p
    generalize (S.O op.h.toNat).p = p at *
    have ew : (firstL p + wordsL p).toNat = (firstL p).toNat + (wordsL p).toNat := by rw [UInt16.toNat_add]; omega
    have en : (firstL p + wordsL (cntP p op.n)).toNat = (firstL p).toNat + (wordsL (cntP p op.n)).toNat := by rw [UInt16.toNat_add]; omega
    have k6 := hC3.le0 _ _ i6
    have k3 := hC3.le0 _ _ i3'
    obtain ⟨w0, w1, w2, w3, w4, w5, w6, w7⟩ := opAt_of k3
    obtain ⟨p0, p1, p2, p3, p4, p5⟩ := ptAt_of k6
    have z16 : eb ≠ b6 := fun e => by have := hC3.own; rw [e, i6] at this; cases this
    have hC4 := hC3.rebase (b := b6) (.inl (by rw [i6]; simp)) (fblk 6 (lget (pl (cntP p op.n))) 60)
    obtain ⟨ba, cap, gA, a1, a2, a3, a4, a5, a6, a7⟩ := hC4.openW (by rw [hS.len]; exact h0)
    rw [rd_upd, if_neg z16, hS.len] at a1
    rw [hS.len] at a2
    have z6 : ba ≠ b6 := fun e => by rw [e, upd_same] at a5; cases a5
    rw [upd_ne _ _ _ _ z6] at a3
    (repeat' (first
    | simp -implicitDefEqProofs only [WV_seq, WV_cond, WV_block, WV_skip, WV_ret, WV_exit, WV_region, WV_draw, WV_loop, thenQ_normal, thenQ_ret, thenQ_exit, blockQ_normal, blockQ_ret, blockQ_exit, V_nil, V_cons, KV_eq, VL_nil, VL_cons, KL_eq, vcl_zero, vcl_one, vcl_two, isV_same, isV_eq, monoK_eq, dOk, put, gd_none, gd_some, gdst_eq, gdv_some, gdB_true, gdB_false, gdB_undef, ev_const, ev_tmp, lit_i64, lit_i32, lit_bool, lit_pointer, lit_slice, lit_string, CondW_true, CondW_false, GrdV_true, GrdV_false, GrdL_true, GrdL_false, vc_move, vc_assign, vc_load, vc_store, vc_field, vc_indexAddr, vc_index, vc_box, vc_alloc, vc_build, vc_buildSlice, vc_makeSlice, vc_slice, vc_extract, vc_unOp, vc_convert, vc_bin, vc_pick, vc_call, vc_append, vc_len, vc_min, vc_max, vc_copy, vc_clear, pickK_true, pickK_false, stK_eq, not_bool, min_i64, max_i64, min_u16, max_u16, extract_tuple, vc_nil, nilK_ptr, int_add, int_sub, int_mul, int_eql, int_neq, int_lss, int_leq, int_gtr, int_geq, u8_add, u8_sub, u8_mul, u8_eql, u8_neq, u8_lss, u8_leq, u8_gtr, u8_geq, u16_add, u16_sub, u16_mul, u16_eql, u16_neq, u16_lss, u16_leq, u16_gtr, u16_geq, u32_add, u32_sub, u32_mul, u32_eql, u32_neq, u32_lss, u32_leq, u32_gtr, u32_geq, u64_add, u64_sub, u64_mul, u64_eql, u64_neq, u64_lss, u64_leq, u64_gtr, u64_geq, u8_and, u8_or, u8_xor, u8_andNot, u64_and, u64_or, u64_xor, u64_andNot, u8_shl_u8, u8_shl_u16, u8_shl_u64, u32_shl_u8, u32_shl_u16, u32_shl_u64, u64_shl_u8, u64_shl_u16, u64_shl_u64, u8_shr_u8, u8_shr_u16, u8_shr_u64, u64_shr_u8, u64_shr_u16, u64_shr_u64, u16_quo8, u16_rem8, u16_quo64, u16_rem64, u64_quo8, u64_rem8, u64_quo64, u64_rem64, u32_quo8, u32_rem8, u32_quo64, u32_rem64, int_quo2, int_rem2, int_quo8, int_rem8, int_quo64, int_rem64, u64_shrN, u64_shlN, fold64, fold32, i64_shl_u8, i16_eql, i16_neq, i16_lss, i16_geq, Nat.reduceEqDiff, Nat.reduceLT, Nat.reduceAdd, Nat.reduceMul, Nat.reduceSub, ↓reduceIte, if_true, if_false, eq_self, true_and, and_true, Bool.false_eq_true, Bool.not_true, Bool.not_false, reduceCtorEq, upd_get, List.getElem?_toArray, List.getElem?_cons_zero, List.getElem?_cons_succ, Option.bind_some, rdK_some, List.map_toArray, List.map_cons, List.map_nil, rd_upd, rdO_fblk, wrOk_fblk, wrO_fblk, lget_zero, lget_succ, upd_upd, agg_cells, cells_of_list, List.length_cons, List.length_nil, Nat.add_zero, pv_cells, pl_len, pl_0, pl_1, pl_2, pl_3, pl_4, pl_5, pv_fold, pv_eta, ov_eta, opv_eta, ov_cells, ol_len, ov_fold, opv_cells, opl_len, opv_fold, st_pv, st_ov, st_opv, ol_0, ol_1, ol_2, ol_3, ol_4, ol_5, ol_6, ol_7, ol_8, ol_9, opl_0, opl_1, opl_2, opl_3, opl_4, opl_5, opl_6, opl_7, wrsOk_fblk, wrsO_fblk, fblk_all, Nat.reduceLeDiff, Nat.zero_add, rdsK2, rdsK4, rdsK6, rdsK8, rdsK10, wrsK_nil, wrsK_cons, oneCell_u8, oneCell_u16, oneCell_u32, oneCell_u64, oneCell_i16, oneCell_int, oneCell_bool, oneCell_ptr, oneCell_pointer, oneCell_sl, oneCell_slice, oneCell_string, box_eq, List.all_cons, List.all_nil, Bool.and_self, Ex1_eq, Ex1_and, endQ, resH, res_tmp, res_cell, resC_ptr, tupleOf, Fabg.results114, fa_52_1, ld_5, cv_5_3, fa_57_1, ld_55, ix_55_int, ix_55_u8, ix_55_u16, ix_55_i16, fa_62_0, ldN_60, al_60, stN_60, fa_60_0, k_u8_2, tn_u8_2, fa_52_5, ld_50, fa_60_5, len_55, lenS_55, call_102, fa_62_1, ld_23, cv_3_23, fa_62_2, cv_5_50, call_155, call_134, st_50, fa_57_0, ld_26, fa_60_4, call_56, k_u16_8, k_u16_0, k_u16_1, ix_26_int, ix_26_u8, ix_26_u16, ix_26_i16, ld_30, cv_50_5, call_140, k_u8_0, tn_u8_0, st_30, k_u8_7, tn_u8_7, fa_60_2, fa_60_3, call_123, k_i16_0, cv_23_5, call_110, call_121, cv_50_3, len_26, lenS_26, call_160, t0, t3, t5, t6, w5, z36, Ne.symm z36, p0, p1, p2, p3, p4, p5, k6, pl_upd5, z16, a1, Option.map_some]
    | refine (extent_ok _ _).use ?_
    | refine (extent_ok _ _).useQ ?_
    | refine W_drawL (id := 9) (by kernel_rfl) [0, 0, 0, 0, 0, 0, 0, 0, 0, 0, 0, 0, 0, 0, 0, 0, 0, 0, 0, 0, 0, 0] (by kernel_rfl) ?_
    | refine W_drawL (id := 19) (by kernel_rfl) [0, 0, 0, 0, 0, 0, 0, 0, 0, 0, 0, 0, 0, 2] (by kernel_rfl) ?_
    | refine W_drawL (id := 21) (by kernel_rfl) [0, 0, 0, 0, 0, 0, 0, 0, 0, 0, 0, 0, 0, 2] (by kernel_rfl) ?_
    | refine W_drawL (id := 22) (by kernel_rfl) [0, 0, 0, 0, 0, 0, 0, 0, 2] (by kernel_rfl) ?_
    | refine W_drawL (id := 26) (by kernel_rfl) [0, 0, 0, 0, 0, 0, 0, 0, 0, 2] (by kernel_rfl) ?_
    | refine Alloc.mono ?_
    | (refine CondW_intro (fun hc => ?_) (fun hc => ?_) <;> (try simp only [Bool.not_eq_true', Bool.not_eq_false'] at hc) <;> (try simp only [hc]))
    | (refine GrdV_intro (fun hc => ?_) (fun hc => ?_) <;> (try simp only [Bool.not_eq_true', Bool.not_eq_false'] at hc) <;> (try simp only [hc]))
    | (refine GrdL_intro (fun hc => ?_) (fun hc => ?_) <;> (try simp only [Bool.not_eq_true', Bool.not_eq_false'] at hc) <;> (try simp only [hc]))))
    have ef : firstL (cntP p op.n) = firstL p := rfl
    refine sl3_26 (by omega) (by omega) ?_
    (repeat' (first
    | simp -implicitDefEqProofs only [WV_seq, WV_cond, WV_block, WV_skip, WV_ret, WV_exit, WV_region, WV_draw, WV_loop, thenQ_normal, thenQ_ret, thenQ_exit, blockQ_normal, blockQ_ret, blockQ_exit, V_nil, V_cons, KV_eq, VL_nil, VL_cons, KL_eq, vcl_zero, vcl_one, vcl_two, isV_same, isV_eq, monoK_eq, dOk, put, gd_none, gd_some, gdst_eq, gdv_some, gdB_true, gdB_false, gdB_undef, ev_const, ev_tmp, lit_i64, lit_i32, lit_bool, lit_pointer, lit_slice, lit_string, CondW_true, CondW_false, GrdV_true, GrdV_false, GrdL_true, GrdL_false, vc_move, vc_assign, vc_load, vc_store, vc_field, vc_indexAddr, vc_index, vc_box, vc_alloc, vc_build, vc_buildSlice, vc_makeSlice, vc_slice, vc_extract, vc_unOp, vc_convert, vc_bin, vc_pick, vc_call, vc_append, vc_len, vc_min, vc_max, vc_copy, vc_clear, pickK_true, pickK_false, stK_eq, not_bool, min_i64, max_i64, min_u16, max_u16, extract_tuple, vc_nil, nilK_ptr, int_add, int_sub, int_mul, int_eql, int_neq, int_lss, int_leq, int_gtr, int_geq, u8_add, u8_sub, u8_mul, u8_eql, u8_neq, u8_lss, u8_leq, u8_gtr, u8_geq, u16_add, u16_sub, u16_mul, u16_eql, u16_neq, u16_lss, u16_leq, u16_gtr, u16_geq, u32_add, u32_sub, u32_mul, u32_eql, u32_neq, u32_lss, u32_leq, u32_gtr, u32_geq, u64_add, u64_sub, u64_mul, u64_eql, u64_neq, u64_lss, u64_leq, u64_gtr, u64_geq, u8_and, u8_or, u8_xor, u8_andNot, u64_and, u64_or, u64_xor, u64_andNot, u8_shl_u8, u8_shl_u16, u8_shl_u64, u32_shl_u8, u32_shl_u16, u32_shl_u64, u64_shl_u8, u64_shl_u16, u64_shl_u64, u8_shr_u8, u8_shr_u16, u8_shr_u64, u64_shr_u8, u64_shr_u16, u64_shr_u64, u16_quo8, u16_rem8, u16_quo64, u16_rem64, u64_quo8, u64_rem8, u64_quo64, u64_rem64, u32_quo8, u32_rem8, u32_quo64, u32_rem64, int_quo2, int_rem2, int_quo8, int_rem8, int_quo64, int_rem64, u64_shrN, u64_shlN, fold64, fold32, i64_shl_u8, i16_eql, i16_neq, i16_lss, i16_geq, Nat.reduceEqDiff, Nat.reduceLT, Nat.reduceAdd, Nat.reduceMul, Nat.reduceSub, ↓reduceIte, if_true, if_false, eq_self, true_and, and_true, Bool.false_eq_true, Bool.not_true, Bool.not_false, reduceCtorEq, upd_get, List.getElem?_toArray, List.getElem?_cons_zero, List.getElem?_cons_succ, Option.bind_some, rdK_some, List.map_toArray, List.map_cons, List.map_nil, rd_upd, rdO_fblk, wrOk_fblk, wrO_fblk, lget_zero, lget_succ, upd_upd, agg_cells, cells_of_list, List.length_cons, List.length_nil, Nat.add_zero, pv_cells, pl_len, pl_0, pl_1, pl_2, pl_3, pl_4, pl_5, pv_fold, pv_eta, ov_eta, opv_eta, ov_cells, ol_len, ov_fold, opv_cells, opl_len, opv_fold, st_pv, st_ov, st_opv, ol_0, ol_1, ol_2, ol_3, ol_4, ol_5, ol_6, ol_7, ol_8, ol_9, opl_0, opl_1, opl_2, opl_3, opl_4, opl_5, opl_6, opl_7, wrsOk_fblk, wrsO_fblk, fblk_all, Nat.reduceLeDiff, Nat.zero_add, rdsK2, rdsK4, rdsK6, rdsK8, rdsK10, wrsK_nil, wrsK_cons, oneCell_u8, oneCell_u16, oneCell_u32, oneCell_u64, oneCell_i16, oneCell_int, oneCell_bool, oneCell_ptr, oneCell_pointer, oneCell_sl, oneCell_slice, oneCell_string, box_eq, List.all_cons, List.all_nil, Bool.and_self, Ex1_eq, Ex1_and, endQ, resH, res_tmp, res_cell, resC_ptr, tupleOf, Fabg.results114, fa_52_1, ld_5, cv_5_3, fa_57_1, ld_55, ix_55_int, ix_55_u8, ix_55_u16, ix_55_i16, fa_62_0, ldN_60, al_60, stN_60, fa_60_0, k_u8_2, tn_u8_2, fa_52_5, ld_50, fa_60_5, len_55, lenS_55, call_102, fa_62_1, ld_23, cv_3_23, fa_62_2, cv_5_50, call_155, call_134, st_50, fa_57_0, ld_26, fa_60_4, call_56, k_u16_8, k_u16_0, k_u16_1, ix_26_int, ix_26_u8, ix_26_u16, ix_26_i16, ld_30, cv_50_5, call_140, k_u8_0, tn_u8_0, st_30, k_u8_7, tn_u8_7, fa_60_2, fa_60_3, call_123, k_i16_0, cv_23_5, call_110, call_121, cv_50_3, len_26, lenS_26, call_160, t0, t3, t5, t6]
    | refine W_drawL (id := 9) (by kernel_rfl) [0, 0, 0, 0, 0, 0, 0, 0, 0, 0, 0, 0, 0, 0, 0, 0, 0, 0, 0, 0, 0, 0] (by kernel_rfl) ?_
    | refine W_drawL (id := 19) (by kernel_rfl) [0, 0, 0, 0, 0, 0, 0, 0, 0, 0, 0, 0, 0, 2] (by kernel_rfl) ?_
    | refine W_drawL (id := 21) (by kernel_rfl) [0, 0, 0, 0, 0, 0, 0, 0, 0, 0, 0, 0, 0, 2] (by kernel_rfl) ?_
    | refine W_drawL (id := 22) (by kernel_rfl) [0, 0, 0, 0, 0, 0, 0, 0, 2] (by kernel_rfl) ?_
    | refine W_drawL (id := 26) (by kernel_rfl) [0, 0, 0, 0, 0, 0, 0, 0, 0, 2] (by kernel_rfl) ?_
    | refine Alloc.mono ?_
    | (refine CondW_intro (fun hc => ?_) (fun hc => ?_) <;> (try simp only [Bool.not_eq_true', Bool.not_eq_false'] at hc) <;> (try simp only [hc]))
    | (refine GrdV_intro (fun hc => ?_) (fun hc => ?_) <;> (try simp only [Bool.not_eq_true', Bool.not_eq_false'] at hc) <;> (try simp only [hc]))
    | (refine GrdL_intro (fun hc => ?_) (fun hc => ?_) <;> (try simp only [Bool.not_eq_true', Bool.not_eq_false'] at hc) <;> (try simp only [hc]))))
    refine clear_26 (N := cap * 1) (g := gA) (by rw [upd_ne _ _ _ _ z6]; exact a3) (by omega) (by omega) ?_
    have hC5 := a7 (clrF gA (firstL p + wordsL (cntP p op.n)).toNat (firstL p + wordsL p).toNat) (tr2 (trK S op S.cnt) (firstL p + wordsL (cntP p op.n)).toNat (firstL p + wordsL p).toNat).A (by
      intro i hi
      unfold clrF tr2
      simp only []
      split
      · rfl
      · exact a6 i hi)
    have hH2 : Le H0 (upd H2 b6 (some (fblk 6 (lget (pl (cntP p op.n))) 60))) := by
      intro c z hz
      rw [upd_ne _ _ _ _ (fun e => by rw [e, f60] at hz; cases hz)]
      exact hH1 c z hz
    have j6 : upd H2 b6 (some (fblk 6 (lget (pl (cntP p op.n))) 60)) b6 = some (fblk 6 (lget (pl (cntP p op.n))) 60) := upd_same _ _ _
    generalize upd H2 b6 (some (fblk 6 (lget (pl (cntP p op.n))) 60)) = H3 at *
    have hC5' : EdH H3 (upd (upd G' b6 (some (fblk 6 (lget (pl (cntP p op.n))) 60))) ba (some (fblk (cap * 1) (clrF gA (firstL p + wordsL (cntP p op.n)).toNat (firstL p + wordsL p).toNat) 30))) eb (tr2 (trK S op S.cnt) (firstL p + wordsL (cntP p op.n)).toNat (firstL p + wordsL p).toNat) := hC5
    clear hC5 a7 a6 a5 a3 a2 a1 hC4 p0 p1 p2 p3 p4 p5 w0 w1 w2 w3 w4 w5 w6 w7 k6 k3 hC3 hC2 z6 i6 i3' hH1
    generalize upd (upd G' b6 (some (fblk 6 (lget (pl (cntP p op.n))) 60))) ba (some (fblk (cap * 1) (clrF gA (firstL p + wordsL (cntP p op.n)).toNat (firstL p + wordsL p).toNat) 30)) = G4 at *
    generalize hTT : (upd _ _ _ : Env) = T2
    have u0 : T2 0 = ptr eb 0 := by rw [← hTT]; simp [upd_get, t0]
    have u3 : T2 3 = ptr b3 0 := by rw [← hTT]; simp [upd_get, t3]
    have u5 : T2 5 = .int .i64 (op.h.toNat : Nat) := by rw [← hTT]; simp [upd_get, t5]
    have u6 : T2 6 = ptr b6 0 := by rw [← hTT]; simp [upd_get, t6]
    have u9 : T2 9 = u16 (firstL p) := by rw [← hTT]; simp [upd_get]
    have u10 : T2 10 = u16 (wordsL p) := by rw [← hTT]; simp [upd_get]
    have u12 : T2 12 = u16 (wordsL (cntP p op.n)) := by rw [← hTT]; simp [upd_get]
    clear hTT t0 t3 t5 t6 T
    clear a4 gA ba cap
    have hl2 : (tr2 (trK S op S.cnt) (firstL p + wordsL (cntP p op.n)).toNat (firstL p + wordsL p).toNat).len = S.len := hS.len
    have hc2 : (tr2 (trK S op S.cnt) (firstL p + wordsL (cntP p op.n)).toNat (firstL p + wordsL p).toNat).cnt = S.cnt := hS.cnt
    have hO2 : ∀ k, (tr2 (trK S op S.cnt) (firstL p + wordsL (cntP p op.n)).toNat (firstL p + wordsL p).toNat).O k = (trK S op S.cnt).O k := fun _ => rfl
    generalize tr2 (trK S op S.cnt) (firstL p + wordsL (cntP p op.n)).toNat (firstL p + wordsL p).toNat = S2 at *
    have k6 := hC5'.le0 _ _ j6
    obtain ⟨p0, p1, p2, p3, p4, p5⟩ := ptAt_of k6
    have pc : (cntP p op.n).count = op.n := rfl
    have pcc : (cntP p op.n).code = p.code := rfl
    have pcd : (cntP p op.n).data = p.data := rfl
    have pcp : (cntP p op.n).ptrs = p.ptrs := rfl
    rw [pc] at p5
    rw [pcc] at p4
    rw [pcd] at p2
    rw [pcp] at p3
    have esz : (widthL p.code).toUInt16 = elSize p := rfl
    have esz' : elSize (cntP p op.n) = elSize p := rfl
    obtain ⟨ba, cap, gA, a1, a2, a3, a4, a5, a6, a7⟩ := hC5'.openA (by rw [hl2]; exact h0)
    rw [hl2] at a1 a2 a4
    have hk4 := tr4_keep (tr3 S2 (cntP p op.n) (firstL p + wordsL (cntP p op.n) - 1).toNat) (cntP p op.n)
    have hk3 := tr3_keep S2 (cntP p op.n) (firstL p + wordsL (cntP p op.n) - 1).toNat
    rw [hk3.1, hk3.2.1, hk3.2.2, hl2, hc2] at hk4
    clear hk3
    have z6 : ba ≠ b6 := fun e => by rw [e, j6] at a6; cases a6
    have hS4 : ∃ Sx, Sx = tr4 (tr3 S2 (cntP p op.n) (firstL p + wordsL (cntP p op.n) - 1).toNat) (cntP p op.n) := ⟨_, rfl⟩
    obtain ⟨Sx, hSx⟩ := hS4
    rw [← hSx] at hk4 em
    cases c1 : (elSize p * op.n % 8 != 0)
    focus
      have c1' : elSize (cntP p op.n) * (cntP p op.n).count % 8 = 0 := by show elSize p * op.n % 8 = 0; simpa using c1
      rw [tr3, if_pos c1'] at hSx
      cases c2 : (p.code == 7)
      focus
        have c2' : ¬ p.code = 7 := by simpa using c2
        rw [tr4, if_neg (show ¬ (cntP p op.n).code = 7 from c2')] at hSx
        have hC6 := hC5'
        rw [← hSx] at hC6
        (repeat' (first
    | simp -implicitDefEqProofs only [WV_seq, WV_cond, WV_block, WV_skip, WV_ret, WV_exit, WV_region, WV_draw, WV_loop, thenQ_normal, thenQ_ret, thenQ_exit, blockQ_normal, blockQ_ret, blockQ_exit, V_nil, V_cons, KV_eq, VL_nil, VL_cons, KL_eq, vcl_zero, vcl_one, vcl_two, isV_same, isV_eq, monoK_eq, dOk, put, gd_none, gd_some, gdst_eq, gdv_some, gdB_true, gdB_false, gdB_undef, ev_const, ev_tmp, lit_i64, lit_i32, lit_bool, lit_pointer, lit_slice, lit_string, CondW_true, CondW_false, GrdV_true, GrdV_false, GrdL_true, GrdL_false, vc_move, vc_assign, vc_load, vc_store, vc_field, vc_indexAddr, vc_index, vc_box, vc_alloc, vc_build, vc_buildSlice, vc_makeSlice, vc_slice, vc_extract, vc_unOp, vc_convert, vc_bin, vc_pick, vc_call, vc_append, vc_len, vc_min, vc_max, vc_copy, vc_clear, pickK_true, pickK_false, stK_eq, not_bool, min_i64, max_i64, min_u16, max_u16, extract_tuple, vc_nil, nilK_ptr, int_add, int_sub, int_mul, int_eql, int_neq, int_lss, int_leq, int_gtr, int_geq, u8_add, u8_sub, u8_mul, u8_eql, u8_neq, u8_lss, u8_leq, u8_gtr, u8_geq, u16_add, u16_sub, u16_mul, u16_eql, u16_neq, u16_lss, u16_leq, u16_gtr, u16_geq, u32_add, u32_sub, u32_mul, u32_eql, u32_neq, u32_lss, u32_leq, u32_gtr, u32_geq, u64_add, u64_sub, u64_mul, u64_eql, u64_neq, u64_lss, u64_leq, u64_gtr, u64_geq, u8_and, u8_or, u8_xor, u8_andNot, u64_and, u64_or, u64_xor, u64_andNot, u8_shl_u8, u8_shl_u16, u8_shl_u64, u32_shl_u8, u32_shl_u16, u32_shl_u64, u64_shl_u8, u64_shl_u16, u64_shl_u64, u8_shr_u8, u8_shr_u16, u8_shr_u64, u64_shr_u8, u64_shr_u16, u64_shr_u64, u16_quo8, u16_rem8, u16_quo64, u16_rem64, u64_quo8, u64_rem8, u64_quo64, u64_rem64, u32_quo8, u32_rem8, u32_quo64, u32_rem64, int_quo2, int_rem2, int_quo8, int_rem8, int_quo64, int_rem64, u64_shrN, u64_shlN, fold64, fold32, i64_shl_u8, i16_eql, i16_neq, i16_lss, i16_geq, Nat.reduceEqDiff, Nat.reduceLT, Nat.reduceAdd, Nat.reduceMul, Nat.reduceSub, ↓reduceIte, if_true, if_false, eq_self, true_and, and_true, Bool.false_eq_true, Bool.not_true, Bool.not_false, reduceCtorEq, upd_get, List.getElem?_toArray, List.getElem?_cons_zero, List.getElem?_cons_succ, Option.bind_some, rdK_some, List.map_toArray, List.map_cons, List.map_nil, rd_upd, rdO_fblk, wrOk_fblk, wrO_fblk, lget_zero, lget_succ, upd_upd, agg_cells, cells_of_list, List.length_cons, List.length_nil, Nat.add_zero, pv_cells, pl_len, pl_0, pl_1, pl_2, pl_3, pl_4, pl_5, pv_fold, pv_eta, ov_eta, opv_eta, ov_cells, ol_len, ov_fold, opv_cells, opl_len, opv_fold, st_pv, st_ov, st_opv, ol_0, ol_1, ol_2, ol_3, ol_4, ol_5, ol_6, ol_7, ol_8, ol_9, opl_0, opl_1, opl_2, opl_3, opl_4, opl_5, opl_6, opl_7, wrsOk_fblk, wrsO_fblk, fblk_all, Nat.reduceLeDiff, Nat.zero_add, rdsK2, rdsK4, rdsK6, rdsK8, rdsK10, wrsK_nil, wrsK_cons, oneCell_u8, oneCell_u16, oneCell_u32, oneCell_u64, oneCell_i16, oneCell_int, oneCell_bool, oneCell_ptr, oneCell_pointer, oneCell_sl, oneCell_slice, oneCell_string, box_eq, List.all_cons, List.all_nil, Bool.and_self, Ex1_eq, Ex1_and, endQ, resH, res_tmp, res_cell, resC_ptr, tupleOf, Fabg.results114, fa_52_1, ld_5, cv_5_3, fa_57_1, ld_55, ix_55_int, ix_55_u8, ix_55_u16, ix_55_i16, fa_62_0, ldN_60, al_60, stN_60, fa_60_0, k_u8_2, tn_u8_2, fa_52_5, ld_50, fa_60_5, len_55, lenS_55, call_102, fa_62_1, ld_23, cv_3_23, fa_62_2, cv_5_50, call_155, call_134, st_50, fa_57_0, ld_26, fa_60_4, call_56, k_u16_8, k_u16_0, k_u16_1, ix_26_int, ix_26_u8, ix_26_u16, ix_26_i16, ld_30, cv_50_5, call_140, k_u8_0, tn_u8_0, st_30, k_u8_7, tn_u8_7, fa_60_2, fa_60_3, call_123, k_i16_0, cv_23_5, call_110, call_121, cv_50_3, len_26, lenS_26, call_160, u0, u3, u5, u6, u9, u10, u12, p4, p5, esz, c1, c2]
    | refine (width_ok _ _).use ?_
    | refine (width_ok _ _).useQ ?_
    | refine W_drawL (id := 9) (by kernel_rfl) [0, 0, 0, 0, 0, 0, 0, 0, 0, 0, 0, 0, 0, 0, 0, 0, 0, 0, 0, 0, 0, 0] (by kernel_rfl) ?_
    | refine W_drawL (id := 19) (by kernel_rfl) [0, 0, 0, 0, 0, 0, 0, 0, 0, 0, 0, 0, 0, 2] (by kernel_rfl) ?_
    | refine W_drawL (id := 21) (by kernel_rfl) [0, 0, 0, 0, 0, 0, 0, 0, 0, 0, 0, 0, 0, 2] (by kernel_rfl) ?_
    | refine W_drawL (id := 22) (by kernel_rfl) [0, 0, 0, 0, 0, 0, 0, 0, 2] (by kernel_rfl) ?_
    | refine W_drawL (id := 26) (by kernel_rfl) [0, 0, 0, 0, 0, 0, 0, 0, 0, 2] (by kernel_rfl) ?_
    | refine Alloc.mono ?_
    | (refine CondW_intro (fun hc => ?_) (fun hc => ?_) <;> (try simp only [Bool.not_eq_true', Bool.not_eq_false'] at hc) <;> (try simp only [hc]))
    | (refine GrdV_intro (fun hc => ?_) (fun hc => ?_) <;> (try simp only [Bool.not_eq_true', Bool.not_eq_false'] at hc) <;> (try simp only [hc]))
    | (refine GrdL_intro (fun hc => ?_) (fun hc => ?_) <;> (try simp only [Bool.not_eq_true', Bool.not_eq_false'] at hc) <;> (try simp only [hc]))))
        generalize G4 = G5 at hC6 ⊢
      rotate_left
      focus
        have c2' : p.code = 7 := by simpa using c2
        rw [tr4, if_pos (show (cntP p op.n).code = 7 from c2')] at hSx
        have q2 : ((firstL p).toNat < S.len) = True := eq_true (by have := hless.2.2 c2'; omega)
        have q3 : ((firstL p).toNat < cap * 1) = True := eq_true (by have := hless.2.2 c2'; omega)
        have hC6 := a7 (firstL p).toNat (makeTagL op.n p.data p.ptrs) (by rw [hl2]; have := hless.2.2 c2'; omega)
        have hSx' : Sx = { S2 with A := upd S2.A (firstL p).toNat (makeTagL op.n p.data p.ptrs) } := hSx
        rw [← hSx'] at hC6
        (repeat' (first
    | simp -implicitDefEqProofs only [WV_seq, WV_cond, WV_block, WV_skip, WV_ret, WV_exit, WV_region, WV_draw, WV_loop, thenQ_normal, thenQ_ret, thenQ_exit, blockQ_normal, blockQ_ret, blockQ_exit, V_nil, V_cons, KV_eq, VL_nil, VL_cons, KL_eq, vcl_zero, vcl_one, vcl_two, isV_same, isV_eq, monoK_eq, dOk, put, gd_none, gd_some, gdst_eq, gdv_some, gdB_true, gdB_false, gdB_undef, ev_const, ev_tmp, lit_i64, lit_i32, lit_bool, lit_pointer, lit_slice, lit_string, CondW_true, CondW_false, GrdV_true, GrdV_false, GrdL_true, GrdL_false, vc_move, vc_assign, vc_load, vc_store, vc_field, vc_indexAddr, vc_index, vc_box, vc_alloc, vc_build, vc_buildSlice, vc_makeSlice, vc_slice, vc_extract, vc_unOp, vc_convert, vc_bin, vc_pick, vc_call, vc_append, vc_len, vc_min, vc_max, vc_copy, vc_clear, pickK_true, pickK_false, stK_eq, not_bool, min_i64, max_i64, min_u16, max_u16, extract_tuple, vc_nil, nilK_ptr, int_add, int_sub, int_mul, int_eql, int_neq, int_lss, int_leq, int_gtr, int_geq, u8_add, u8_sub, u8_mul, u8_eql, u8_neq, u8_lss, u8_leq, u8_gtr, u8_geq, u16_add, u16_sub, u16_mul, u16_eql, u16_neq, u16_lss, u16_leq, u16_gtr, u16_geq, u32_add, u32_sub, u32_mul, u32_eql, u32_neq, u32_lss, u32_leq, u32_gtr, u32_geq, u64_add, u64_sub, u64_mul, u64_eql, u64_neq, u64_lss, u64_leq, u64_gtr, u64_geq, u8_and, u8_or, u8_xor, u8_andNot, u64_and, u64_or, u64_xor, u64_andNot, u8_shl_u8, u8_shl_u16, u8_shl_u64, u32_shl_u8, u32_shl_u16, u32_shl_u64, u64_shl_u8, u64_shl_u16, u64_shl_u64, u8_shr_u8, u8_shr_u16, u8_shr_u64, u64_shr_u8, u64_shr_u16, u64_shr_u64, u16_quo8, u16_rem8, u16_quo64, u16_rem64, u64_quo8, u64_rem8, u64_quo64, u64_rem64, u32_quo8, u32_rem8, u32_quo64, u32_rem64, int_quo2, int_rem2, int_quo8, int_rem8, int_quo64, int_rem64, u64_shrN, u64_shlN, fold64, fold32, i64_shl_u8, i16_eql, i16_neq, i16_lss, i16_geq, Nat.reduceEqDiff, Nat.reduceLT, Nat.reduceAdd, Nat.reduceMul, Nat.reduceSub, ↓reduceIte, if_true, if_false, eq_self, true_and, and_true, Bool.false_eq_true, Bool.not_true, Bool.not_false, reduceCtorEq, upd_get, List.getElem?_toArray, List.getElem?_cons_zero, List.getElem?_cons_succ, Option.bind_some, rdK_some, List.map_toArray, List.map_cons, List.map_nil, rd_upd, rdO_fblk, wrOk_fblk, wrO_fblk, lget_zero, lget_succ, upd_upd, agg_cells, cells_of_list, List.length_cons, List.length_nil, Nat.add_zero, pv_cells, pl_len, pl_0, pl_1, pl_2, pl_3, pl_4, pl_5, pv_fold, pv_eta, ov_eta, opv_eta, ov_cells, ol_len, ov_fold, opv_cells, opl_len, opv_fold, st_pv, st_ov, st_opv, ol_0, ol_1, ol_2, ol_3, ol_4, ol_5, ol_6, ol_7, ol_8, ol_9, opl_0, opl_1, opl_2, opl_3, opl_4, opl_5, opl_6, opl_7, wrsOk_fblk, wrsO_fblk, fblk_all, Nat.reduceLeDiff, Nat.zero_add, rdsK2, rdsK4, rdsK6, rdsK8, rdsK10, wrsK_nil, wrsK_cons, oneCell_u8, oneCell_u16, oneCell_u32, oneCell_u64, oneCell_i16, oneCell_int, oneCell_bool, oneCell_ptr, oneCell_pointer, oneCell_sl, oneCell_slice, oneCell_string, box_eq, List.all_cons, List.all_nil, Bool.and_self, Ex1_eq, Ex1_and, endQ, resH, res_tmp, res_cell, resC_ptr, tupleOf, Fabg.results114, fa_52_1, ld_5, cv_5_3, fa_57_1, ld_55, ix_55_int, ix_55_u8, ix_55_u16, ix_55_i16, fa_62_0, ldN_60, al_60, stN_60, fa_60_0, k_u8_2, tn_u8_2, fa_52_5, ld_50, fa_60_5, len_55, lenS_55, call_102, fa_62_1, ld_23, cv_3_23, fa_62_2, cv_5_50, call_155, call_134, st_50, fa_57_0, ld_26, fa_60_4, call_56, k_u16_8, k_u16_0, k_u16_1, ix_26_int, ix_26_u8, ix_26_u16, ix_26_i16, ld_30, cv_50_5, call_140, k_u8_0, tn_u8_0, st_30, k_u8_7, tn_u8_7, fa_60_2, fa_60_3, call_123, k_i16_0, cv_23_5, call_110, call_121, cv_50_3, len_26, lenS_26, call_160, u0, u3, u5, u6, u9, u10, u12, p2, p3, p4, p5, esz, c1, c2, a1, a3, q2, q3, z6, Ne.symm z6, a5, Ne.symm a5]
    | refine (width_ok _ _).use ?_
    | refine (width_ok _ _).useQ ?_
    | refine (makeTag_ok _ _ _ _).use ?_
    | refine (makeTag_ok _ _ _ _).useQ ?_
    | refine W_drawL (id := 9) (by kernel_rfl) [0, 0, 0, 0, 0, 0, 0, 0, 0, 0, 0, 0, 0, 0, 0, 0, 0, 0, 0, 0, 0, 0] (by kernel_rfl) ?_
    | refine W_drawL (id := 19) (by kernel_rfl) [0, 0, 0, 0, 0, 0, 0, 0, 0, 0, 0, 0, 0, 2] (by kernel_rfl) ?_
    | refine W_drawL (id := 21) (by kernel_rfl) [0, 0, 0, 0, 0, 0, 0, 0, 0, 0, 0, 0, 0, 2] (by kernel_rfl) ?_
    | refine W_drawL (id := 22) (by kernel_rfl) [0, 0, 0, 0, 0, 0, 0, 0, 2] (by kernel_rfl) ?_
    | refine W_drawL (id := 26) (by kernel_rfl) [0, 0, 0, 0, 0, 0, 0, 0, 0, 2] (by kernel_rfl) ?_
    | refine Alloc.mono ?_
    | (refine CondW_intro (fun hc => ?_) (fun hc => ?_) <;> (try simp only [Bool.not_eq_true', Bool.not_eq_false'] at hc) <;> (try simp only [hc]))
    | (refine GrdV_intro (fun hc => ?_) (fun hc => ?_) <;> (try simp only [Bool.not_eq_true', Bool.not_eq_false'] at hc) <;> (try simp only [hc]))
    | (refine GrdL_intro (fun hc => ?_) (fun hc => ?_) <;> (try simp only [Bool.not_eq_true', Bool.not_eq_false'] at hc) <;> (try simp only [hc]))))
        have f1 : rd G4 eb 1 = rd (upd G4 ba (some (fblk (cap * 1) (upd gA (firstL p).toNat (u64 (makeTagL op.n p.data p.ptrs))) 30))) eb 1 := by rw [rd_upd, if_neg (Ne.symm a5)]
        rw [f1]
        clear f1
        generalize upd G4 ba (some (fblk (cap * 1) (upd gA (firstL p).toNat (u64 (makeTagL op.n p.data p.ptrs))) 30)) = G5 at hC6 ⊢
      rotate_left
    rotate_left
    rotate_left
    focus
      have c1' : ¬ elSize (cntP p op.n) * (cntP p op.n).count % 8 = 0 := by show ¬ elSize p * op.n % 8 = 0; simpa using c1
      rw [tr3, if_neg c1'] at hSx
      have c2' : ¬ p.code = 7 := by
        intro h
        apply c1'
        have : elSize (cntP p op.n) = 0 := by unfold elSize; rw [pcc, h]; rfl
        rw [this]; simp
      have c2 : (p.code == 7) = false := by simpa using c2'
      rw [tr4, if_neg (show ¬ (cntP p op.n).code = 7 from c2')] at hSx
      have hn1 := hless.2.1 c1'
      have es : (firstL p + wordsL (cntP p op.n) - 1).toNat = (firstL p).toNat + (wordsL (cntP p op.n)).toNat - 1 := by
        rw [UInt16.toNat_sub_of_le]
        · rw [en]; rfl
        · rw [UInt16.le_iff_toNat_le, en]; show 1 ≤ _; omega
      have q2 : ((firstL p + wordsL (cntP p op.n) - 1).toNat < S.len) = True := eq_true (by omega)
      have q3 : ((firstL p + wordsL (cntP p op.n) - 1).toNat < cap * 1) = True := eq_true (by omega)
      have a4' := a4 (firstL p + wordsL (cntP p op.n) - 1).toNat (by omega)
      have hC6 := a7 (firstL p + wordsL (cntP p op.n) - 1).toNat (takeL (S2.A (firstL p + wordsL (cntP p op.n) - 1).toNat) 0 (elSize p * op.n % 8 * 8).toUInt8) (by rw [hl2]; omega)
      have hSx' : Sx = { S2 with A := upd S2.A (firstL p + wordsL (cntP p op.n) - 1).toNat (takeL (S2.A (firstL p + wordsL (cntP p op.n) - 1).toNat) 0 (elSize p * op.n % 8 * 8).toUInt8) } := hSx
      rw [← hSx'] at hC6
      (repeat' (first
    | simp -implicitDefEqProofs only [WV_seq, WV_cond, WV_block, WV_skip, WV_ret, WV_exit, WV_region, WV_draw, WV_loop, thenQ_normal, thenQ_ret, thenQ_exit, blockQ_normal, blockQ_ret, blockQ_exit, V_nil, V_cons, KV_eq, VL_nil, VL_cons, KL_eq, vcl_zero, vcl_one, vcl_two, isV_same, isV_eq, monoK_eq, dOk, put, gd_none, gd_some, gdst_eq, gdv_some, gdB_true, gdB_false, gdB_undef, ev_const, ev_tmp, lit_i64, lit_i32, lit_bool, lit_pointer, lit_slice, lit_string, CondW_true, CondW_false, GrdV_true, GrdV_false, GrdL_true, GrdL_false, vc_move, vc_assign, vc_load, vc_store, vc_field, vc_indexAddr, vc_index, vc_box, vc_alloc, vc_build, vc_buildSlice, vc_makeSlice, vc_slice, vc_extract, vc_unOp, vc_convert, vc_bin, vc_pick, vc_call, vc_append, vc_len, vc_min, vc_max, vc_copy, vc_clear, pickK_true, pickK_false, stK_eq, not_bool, min_i64, max_i64, min_u16, max_u16, extract_tuple, vc_nil, nilK_ptr, int_add, int_sub, int_mul, int_eql, int_neq, int_lss, int_leq, int_gtr, int_geq, u8_add, u8_sub, u8_mul, u8_eql, u8_neq, u8_lss, u8_leq, u8_gtr, u8_geq, u16_add, u16_sub, u16_mul, u16_eql, u16_neq, u16_lss, u16_leq, u16_gtr, u16_geq, u32_add, u32_sub, u32_mul, u32_eql, u32_neq, u32_lss, u32_leq, u32_gtr, u32_geq, u64_add, u64_sub, u64_mul, u64_eql, u64_neq, u64_lss, u64_leq, u64_gtr, u64_geq, u8_and, u8_or, u8_xor, u8_andNot, u64_and, u64_or, u64_xor, u64_andNot, u8_shl_u8, u8_shl_u16, u8_shl_u64, u32_shl_u8, u32_shl_u16, u32_shl_u64, u64_shl_u8, u64_shl_u16, u64_shl_u64, u8_shr_u8, u8_shr_u16, u8_shr_u64, u64_shr_u8, u64_shr_u16, u64_shr_u64, u16_quo8, u16_rem8, u16_quo64, u16_rem64, u64_quo8, u64_rem8, u64_quo64, u64_rem64, u32_quo8, u32_rem8, u32_quo64, u32_rem64, int_quo2, int_rem2, int_quo8, int_rem8, int_quo64, int_rem64, u64_shrN, u64_shlN, fold64, fold32, i64_shl_u8, i16_eql, i16_neq, i16_lss, i16_geq, Nat.reduceEqDiff, Nat.reduceLT, Nat.reduceAdd, Nat.reduceMul, Nat.reduceSub, ↓reduceIte, if_true, if_false, eq_self, true_and, and_true, Bool.false_eq_true, Bool.not_true, Bool.not_false, reduceCtorEq, upd_get, List.getElem?_toArray, List.getElem?_cons_zero, List.getElem?_cons_succ, Option.bind_some, rdK_some, List.map_toArray, List.map_cons, List.map_nil, rd_upd, rdO_fblk, wrOk_fblk, wrO_fblk, lget_zero, lget_succ, upd_upd, agg_cells, cells_of_list, List.length_cons, List.length_nil, Nat.add_zero, pv_cells, pl_len, pl_0, pl_1, pl_2, pl_3, pl_4, pl_5, pv_fold, pv_eta, ov_eta, opv_eta, ov_cells, ol_len, ov_fold, opv_cells, opl_len, opv_fold, st_pv, st_ov, st_opv, ol_0, ol_1, ol_2, ol_3, ol_4, ol_5, ol_6, ol_7, ol_8, ol_9, opl_0, opl_1, opl_2, opl_3, opl_4, opl_5, opl_6, opl_7, wrsOk_fblk, wrsO_fblk, fblk_all, Nat.reduceLeDiff, Nat.zero_add, rdsK2, rdsK4, rdsK6, rdsK8, rdsK10, wrsK_nil, wrsK_cons, oneCell_u8, oneCell_u16, oneCell_u32, oneCell_u64, oneCell_i16, oneCell_int, oneCell_bool, oneCell_ptr, oneCell_pointer, oneCell_sl, oneCell_slice, oneCell_string, box_eq, List.all_cons, List.all_nil, Bool.and_self, Ex1_eq, Ex1_and, endQ, resH, res_tmp, res_cell, resC_ptr, tupleOf, Fabg.results114, fa_52_1, ld_5, cv_5_3, fa_57_1, ld_55, ix_55_int, ix_55_u8, ix_55_u16, ix_55_i16, fa_62_0, ldN_60, al_60, stN_60, fa_60_0, k_u8_2, tn_u8_2, fa_52_5, ld_50, fa_60_5, len_55, lenS_55, call_102, fa_62_1, ld_23, cv_3_23, fa_62_2, cv_5_50, call_155, call_134, st_50, fa_57_0, ld_26, fa_60_4, call_56, k_u16_8, k_u16_0, k_u16_1, ix_26_int, ix_26_u8, ix_26_u16, ix_26_i16, ld_30, cv_50_5, call_140, k_u8_0, tn_u8_0, st_30, k_u8_7, tn_u8_7, fa_60_2, fa_60_3, call_123, k_i16_0, cv_23_5, call_110, call_121, cv_50_3, len_26, lenS_26, call_160, u0, u3, u5, u6, u9, u10, u12, p2, p3, p4, p5, esz, c1, c2, a1, a3, a4', q2, q3, z6, Ne.symm z6, a5, Ne.symm a5]
    | refine (width_ok _ _).use ?_
    | refine (width_ok _ _).useQ ?_
    | refine (take_ok _ _ _ _).use ?_
    | refine (take_ok _ _ _ _).useQ ?_
    | refine W_drawL (id := 9) (by kernel_rfl) [0, 0, 0, 0, 0, 0, 0, 0, 0, 0, 0, 0, 0, 0, 0, 0, 0, 0, 0, 0, 0, 0] (by kernel_rfl) ?_
    | refine W_drawL (id := 19) (by kernel_rfl) [0, 0, 0, 0, 0, 0, 0, 0, 0, 0, 0, 0, 0, 2] (by kernel_rfl) ?_
    | refine W_drawL (id := 21) (by kernel_rfl) [0, 0, 0, 0, 0, 0, 0, 0, 0, 0, 0, 0, 0, 2] (by kernel_rfl) ?_
    | refine W_drawL (id := 22) (by kernel_rfl) [0, 0, 0, 0, 0, 0, 0, 0, 2] (by kernel_rfl) ?_
    | refine W_drawL (id := 26) (by kernel_rfl) [0, 0, 0, 0, 0, 0, 0, 0, 0, 2] (by kernel_rfl) ?_
    | refine Alloc.mono ?_
    | (refine CondW_intro (fun hc => ?_) (fun hc => ?_) <;> (try simp only [Bool.not_eq_true', Bool.not_eq_false'] at hc) <;> (try simp only [hc]))
    | (refine GrdV_intro (fun hc => ?_) (fun hc => ?_) <;> (try simp only [Bool.not_eq_true', Bool.not_eq_false'] at hc) <;> (try simp only [hc]))
    | (refine GrdL_intro (fun hc => ?_) (fun hc => ?_) <;> (try simp only [Bool.not_eq_true', Bool.not_eq_false'] at hc) <;> (try simp only [hc]))))
      have f1 : rd G4 eb 1 = rd (upd G4 ba (some (fblk (cap * 1) (upd gA (firstL p + wordsL (cntP p op.n) - 1).toNat (u64 (takeL (S2.A (firstL p + wordsL (cntP p op.n) - 1).toNat) 0 (elSize p * op.n % 8 * 8).toUInt8))) 30))) eb 1 := by rw [rd_upd, if_neg (Ne.symm a5)]
      rw [f1]
      clear f1
      generalize upd G4 ba (some (fblk (cap * 1) (upd gA (firstL p + wordsL (cntP p op.n) - 1).toNat (u64 (takeL (S2.A (firstL p + wordsL (cntP p op.n) - 1).toNat) 0 (elSize p * op.n % 8 * 8).toUInt8))) 30)) = G5 at hC6 ⊢
    all_goals
      generalize hTT : (upd _ _ _ : Env) = T3
      have v0 : T3 0 = ptr eb 0 := by rw [← hTT]; simp [upd_get, u0]
      have v3 : T3 3 = ptr b3 0 := by rw [← hTT]; simp [upd_get, u3]
      have v5 : T3 5 = .int .i64 (op.h.toNat : Nat) := by rw [← hTT]; simp [upd_get, u5]
      have v6 : T3 6 = ptr b6 0 := by rw [← hTT]; simp [upd_get, u6]
      have v9 : T3 9 = u16 (firstL p) := by rw [← hTT]; simp [upd_get, u9]
      have v10 : T3 10 = u16 (wordsL p) := by rw [← hTT]; simp [upd_get, u10]
      clear hTT u0 u3 u5 u6 u9 u10 u12 T2 k6 p0 p1 p2 p3 p4 p5
      have hxl : Sx.len = S.len := hk4.1
      have hxc : Sx.cnt = S.cnt := hk4.2.1
      have hxO : ∀ k, Sx.O k = (trK S op S.cnt).O k := fun k => by rw [hk4.2.2]; exact hO2 k
      have hxu : (Sx.O op.h.toNat).up = (S.O op.h.toNat).up := by rw [hxO]; exact hS.up _
      have hxv : (Sx.O op.h.toNat).via = (S.O op.h.toNat).via := by rw [hxO]; exact hS.via _
      have hxp : ∀ k, (Sx.O k).p = (S.O k).p := fun k => by rw [hxO]; exact hp1 k
      obtain ⟨p0, p1, p2, p3, p4, p5⟩ := ptAt_of (hC6.le0 _ _ j6)
      obtain ⟨bo, capO, gO, b1, b2, b3', b4, b5, b6', b7, b8⟩ := hC6.openO (by rw [hxc]; omega)
      rw [hxc] at b1 b2
      have zb : bo ≠ b6 := fun e => by rw [e, j6] at b6'; cases b6'
      have hlp : (pl (cntP p op.n)).length = 6 := rfl
      have hC7 : EdH H3 (upd G5 bo (some (fblk (capO * 10) (upds gO (op.h.toNat * 10) (pl (cntP p op.n))) 62))) eb (tr5 Sx op.h.toNat (cntP p op.n)) := by
        refine b7 op.h.toNat { Sx.O op.h.toNat with p := cntP p op.n } _ (by rw [hxc]; exact hh) (fun c hc => ?_) (fun j hj => ?_)
        · rw [upds_get, if_neg (by rw [hlp]; omega)]
        · rw [upds_get, hlp]
          by_cases e : j < 6
          · rw [if_pos (by omega), show op.h.toNat * 10 + j - op.h.toNat * 10 = j by omega]
            match j, e with
            | 0, _ => rfl
            | 1, _ => rfl
            | 2, _ => rfl
            | 3, _ => rfl
            | 4, _ => rfl
            | 5, _ => rfl
          · rw [if_neg (by omega), b8 _ _ (by rw [hxc]; exact hh) hj]
            match j, hj, e with
            | 6, _, _ => rfl
            | 7, _, _ => rfl
            | 8, _, _ => rfl
            | 9, _, _ => rfl
      have y6 : rd (upd G5 bo (some (fblk (capO * 10) (upds gO (op.h.toNat * 10) (pl (cntP p op.n))) 62))) bo (op.h.toNat * 10 + 6) = some (i16 (S.O op.h.toNat).up) := by
        rw [rd_eq, upd_same, rdO_fblk, if_pos (by omega), upds_get, hlp, if_neg (by omega), b8 _ _ (by rw [hxc]; exact hh) (by omega), ← hxu]; rfl
      have y7 : rd (upd G5 bo (some (fblk (capO * 10) (upds gO (op.h.toNat * 10) (pl (cntP p op.n))) 62))) bo (op.h.toNat * 10 + 7) = some (u8 (S.O op.h.toNat).via) := by
        rw [rd_eq, upd_same, rdO_fblk, if_pos (by omega), upds_get, hlp, if_neg (by omega), b8 _ _ (by rw [hxc]; exact hh) (by omega), ← hxv]; rfl
      have b1' : rd (upd G5 bo (some (fblk (capO * 10) (upds gO (op.h.toNat * 10) (pl (cntP p op.n))) 62))) eb 1 = some (sl bo 0 S.cnt capO) := by rw [rd_upd, if_neg (Ne.symm b5)]; exact b1
      have qo : (op.h.toNat * 10 + 6 ≤ capO * 10) = True := eq_true (by omega)
      (repeat' (first
    | simp -implicitDefEqProofs only [WV_seq, WV_cond, WV_block, WV_skip, WV_ret, WV_exit, WV_region, WV_draw, WV_loop, thenQ_normal, thenQ_ret, thenQ_exit, blockQ_normal, blockQ_ret, blockQ_exit, V_nil, V_cons, KV_eq, VL_nil, VL_cons, KL_eq, vcl_zero, vcl_one, vcl_two, isV_same, isV_eq, monoK_eq, dOk, put, gd_none, gd_some, gdst_eq, gdv_some, gdB_true, gdB_false, gdB_undef, ev_const, ev_tmp, lit_i64, lit_i32, lit_bool, lit_pointer, lit_slice, lit_string, CondW_true, CondW_false, GrdV_true, GrdV_false, GrdL_true, GrdL_false, vc_move, vc_assign, vc_load, vc_store, vc_field, vc_indexAddr, vc_index, vc_box, vc_alloc, vc_build, vc_buildSlice, vc_makeSlice, vc_slice, vc_extract, vc_unOp, vc_convert, vc_bin, vc_pick, vc_call, vc_append, vc_len, vc_min, vc_max, vc_copy, vc_clear, pickK_true, pickK_false, stK_eq, not_bool, min_i64, max_i64, min_u16, max_u16, extract_tuple, vc_nil, nilK_ptr, int_add, int_sub, int_mul, int_eql, int_neq, int_lss, int_leq, int_gtr, int_geq, u8_add, u8_sub, u8_mul, u8_eql, u8_neq, u8_lss, u8_leq, u8_gtr, u8_geq, u16_add, u16_sub, u16_mul, u16_eql, u16_neq, u16_lss, u16_leq, u16_gtr, u16_geq, u32_add, u32_sub, u32_mul, u32_eql, u32_neq, u32_lss, u32_leq, u32_gtr, u32_geq, u64_add, u64_sub, u64_mul, u64_eql, u64_neq, u64_lss, u64_leq, u64_gtr, u64_geq, u8_and, u8_or, u8_xor, u8_andNot, u64_and, u64_or, u64_xor, u64_andNot, u8_shl_u8, u8_shl_u16, u8_shl_u64, u32_shl_u8, u32_shl_u16, u32_shl_u64, u64_shl_u8, u64_shl_u16, u64_shl_u64, u8_shr_u8, u8_shr_u16, u8_shr_u64, u64_shr_u8, u64_shr_u16, u64_shr_u64, u16_quo8, u16_rem8, u16_quo64, u16_rem64, u64_quo8, u64_rem8, u64_quo64, u64_rem64, u32_quo8, u32_rem8, u32_quo64, u32_rem64, int_quo2, int_rem2, int_quo8, int_rem8, int_quo64, int_rem64, u64_shrN, u64_shlN, fold64, fold32, i64_shl_u8, i16_eql, i16_neq, i16_lss, i16_geq, Nat.reduceEqDiff, Nat.reduceLT, Nat.reduceAdd, Nat.reduceMul, Nat.reduceSub, ↓reduceIte, if_true, if_false, eq_self, true_and, and_true, Bool.false_eq_true, Bool.not_true, Bool.not_false, reduceCtorEq, upd_get, List.getElem?_toArray, List.getElem?_cons_zero, List.getElem?_cons_succ, Option.bind_some, rdK_some, List.map_toArray, List.map_cons, List.map_nil, rd_upd, rdO_fblk, wrOk_fblk, wrO_fblk, lget_zero, lget_succ, upd_upd, agg_cells, cells_of_list, List.length_cons, List.length_nil, Nat.add_zero, pv_cells, pl_len, pl_0, pl_1, pl_2, pl_3, pl_4, pl_5, pv_fold, pv_eta, ov_eta, opv_eta, ov_cells, ol_len, ov_fold, opv_cells, opl_len, opv_fold, st_pv, st_ov, st_opv, ol_0, ol_1, ol_2, ol_3, ol_4, ol_5, ol_6, ol_7, ol_8, ol_9, opl_0, opl_1, opl_2, opl_3, opl_4, opl_5, opl_6, opl_7, wrsOk_fblk, wrsO_fblk, fblk_all, Nat.reduceLeDiff, Nat.zero_add, rdsK2, rdsK4, rdsK6, rdsK8, rdsK10, wrsK_nil, wrsK_cons, oneCell_u8, oneCell_u16, oneCell_u32, oneCell_u64, oneCell_i16, oneCell_int, oneCell_bool, oneCell_ptr, oneCell_pointer, oneCell_sl, oneCell_slice, oneCell_string, box_eq, List.all_cons, List.all_nil, Bool.and_self, Ex1_eq, Ex1_and, endQ, resH, res_tmp, res_cell, resC_ptr, tupleOf, Fabg.results114, fa_52_1, ld_5, cv_5_3, fa_57_1, ld_55, ix_55_int, ix_55_u8, ix_55_u16, ix_55_i16, fa_62_0, ldN_60, al_60, stN_60, fa_60_0, k_u8_2, tn_u8_2, fa_52_5, ld_50, fa_60_5, len_55, lenS_55, call_102, fa_62_1, ld_23, cv_3_23, fa_62_2, cv_5_50, call_155, call_134, st_50, fa_57_0, ld_26, fa_60_4, call_56, k_u16_8, k_u16_0, k_u16_1, ix_26_int, ix_26_u8, ix_26_u16, ix_26_i16, ld_30, cv_50_5, call_140, k_u8_0, tn_u8_0, st_30, k_u8_7, tn_u8_7, fa_60_2, fa_60_3, call_123, k_i16_0, cv_23_5, call_110, call_121, cv_50_3, len_26, lenS_26, call_160, v0, v3, v5, v6, v9, v10, b1, b3', p0, p1, p2, p3, p4, p5, qo, q1', Int.natCast_nonneg, Int.toNat_natCast]
    | refine W_drawL (id := 9) (by kernel_rfl) [0, 0, 0, 0, 0, 0, 0, 0, 0, 0, 0, 0, 0, 0, 0, 0, 0, 0, 0, 0, 0, 0] (by kernel_rfl) ?_
    | refine W_drawL (id := 19) (by kernel_rfl) [0, 0, 0, 0, 0, 0, 0, 0, 0, 0, 0, 0, 0, 2] (by kernel_rfl) ?_
    | refine W_drawL (id := 21) (by kernel_rfl) [0, 0, 0, 0, 0, 0, 0, 0, 0, 0, 0, 0, 0, 2] (by kernel_rfl) ?_
    | refine W_drawL (id := 22) (by kernel_rfl) [0, 0, 0, 0, 0, 0, 0, 0, 2] (by kernel_rfl) ?_
    | refine W_drawL (id := 26) (by kernel_rfl) [0, 0, 0, 0, 0, 0, 0, 0, 0, 2] (by kernel_rfl) ?_
    | refine Alloc.mono ?_
    | (refine CondW_intro (fun hc => ?_) (fun hc => ?_) <;> (try simp only [Bool.not_eq_true', Bool.not_eq_false'] at hc) <;> (try simp only [hc]))
    | (refine GrdV_intro (fun hc => ?_) (fun hc => ?_) <;> (try simp only [Bool.not_eq_true', Bool.not_eq_false'] at hc) <;> (try simp only [hc]))
    | (refine GrdL_intro (fun hc => ?_) (fun hc => ?_) <;> (try simp only [Bool.not_eq_true', Bool.not_eq_false'] at hc) <;> (try simp only [hc]))))
      rw [if_neg (Ne.symm b5)]
      clear p0 p1 p2 p3 p4 p5 b1 b3' b4 b7 b8 qo hC6 hC5'
      generalize upd G5 bo (some (fblk (capO * 10) (upds gO (op.h.toNat * 10) (pl (cntP p op.n))) 62)) = G6 at *
      generalize hTT : (upd _ _ _ : Env) = T4
      have v0' : T4 0 = ptr eb 0 := by rw [← hTT]; simp [upd_get, v0]
      have v5' : T4 5 = .int .i64 (op.h.toNat : Nat) := by rw [← hTT]; simp [upd_get, v5]
      have v6' : T4 6 = ptr b6 0 := by rw [← hTT]; simp [upd_get, v6]
      have v9' : T4 9 = u16 (firstL p) := by rw [← hTT]; simp [upd_get, v9]
      have v10' : T4 10 = u16 (wordsL p) := by rw [← hTT]; simp [upd_get, v10]
      clear hTT v0 v3 v5 v6 v9 v10 T3
      obtain ⟨p0, p1, p2, p3, p4, p5⟩ := ptAt_of (hC7.le0 _ _ j6)
      have z0 : (0 : Int16).toInt = 0 := rfl
      have h5l : (tr5 Sx op.h.toNat (cntP p op.n)).len = S.len := hxl
      have h5c : (tr5 Sx op.h.toNat (cntP p op.n)).cnt = S.cnt := hxc
      have h5o : (tr5 Sx op.h.toNat (cntP p op.n)).O op.h.toNat = { Sx.O op.h.toNat with p := cntP p op.n } := upd_same _ _ _
      have h5u : ((tr5 Sx op.h.toNat (cntP p op.n)).O op.h.toNat).up = (S.O op.h.toNat).up := by rw [h5o]; exact hxu
      have h5v : ((tr5 Sx op.h.toNat (cntP p op.n)).O op.h.toNat).via = (S.O op.h.toNat).via := by rw [h5o]; exact hxv
      have h5p : ∀ k, k ≠ op.h.toNat → ((tr5 Sx op.h.toNat (cntP p op.n)).O k).p = (S.O k).p := fun k hk => by
        show (upd Sx.O op.h.toNat _ k).p = _
        rw [upd_ne _ _ _ _ hk]; exact hxp k
      generalize tr5 Sx op.h.toNat (cntP p op.n) = S5 at *
      have e6 : tr6 S5 op.h.toNat (cntP p op.n) = if 0 ≤ (S5.O op.h.toNat).up.toInt then { S5 with A := upd S5.A (slotOf S5 op.h.toNat).1.toNat (pointerL (slotOf S5 op.h.toNat).1 (cntP p op.n)) } else S5 := rfl
      obtain ⟨aA, cA, aO, cO, hE7⟩ := hC7.rdr (by rw [h5l]; omega) (by rw [h5c]; omega)
      have h6l : (tr6 S5 op.h.toNat (cntP p op.n)).len = S.len := by rw [e6]; split <;> exact h5l
      have h6c : (tr6 S5 op.h.toNat (cntP p op.n)).cnt = S.cnt := by rw [e6]; split <;> exact h5c
      have e7 : tr7 (tr6 S5 op.h.toNat (cntP p op.n)) (firstL p + wordsL p).toNat = if (firstL p + wordsL p).toNat = (tr6 S5 op.h.toNat (cntP p op.n)).len then shrinkE (tr6 S5 op.h.toNat (cntP p op.n)) else tr6 S5 op.h.toNat (cntP p op.n) := rfl
      rw [h6l] at e7
      have r0' := hE7.r0
      rw [h5l] at r0'
      by_cases hu : 0 ≤ (S.O op.h.toNat).up.toInt
      focus
        have qu : decide ((S.O op.h.toNat).up.toInt ≥ 0) = true := decide_eq_true hu
        rw [if_pos (by rw [h5u]; exact hu)] at e6
        obtain ⟨s1, s2, s3⟩ := hslot hu
        have es5 : slotOf S5 op.h.toNat = slotOf S op.h.toNat := by
          unfold slotOf
          rw [h5u, h5v]
          exact slotB_congr (h5p _ s1) h5l
        have cs := slot_ok hE7 (toU8 (S.O op.h.toNat).up.toInt) (S.O op.h.toNat).via (by rw [h5c]; exact s2)
        have es6 : slotB S5 (toU8 (S.O op.h.toNat).up.toInt) (S.O op.h.toNat).via = slotOf S op.h.toNat := slotB_congr (h5p _ s1) h5l
        rw [es6] at cs
        rw [es5] at e6
        have hlt := slotB_lt S (toU8 (S.O op.h.toNat).up.toInt) (S.O op.h.toNat).via s3
        have hlt' : (slotOf S op.h.toNat).1.toNat < S.len := hlt
        obtain ⟨bw, capW, gW, w1, w2, w3, w4, w5, w6, w7⟩ := hC7.openA (by rw [h5l]; exact h0)
        have hC8 := w7 (slotOf S op.h.toNat).1.toNat (pointerL (slotOf S op.h.toNat).1 (cntP p op.n)) (by rw [h5l]; exact hlt')
        rw [← e6] at hC8
        rw [h5l] at w1 w2
        generalize slotOf S op.h.toNat = s at *
        obtain ⟨at_, ok⟩ := s
        simp only [] at cs hC8 e6 s3 hlt'
        have q2 : (at_.toNat < S.len) = True := eq_true hlt'
        have q3 : (at_.toNat < capW * 1) = True := eq_true (by omega)
        have zw : bw ≠ b6 := fun e => by rw [e, j6] at w6; cases w6
        (repeat' (first
    | simp -implicitDefEqProofs only [WV_seq, WV_cond, WV_block, WV_skip, WV_ret, WV_exit, WV_region, WV_draw, WV_loop, thenQ_normal, thenQ_ret, thenQ_exit, blockQ_normal, blockQ_ret, blockQ_exit, V_nil, V_cons, KV_eq, VL_nil, VL_cons, KL_eq, vcl_zero, vcl_one, vcl_two, isV_same, isV_eq, monoK_eq, dOk, put, gd_none, gd_some, gdst_eq, gdv_some, gdB_true, gdB_false, gdB_undef, ev_const, ev_tmp, lit_i64, lit_i32, lit_bool, lit_pointer, lit_slice, lit_string, CondW_true, CondW_false, GrdV_true, GrdV_false, GrdL_true, GrdL_false, vc_move, vc_assign, vc_load, vc_store, vc_field, vc_indexAddr, vc_index, vc_box, vc_alloc, vc_build, vc_buildSlice, vc_makeSlice, vc_slice, vc_extract, vc_unOp, vc_convert, vc_bin, vc_pick, vc_call, vc_append, vc_len, vc_min, vc_max, vc_copy, vc_clear, pickK_true, pickK_false, stK_eq, not_bool, min_i64, max_i64, min_u16, max_u16, extract_tuple, vc_nil, nilK_ptr, int_add, int_sub, int_mul, int_eql, int_neq, int_lss, int_leq, int_gtr, int_geq, u8_add, u8_sub, u8_mul, u8_eql, u8_neq, u8_lss, u8_leq, u8_gtr, u8_geq, u16_add, u16_sub, u16_mul, u16_eql, u16_neq, u16_lss, u16_leq, u16_gtr, u16_geq, u32_add, u32_sub, u32_mul, u32_eql, u32_neq, u32_lss, u32_leq, u32_gtr, u32_geq, u64_add, u64_sub, u64_mul, u64_eql, u64_neq, u64_lss, u64_leq, u64_gtr, u64_geq, u8_and, u8_or, u8_xor, u8_andNot, u64_and, u64_or, u64_xor, u64_andNot, u8_shl_u8, u8_shl_u16, u8_shl_u64, u32_shl_u8, u32_shl_u16, u32_shl_u64, u64_shl_u8, u64_shl_u16, u64_shl_u64, u8_shr_u8, u8_shr_u16, u8_shr_u64, u64_shr_u8, u64_shr_u16, u64_shr_u64, u16_quo8, u16_rem8, u16_quo64, u16_rem64, u64_quo8, u64_rem8, u64_quo64, u64_rem64, u32_quo8, u32_rem8, u32_quo64, u32_rem64, int_quo2, int_rem2, int_quo8, int_rem8, int_quo64, int_rem64, u64_shrN, u64_shlN, fold64, fold32, i64_shl_u8, i16_eql, i16_neq, i16_lss, i16_geq, Nat.reduceEqDiff, Nat.reduceLT, Nat.reduceAdd, Nat.reduceMul, Nat.reduceSub, ↓reduceIte, if_true, if_false, eq_self, true_and, and_true, Bool.false_eq_true, Bool.not_true, Bool.not_false, reduceCtorEq, upd_get, List.getElem?_toArray, List.getElem?_cons_zero, List.getElem?_cons_succ, Option.bind_some, rdK_some, List.map_toArray, List.map_cons, List.map_nil, rd_upd, rdO_fblk, wrOk_fblk, wrO_fblk, lget_zero, lget_succ, upd_upd, agg_cells, cells_of_list, List.length_cons, List.length_nil, Nat.add_zero, pv_cells, pl_len, pl_0, pl_1, pl_2, pl_3, pl_4, pl_5, pv_fold, pv_eta, ov_eta, opv_eta, ov_cells, ol_len, ov_fold, opv_cells, opl_len, opv_fold, st_pv, st_ov, st_opv, ol_0, ol_1, ol_2, ol_3, ol_4, ol_5, ol_6, ol_7, ol_8, ol_9, opl_0, opl_1, opl_2, opl_3, opl_4, opl_5, opl_6, opl_7, wrsOk_fblk, wrsO_fblk, fblk_all, Nat.reduceLeDiff, Nat.zero_add, rdsK2, rdsK4, rdsK6, rdsK8, rdsK10, wrsK_nil, wrsK_cons, oneCell_u8, oneCell_u16, oneCell_u32, oneCell_u64, oneCell_i16, oneCell_int, oneCell_bool, oneCell_ptr, oneCell_pointer, oneCell_sl, oneCell_slice, oneCell_string, box_eq, List.all_cons, List.all_nil, Bool.and_self, Ex1_eq, Ex1_and, endQ, resH, res_tmp, res_cell, resC_ptr, tupleOf, Fabg.results114, fa_52_1, ld_5, cv_5_3, fa_57_1, ld_55, ix_55_int, ix_55_u8, ix_55_u16, ix_55_i16, fa_62_0, ldN_60, al_60, stN_60, fa_60_0, k_u8_2, tn_u8_2, fa_52_5, ld_50, fa_60_5, len_55, lenS_55, call_102, fa_62_1, ld_23, cv_3_23, fa_62_2, cv_5_50, call_155, call_134, st_50, fa_57_0, ld_26, fa_60_4, call_56, k_u16_8, k_u16_0, k_u16_1, ix_26_int, ix_26_u8, ix_26_u16, ix_26_i16, ld_30, cv_50_5, call_140, k_u8_0, tn_u8_0, st_30, k_u8_7, tn_u8_7, fa_60_2, fa_60_3, call_123, k_i16_0, cv_23_5, call_110, call_121, cv_50_3, len_26, lenS_26, call_160, v0', v5', v6', v9', v10', b1', y6, y7, z0, qu, q1', p0, p1, p2, p3, p4, p5, w1, w3, q2, q3, Int.natCast_nonneg, Int.toNat_natCast]
    | refine (cs).use ?_
    | refine (cs).useQ ?_
    | refine (pointer_ok _ _ _).use ?_
    | refine (pointer_ok _ _ _).useQ ?_
    | refine W_drawL (id := 9) (by kernel_rfl) [0, 0, 0, 0, 0, 0, 0, 0, 0, 0, 0, 0, 0, 0, 0, 0, 0, 0, 0, 0, 0, 0] (by kernel_rfl) ?_
    | refine W_drawL (id := 19) (by kernel_rfl) [0, 0, 0, 0, 0, 0, 0, 0, 0, 0, 0, 0, 0, 2] (by kernel_rfl) ?_
    | refine W_drawL (id := 21) (by kernel_rfl) [0, 0, 0, 0, 0, 0, 0, 0, 0, 0, 0, 0, 0, 2] (by kernel_rfl) ?_
    | refine W_drawL (id := 22) (by kernel_rfl) [0, 0, 0, 0, 0, 0, 0, 0, 2] (by kernel_rfl) ?_
    | refine W_drawL (id := 26) (by kernel_rfl) [0, 0, 0, 0, 0, 0, 0, 0, 0, 2] (by kernel_rfl) ?_
    | refine Alloc.mono ?_
    | (refine CondW_intro (fun hc => ?_) (fun hc => ?_) <;> (try simp only [Bool.not_eq_true', Bool.not_eq_false'] at hc) <;> (try simp only [hc]))
    | (refine GrdV_intro (fun hc => ?_) (fun hc => ?_) <;> (try simp only [Bool.not_eq_true', Bool.not_eq_false'] at hc) <;> (try simp only [hc]))
    | (refine GrdL_intro (fun hc => ?_) (fun hc => ?_) <;> (try simp only [Bool.not_eq_true', Bool.not_eq_false'] at hc) <;> (try simp only [hc]))))
        rw [if_neg (Ne.symm w5)]
        clear e6
        generalize upd G6 bw (some (fblk (capW * 1) (upd gW at_.toNat (u64 (pointerL at_ (cntP p op.n)))) 30)) = G7 at *
      rotate_left
      focus
        have qu : decide ((S.O op.h.toNat).up.toInt ≥ 0) = false := decide_eq_false hu
        rw [if_neg (by rw [h5u]; exact hu)] at e6
        have hC8 := hC7
        rw [← e6] at hC8
        (repeat' (first
    | simp -implicitDefEqProofs only [WV_seq, WV_cond, WV_block, WV_skip, WV_ret, WV_exit, WV_region, WV_draw, WV_loop, thenQ_normal, thenQ_ret, thenQ_exit, blockQ_normal, blockQ_ret, blockQ_exit, V_nil, V_cons, KV_eq, VL_nil, VL_cons, KL_eq, vcl_zero, vcl_one, vcl_two, isV_same, isV_eq, monoK_eq, dOk, put, gd_none, gd_some, gdst_eq, gdv_some, gdB_true, gdB_false, gdB_undef, ev_const, ev_tmp, lit_i64, lit_i32, lit_bool, lit_pointer, lit_slice, lit_string, CondW_true, CondW_false, GrdV_true, GrdV_false, GrdL_true, GrdL_false, vc_move, vc_assign, vc_load, vc_store, vc_field, vc_indexAddr, vc_index, vc_box, vc_alloc, vc_build, vc_buildSlice, vc_makeSlice, vc_slice, vc_extract, vc_unOp, vc_convert, vc_bin, vc_pick, vc_call, vc_append, vc_len, vc_min, vc_max, vc_copy, vc_clear, pickK_true, pickK_false, stK_eq, not_bool, min_i64, max_i64, min_u16, max_u16, extract_tuple, vc_nil, nilK_ptr, int_add, int_sub, int_mul, int_eql, int_neq, int_lss, int_leq, int_gtr, int_geq, u8_add, u8_sub, u8_mul, u8_eql, u8_neq, u8_lss, u8_leq, u8_gtr, u8_geq, u16_add, u16_sub, u16_mul, u16_eql, u16_neq, u16_lss, u16_leq, u16_gtr, u16_geq, u32_add, u32_sub, u32_mul, u32_eql, u32_neq, u32_lss, u32_leq, u32_gtr, u32_geq, u64_add, u64_sub, u64_mul, u64_eql, u64_neq, u64_lss, u64_leq, u64_gtr, u64_geq, u8_and, u8_or, u8_xor, u8_andNot, u64_and, u64_or, u64_xor, u64_andNot, u8_shl_u8, u8_shl_u16, u8_shl_u64, u32_shl_u8, u32_shl_u16, u32_shl_u64, u64_shl_u8, u64_shl_u16, u64_shl_u64, u8_shr_u8, u8_shr_u16, u8_shr_u64, u64_shr_u8, u64_shr_u16, u64_shr_u64, u16_quo8, u16_rem8, u16_quo64, u16_rem64, u64_quo8, u64_rem8, u64_quo64, u64_rem64, u32_quo8, u32_rem8, u32_quo64, u32_rem64, int_quo2, int_rem2, int_quo8, int_rem8, int_quo64, int_rem64, u64_shrN, u64_shlN, fold64, fold32, i64_shl_u8, i16_eql, i16_neq, i16_lss, i16_geq, Nat.reduceEqDiff, Nat.reduceLT, Nat.reduceAdd, Nat.reduceMul, Nat.reduceSub, ↓reduceIte, if_true, if_false, eq_self, true_and, and_true, Bool.false_eq_true, Bool.not_true, Bool.not_false, reduceCtorEq, upd_get, List.getElem?_toArray, List.getElem?_cons_zero, List.getElem?_cons_succ, Option.bind_some, rdK_some, List.map_toArray, List.map_cons, List.map_nil, rd_upd, rdO_fblk, wrOk_fblk, wrO_fblk, lget_zero, lget_succ, upd_upd, agg_cells, cells_of_list, List.length_cons, List.length_nil, Nat.add_zero, pv_cells, pl_len, pl_0, pl_1, pl_2, pl_3, pl_4, pl_5, pv_fold, pv_eta, ov_eta, opv_eta, ov_cells, ol_len, ov_fold, opv_cells, opl_len, opv_fold, st_pv, st_ov, st_opv, ol_0, ol_1, ol_2, ol_3, ol_4, ol_5, ol_6, ol_7, ol_8, ol_9, opl_0, opl_1, opl_2, opl_3, opl_4, opl_5, opl_6, opl_7, wrsOk_fblk, wrsO_fblk, fblk_all, Nat.reduceLeDiff, Nat.zero_add, rdsK2, rdsK4, rdsK6, rdsK8, rdsK10, wrsK_nil, wrsK_cons, oneCell_u8, oneCell_u16, oneCell_u32, oneCell_u64, oneCell_i16, oneCell_int, oneCell_bool, oneCell_ptr, oneCell_pointer, oneCell_sl, oneCell_slice, oneCell_string, box_eq, List.all_cons, List.all_nil, Bool.and_self, Ex1_eq, Ex1_and, endQ, resH, res_tmp, res_cell, resC_ptr, tupleOf, Fabg.results114, fa_52_1, ld_5, cv_5_3, fa_57_1, ld_55, ix_55_int, ix_55_u8, ix_55_u16, ix_55_i16, fa_62_0, ldN_60, al_60, stN_60, fa_60_0, k_u8_2, tn_u8_2, fa_52_5, ld_50, fa_60_5, len_55, lenS_55, call_102, fa_62_1, ld_23, cv_3_23, fa_62_2, cv_5_50, call_155, call_134, st_50, fa_57_0, ld_26, fa_60_4, call_56, k_u16_8, k_u16_0, k_u16_1, ix_26_int, ix_26_u8, ix_26_u16, ix_26_i16, ld_30, cv_50_5, call_140, k_u8_0, tn_u8_0, st_30, k_u8_7, tn_u8_7, fa_60_2, fa_60_3, call_123, k_i16_0, cv_23_5, call_110, call_121, cv_50_3, len_26, lenS_26, call_160, v0', v5', v6', v9', v10', b1', y6, y7, z0, qu, q1', Int.natCast_nonneg, Int.toNat_natCast]
    | refine W_drawL (id := 9) (by kernel_rfl) [0, 0, 0, 0, 0, 0, 0, 0, 0, 0, 0, 0, 0, 0, 0, 0, 0, 0, 0, 0, 0, 0] (by kernel_rfl) ?_
    | refine W_drawL (id := 19) (by kernel_rfl) [0, 0, 0, 0, 0, 0, 0, 0, 0, 0, 0, 0, 0, 2] (by kernel_rfl) ?_
    | refine W_drawL (id := 21) (by kernel_rfl) [0, 0, 0, 0, 0, 0, 0, 0, 0, 0, 0, 0, 0, 2] (by kernel_rfl) ?_
    | refine W_drawL (id := 22) (by kernel_rfl) [0, 0, 0, 0, 0, 0, 0, 0, 2] (by kernel_rfl) ?_
    | refine W_drawL (id := 26) (by kernel_rfl) [0, 0, 0, 0, 0, 0, 0, 0, 0, 2] (by kernel_rfl) ?_
    | refine Alloc.mono ?_
    | (refine CondW_intro (fun hc => ?_) (fun hc => ?_) <;> (try simp only [Bool.not_eq_true', Bool.not_eq_false'] at hc) <;> (try simp only [hc]))
    | (refine GrdV_intro (fun hc => ?_) (fun hc => ?_) <;> (try simp only [Bool.not_eq_true', Bool.not_eq_false'] at hc) <;> (try simp only [hc]))
    | (refine GrdL_intro (fun hc => ?_) (fun hc => ?_) <;> (try simp only [Bool.not_eq_true', Bool.not_eq_false'] at hc) <;> (try simp only [hc]))))
        clear e6
        generalize G6 = G7 at hC8 r0' ⊢
      all_goals
        generalize tr6 S5 op.h.toNat (cntP p op.n) = S6 at *
        generalize hTT : (upd _ _ _ : Env) = T5
        have x0 : T5 0 = ptr eb 0 := by rw [← hTT]; simp [upd_get, v0']
        have x199 : T5 199 = .int .i64 ((firstL p + wordsL p).toNat : Nat) := by rw [← hTT]; simp [upd_get]
        clear hTT
        cases c3 : (((firstL p + wordsL p).toNat : Int) == (S.len : Int))
        · have c3' : ¬ (firstL p + wordsL p).toNat = S.len := by
            intro h; rw [h] at c3; simp at c3
          rw [if_neg c3'] at e7
          rw [e7] at em
          (repeat' (first
    | simp -implicitDefEqProofs only [WV_seq, WV_cond, WV_block, WV_skip, WV_ret, WV_exit, WV_region, WV_draw, WV_loop, thenQ_normal, thenQ_ret, thenQ_exit, blockQ_normal, blockQ_ret, blockQ_exit, V_nil, V_cons, KV_eq, VL_nil, VL_cons, KL_eq, vcl_zero, vcl_one, vcl_two, isV_same, isV_eq, monoK_eq, dOk, put, gd_none, gd_some, gdst_eq, gdv_some, gdB_true, gdB_false, gdB_undef, ev_const, ev_tmp, lit_i64, lit_i32, lit_bool, lit_pointer, lit_slice, lit_string, CondW_true, CondW_false, GrdV_true, GrdV_false, GrdL_true, GrdL_false, vc_move, vc_assign, vc_load, vc_store, vc_field, vc_indexAddr, vc_index, vc_box, vc_alloc, vc_build, vc_buildSlice, vc_makeSlice, vc_slice, vc_extract, vc_unOp, vc_convert, vc_bin, vc_pick, vc_call, vc_append, vc_len, vc_min, vc_max, vc_copy, vc_clear, pickK_true, pickK_false, stK_eq, not_bool, min_i64, max_i64, min_u16, max_u16, extract_tuple, vc_nil, nilK_ptr, int_add, int_sub, int_mul, int_eql, int_neq, int_lss, int_leq, int_gtr, int_geq, u8_add, u8_sub, u8_mul, u8_eql, u8_neq, u8_lss, u8_leq, u8_gtr, u8_geq, u16_add, u16_sub, u16_mul, u16_eql, u16_neq, u16_lss, u16_leq, u16_gtr, u16_geq, u32_add, u32_sub, u32_mul, u32_eql, u32_neq, u32_lss, u32_leq, u32_gtr, u32_geq, u64_add, u64_sub, u64_mul, u64_eql, u64_neq, u64_lss, u64_leq, u64_gtr, u64_geq, u8_and, u8_or, u8_xor, u8_andNot, u64_and, u64_or, u64_xor, u64_andNot, u8_shl_u8, u8_shl_u16, u8_shl_u64, u32_shl_u8, u32_shl_u16, u32_shl_u64, u64_shl_u8, u64_shl_u16, u64_shl_u64, u8_shr_u8, u8_shr_u16, u8_shr_u64, u64_shr_u8, u64_shr_u16, u64_shr_u64, u16_quo8, u16_rem8, u16_quo64, u16_rem64, u64_quo8, u64_rem8, u64_quo64, u64_rem64, u32_quo8, u32_rem8, u32_quo64, u32_rem64, int_quo2, int_rem2, int_quo8, int_rem8, int_quo64, int_rem64, u64_shrN, u64_shlN, fold64, fold32, i64_shl_u8, i16_eql, i16_neq, i16_lss, i16_geq, Nat.reduceEqDiff, Nat.reduceLT, Nat.reduceAdd, Nat.reduceMul, Nat.reduceSub, ↓reduceIte, if_true, if_false, eq_self, true_and, and_true, Bool.false_eq_true, Bool.not_true, Bool.not_false, reduceCtorEq, upd_get, List.getElem?_toArray, List.getElem?_cons_zero, List.getElem?_cons_succ, Option.bind_some, rdK_some, List.map_toArray, List.map_cons, List.map_nil, rd_upd, rdO_fblk, wrOk_fblk, wrO_fblk, lget_zero, lget_succ, upd_upd, agg_cells, cells_of_list, List.length_cons, List.length_nil, Nat.add_zero, pv_cells, pl_len, pl_0, pl_1, pl_2, pl_3, pl_4, pl_5, pv_fold, pv_eta, ov_eta, opv_eta, ov_cells, ol_len, ov_fold, opv_cells, opl_len, opv_fold, st_pv, st_ov, st_opv, ol_0, ol_1, ol_2, ol_3, ol_4, ol_5, ol_6, ol_7, ol_8, ol_9, opl_0, opl_1, opl_2, opl_3, opl_4, opl_5, opl_6, opl_7, wrsOk_fblk, wrsO_fblk, fblk_all, Nat.reduceLeDiff, Nat.zero_add, rdsK2, rdsK4, rdsK6, rdsK8, rdsK10, wrsK_nil, wrsK_cons, oneCell_u8, oneCell_u16, oneCell_u32, oneCell_u64, oneCell_i16, oneCell_int, oneCell_bool, oneCell_ptr, oneCell_pointer, oneCell_sl, oneCell_slice, oneCell_string, box_eq, List.all_cons, List.all_nil, Bool.and_self, Ex1_eq, Ex1_and, endQ, resH, res_tmp, res_cell, resC_ptr, tupleOf, Fabg.results114, fa_52_1, ld_5, cv_5_3, fa_57_1, ld_55, ix_55_int, ix_55_u8, ix_55_u16, ix_55_i16, fa_62_0, ldN_60, al_60, stN_60, fa_60_0, k_u8_2, tn_u8_2, fa_52_5, ld_50, fa_60_5, len_55, lenS_55, call_102, fa_62_1, ld_23, cv_3_23, fa_62_2, cv_5_50, call_155, call_134, st_50, fa_57_0, ld_26, fa_60_4, call_56, k_u16_8, k_u16_0, k_u16_1, ix_26_int, ix_26_u8, ix_26_u16, ix_26_i16, ld_30, cv_50_5, call_140, k_u8_0, tn_u8_0, st_30, k_u8_7, tn_u8_7, fa_60_2, fa_60_3, call_123, k_i16_0, cv_23_5, call_110, call_121, cv_50_3, len_26, lenS_26, call_160, x0, x199, r0', c3]
    | refine W_drawL (id := 9) (by kernel_rfl) [0, 0, 0, 0, 0, 0, 0, 0, 0, 0, 0, 0, 0, 0, 0, 0, 0, 0, 0, 0, 0, 0] (by kernel_rfl) ?_
    | refine W_drawL (id := 19) (by kernel_rfl) [0, 0, 0, 0, 0, 0, 0, 0, 0, 0, 0, 0, 0, 2] (by kernel_rfl) ?_
    | refine W_drawL (id := 21) (by kernel_rfl) [0, 0, 0, 0, 0, 0, 0, 0, 0, 0, 0, 0, 0, 2] (by kernel_rfl) ?_
    | refine W_drawL (id := 22) (by kernel_rfl) [0, 0, 0, 0, 0, 0, 0, 0, 2] (by kernel_rfl) ?_
    | refine W_drawL (id := 26) (by kernel_rfl) [0, 0, 0, 0, 0, 0, 0, 0, 0, 2] (by kernel_rfl) ?_
    | refine Alloc.mono ?_
    | (refine CondW_intro (fun hc => ?_) (fun hc => ?_) <;> (try simp only [Bool.not_eq_true', Bool.not_eq_false'] at hc) <;> (try simp only [hc]))
    | (refine GrdV_intro (fun hc => ?_) (fun hc => ?_) <;> (try simp only [Bool.not_eq_true', Bool.not_eq_false'] at hc) <;> (try simp only [hc]))
    | (refine GrdL_intro (fun hc => ?_) (fun hc => ?_) <;> (try simp only [Bool.not_eq_true', Bool.not_eq_false'] at hc) <;> (try simp only [hc]))))
          rw [em]
          exact ⟨_, Le.refl _, rfl, hC8.weaken hH2⟩
        · have c3' : (firstL p + wordsL p).toNat = S.len := by
            have := eq_of_beq c3
            omega
          rw [if_pos c3'] at e7
          rw [e7] at em
          (repeat' (first
    | simp -implicitDefEqProofs only [WV_seq, WV_cond, WV_block, WV_skip, WV_ret, WV_exit, WV_region, WV_draw, WV_loop, thenQ_normal, thenQ_ret, thenQ_exit, blockQ_normal, blockQ_ret, blockQ_exit, V_nil, V_cons, KV_eq, VL_nil, VL_cons, KL_eq, vcl_zero, vcl_one, vcl_two, isV_same, isV_eq, monoK_eq, dOk, put, gd_none, gd_some, gdst_eq, gdv_some, gdB_true, gdB_false, gdB_undef, ev_const, ev_tmp, lit_i64, lit_i32, lit_bool, lit_pointer, lit_slice, lit_string, CondW_true, CondW_false, GrdV_true, GrdV_false, GrdL_true, GrdL_false, vc_move, vc_assign, vc_load, vc_store, vc_field, vc_indexAddr, vc_index, vc_box, vc_alloc, vc_build, vc_buildSlice, vc_makeSlice, vc_slice, vc_extract, vc_unOp, vc_convert, vc_bin, vc_pick, vc_call, vc_append, vc_len, vc_min, vc_max, vc_copy, vc_clear, pickK_true, pickK_false, stK_eq, not_bool, min_i64, max_i64, min_u16, max_u16, extract_tuple, vc_nil, nilK_ptr, int_add, int_sub, int_mul, int_eql, int_neq, int_lss, int_leq, int_gtr, int_geq, u8_add, u8_sub, u8_mul, u8_eql, u8_neq, u8_lss, u8_leq, u8_gtr, u8_geq, u16_add, u16_sub, u16_mul, u16_eql, u16_neq, u16_lss, u16_leq, u16_gtr, u16_geq, u32_add, u32_sub, u32_mul, u32_eql, u32_neq, u32_lss, u32_leq, u32_gtr, u32_geq, u64_add, u64_sub, u64_mul, u64_eql, u64_neq, u64_lss, u64_leq, u64_gtr, u64_geq, u8_and, u8_or, u8_xor, u8_andNot, u64_and, u64_or, u64_xor, u64_andNot, u8_shl_u8, u8_shl_u16, u8_shl_u64, u32_shl_u8, u32_shl_u16, u32_shl_u64, u64_shl_u8, u64_shl_u16, u64_shl_u64, u8_shr_u8, u8_shr_u16, u8_shr_u64, u64_shr_u8, u64_shr_u16, u64_shr_u64, u16_quo8, u16_rem8, u16_quo64, u16_rem64, u64_quo8, u64_rem8, u64_quo64, u64_rem64, u32_quo8, u32_rem8, u32_quo64, u32_rem64, int_quo2, int_rem2, int_quo8, int_rem8, int_quo64, int_rem64, u64_shrN, u64_shlN, fold64, fold32, i64_shl_u8, i16_eql, i16_neq, i16_lss, i16_geq, Nat.reduceEqDiff, Nat.reduceLT, Nat.reduceAdd, Nat.reduceMul, Nat.reduceSub, ↓reduceIte, if_true, if_false, eq_self, true_and, and_true, Bool.false_eq_true, Bool.not_true, Bool.not_false, reduceCtorEq, upd_get, List.getElem?_toArray, List.getElem?_cons_zero, List.getElem?_cons_succ, Option.bind_some, rdK_some, List.map_toArray, List.map_cons, List.map_nil, rd_upd, rdO_fblk, wrOk_fblk, wrO_fblk, lget_zero, lget_succ, upd_upd, agg_cells, cells_of_list, List.length_cons, List.length_nil, Nat.add_zero, pv_cells, pl_len, pl_0, pl_1, pl_2, pl_3, pl_4, pl_5, pv_fold, pv_eta, ov_eta, opv_eta, ov_cells, ol_len, ov_fold, opv_cells, opl_len, opv_fold, st_pv, st_ov, st_opv, ol_0, ol_1, ol_2, ol_3, ol_4, ol_5, ol_6, ol_7, ol_8, ol_9, opl_0, opl_1, opl_2, opl_3, opl_4, opl_5, opl_6, opl_7, wrsOk_fblk, wrsO_fblk, fblk_all, Nat.reduceLeDiff, Nat.zero_add, rdsK2, rdsK4, rdsK6, rdsK8, rdsK10, wrsK_nil, wrsK_cons, oneCell_u8, oneCell_u16, oneCell_u32, oneCell_u64, oneCell_i16, oneCell_int, oneCell_bool, oneCell_ptr, oneCell_pointer, oneCell_sl, oneCell_slice, oneCell_string, box_eq, List.all_cons, List.all_nil, Bool.and_self, Ex1_eq, Ex1_and, endQ, resH, res_tmp, res_cell, resC_ptr, tupleOf, Fabg.results114, fa_52_1, ld_5, cv_5_3, fa_57_1, ld_55, ix_55_int, ix_55_u8, ix_55_u16, ix_55_i16, fa_62_0, ldN_60, al_60, stN_60, fa_60_0, k_u8_2, tn_u8_2, fa_52_5, ld_50, fa_60_5, len_55, lenS_55, call_102, fa_62_1, ld_23, cv_3_23, fa_62_2, cv_5_50, call_155, call_134, st_50, fa_57_0, ld_26, fa_60_4, call_56, k_u16_8, k_u16_0, k_u16_1, ix_26_int, ix_26_u8, ix_26_u16, ix_26_i16, ld_30, cv_50_5, call_140, k_u8_0, tn_u8_0, st_30, k_u8_7, tn_u8_7, fa_60_2, fa_60_3, call_123, k_i16_0, cv_23_5, call_110, call_121, cv_50_3, len_26, lenS_26, call_160, x0, x199, r0', c3]
    | refine W_drawL (id := 9) (by kernel_rfl) [0, 0, 0, 0, 0, 0, 0, 0, 0, 0, 0, 0, 0, 0, 0, 0, 0, 0, 0, 0, 0, 0] (by kernel_rfl) ?_
    | refine W_drawL (id := 19) (by kernel_rfl) [0, 0, 0, 0, 0, 0, 0, 0, 0, 0, 0, 0, 0, 2] (by kernel_rfl) ?_
    | refine W_drawL (id := 21) (by kernel_rfl) [0, 0, 0, 0, 0, 0, 0, 0, 0, 0, 0, 0, 0, 2] (by kernel_rfl) ?_
    | refine W_drawL (id := 22) (by kernel_rfl) [0, 0, 0, 0, 0, 0, 0, 0, 2] (by kernel_rfl) ?_
    | refine W_drawL (id := 26) (by kernel_rfl) [0, 0, 0, 0, 0, 0, 0, 0, 0, 2] (by kernel_rfl) ?_
    | refine Alloc.mono ?_
    | (refine CondW_intro (fun hc => ?_) (fun hc => ?_) <;> (try simp only [Bool.not_eq_true', Bool.not_eq_false'] at hc) <;> (try simp only [hc]))
    | (refine GrdV_intro (fun hc => ?_) (fun hc => ?_) <;> (try simp only [Bool.not_eq_true', Bool.not_eq_false'] at hc) <;> (try simp only [hc]))
    | (refine GrdL_intro (fun hc => ?_) (fun hc => ?_) <;> (try simp only [Bool.not_eq_true', Bool.not_eq_false'] at hc) <;> (try simp only [hc]))))
          refine (shrink_ok hC8 (by rw [h6l]; exact h0) (by rw [h6l]; exact h1) (by rw [h6c]; exact h2)).mono ?_
          rintro _ G8 ⟨rfl, hC9⟩
          (repeat' (first
    | simp -implicitDefEqProofs only [WV_seq, WV_cond, WV_block, WV_skip, WV_ret, WV_exit, WV_region, WV_draw, WV_loop, thenQ_normal, thenQ_ret, thenQ_exit, blockQ_normal, blockQ_ret, blockQ_exit, V_nil, V_cons, KV_eq, VL_nil, VL_cons, KL_eq, vcl_zero, vcl_one, vcl_two, isV_same, isV_eq, monoK_eq, dOk, put, gd_none, gd_some, gdst_eq, gdv_some, gdB_true, gdB_false, gdB_undef, ev_const, ev_tmp, lit_i64, lit_i32, lit_bool, lit_pointer, lit_slice, lit_string, CondW_true, CondW_false, GrdV_true, GrdV_false, GrdL_true, GrdL_false, vc_move, vc_assign, vc_load, vc_store, vc_field, vc_indexAddr, vc_index, vc_box, vc_alloc, vc_build, vc_buildSlice, vc_makeSlice, vc_slice, vc_extract, vc_unOp, vc_convert, vc_bin, vc_pick, vc_call, vc_append, vc_len, vc_min, vc_max, vc_copy, vc_clear, pickK_true, pickK_false, stK_eq, not_bool, min_i64, max_i64, min_u16, max_u16, extract_tuple, vc_nil, nilK_ptr, int_add, int_sub, int_mul, int_eql, int_neq, int_lss, int_leq, int_gtr, int_geq, u8_add, u8_sub, u8_mul, u8_eql, u8_neq, u8_lss, u8_leq, u8_gtr, u8_geq, u16_add, u16_sub, u16_mul, u16_eql, u16_neq, u16_lss, u16_leq, u16_gtr, u16_geq, u32_add, u32_sub, u32_mul, u32_eql, u32_neq, u32_lss, u32_leq, u32_gtr, u32_geq, u64_add, u64_sub, u64_mul, u64_eql, u64_neq, u64_lss, u64_leq, u64_gtr, u64_geq, u8_and, u8_or, u8_xor, u8_andNot, u64_and, u64_or, u64_xor, u64_andNot, u8_shl_u8, u8_shl_u16, u8_shl_u64, u32_shl_u8, u32_shl_u16, u32_shl_u64, u64_shl_u8, u64_shl_u16, u64_shl_u64, u8_shr_u8, u8_shr_u16, u8_shr_u64, u64_shr_u8, u64_shr_u16, u64_shr_u64, u16_quo8, u16_rem8, u16_quo64, u16_rem64, u64_quo8, u64_rem8, u64_quo64, u64_rem64, u32_quo8, u32_rem8, u32_quo64, u32_rem64, int_quo2, int_rem2, int_quo8, int_rem8, int_quo64, int_rem64, u64_shrN, u64_shlN, fold64, fold32, i64_shl_u8, i16_eql, i16_neq, i16_lss, i16_geq, Nat.reduceEqDiff, Nat.reduceLT, Nat.reduceAdd, Nat.reduceMul, Nat.reduceSub, ↓reduceIte, if_true, if_false, eq_self, true_and, and_true, Bool.false_eq_true, Bool.not_true, Bool.not_false, reduceCtorEq, upd_get, List.getElem?_toArray, List.getElem?_cons_zero, List.getElem?_cons_succ, Option.bind_some, rdK_some, List.map_toArray, List.map_cons, List.map_nil, rd_upd, rdO_fblk, wrOk_fblk, wrO_fblk, lget_zero, lget_succ, upd_upd, agg_cells, cells_of_list, List.length_cons, List.length_nil, Nat.add_zero, pv_cells, pl_len, pl_0, pl_1, pl_2, pl_3, pl_4, pl_5, pv_fold, pv_eta, ov_eta, opv_eta, ov_cells, ol_len, ov_fold, opv_cells, opl_len, opv_fold, st_pv, st_ov, st_opv, ol_0, ol_1, ol_2, ol_3, ol_4, ol_5, ol_6, ol_7, ol_8, ol_9, opl_0, opl_1, opl_2, opl_3, opl_4, opl_5, opl_6, opl_7, wrsOk_fblk, wrsO_fblk, fblk_all, Nat.reduceLeDiff, Nat.zero_add, rdsK2, rdsK4, rdsK6, rdsK8, rdsK10, wrsK_nil, wrsK_cons, oneCell_u8, oneCell_u16, oneCell_u32, oneCell_u64, oneCell_i16, oneCell_int, oneCell_bool, oneCell_ptr, oneCell_pointer, oneCell_sl, oneCell_slice, oneCell_string, box_eq, List.all_cons, List.all_nil, Bool.and_self, Ex1_eq, Ex1_and, endQ, resH, res_tmp, res_cell, resC_ptr, tupleOf, Fabg.results114, fa_52_1, ld_5, cv_5_3, fa_57_1, ld_55, ix_55_int, ix_55_u8, ix_55_u16, ix_55_i16, fa_62_0, ldN_60, al_60, stN_60, fa_60_0, k_u8_2, tn_u8_2, fa_52_5, ld_50, fa_60_5, len_55, lenS_55, call_102, fa_62_1, ld_23, cv_3_23, fa_62_2, cv_5_50, call_155, call_134, st_50, fa_57_0, ld_26, fa_60_4, call_56, k_u16_8, k_u16_0, k_u16_1, ix_26_int, ix_26_u8, ix_26_u16, ix_26_i16, ld_30, cv_50_5, call_140, k_u8_0, tn_u8_0, st_30, k_u8_7, tn_u8_7, fa_60_2, fa_60_3, call_123, k_i16_0, cv_23_5, call_110, call_121, cv_50_3, len_26, lenS_26, call_160]
    | refine W_drawL (id := 9) (by kernel_rfl) [0, 0, 0, 0, 0, 0, 0, 0, 0, 0, 0, 0, 0, 0, 0, 0, 0, 0, 0, 0, 0, 0] (by kernel_rfl) ?_
    | refine W_drawL (id := 19) (by kernel_rfl) [0, 0, 0, 0, 0, 0, 0, 0, 0, 0, 0, 0, 0, 2] (by kernel_rfl) ?_
    | refine W_drawL (id := 21) (by kernel_rfl) [0, 0, 0, 0, 0, 0, 0, 0, 0, 0, 0, 0, 0, 2] (by kernel_rfl) ?_
    | refine W_drawL (id := 22) (by kernel_rfl) [0, 0, 0, 0, 0, 0, 0, 0, 2] (by kernel_rfl) ?_
    | refine W_drawL (id := 26) (by kernel_rfl) [0, 0, 0, 0, 0, 0, 0, 0, 0, 2] (by kernel_rfl) ?_
    | refine Alloc.mono ?_
    | (refine CondW_intro (fun hc => ?_) (fun hc => ?_) <;> (try simp only [Bool.not_eq_true', Bool.not_eq_false'] at hc) <;> (try simp only [hc]))
    | (refine GrdV_intro (fun hc => ?_) (fun hc => ?_) <;> (try simp only [Bool.not_eq_true', Bool.not_eq_false'] at hc) <;> (try simp only [hc]))
    | (refine GrdL_intro (fun hc => ?_) (fun hc => ?_) <;> (try simp only [Bool.not_eq_true', Bool.not_eq_false'] at hc) <;> (try simp only [hc]))))
          rw [em]
          exact ⟨_, Le.refl _, rfl, hC9.weaken hH2⟩
end Eng
end Go.Proofs.Ygcfab
