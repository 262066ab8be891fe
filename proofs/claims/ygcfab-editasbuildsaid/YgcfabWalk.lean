/-
  The walks of package valid.
-/
import Derived.Test.YgcfabWire2
set_option linter.unusedSimpArgs false
set_option linter.unusedVariables false
set_option maxRecDepth 100000
namespace Go.Proofs.Ygcfab
namespace Eng

structure WalkS where
  set : Nat → UInt64
  sat : Nat → UInt16
  sdep : Nat → UInt8
  sp : UInt16
def walkF (S : WalkS) (o : Nat) : Value :=
  if o < 4 then u64 (S.set o) else if o < 516 then (if o % 2 = 0 then u16 (S.sat ((o - 4) / 2)) else u8 (S.sdep ((o - 4) / 2))) else u16 S.sp
theorem walkF_set (S : WalkS) (i : Nat) (h : i < 4) : walkF S i = u64 (S.set i) := by simp [walkF, h]
theorem walkF_at (S : WalkS) (i : Nat) (h : i < 256) : walkF S (4 + i * 2) = u16 (S.sat i) := by
  unfold walkF
  rw [if_neg (by omega), if_pos (by omega), if_pos (by omega), show (4 + i * 2 - 4) / 2 = i by omega]
theorem walkF_dep (S : WalkS) (i : Nat) (h : i < 256) : walkF S (4 + i * 2 + 1) = u8 (S.sdep i) := by
  unfold walkF
  rw [if_neg (by omega), if_pos (by omega), if_neg (by omega), show (4 + i * 2 + 1 - 4) / 2 = i by omega]
theorem walkF_sp (S : WalkS) : walkF S 516 = u16 S.sp := by simp [walkF]
def WalkS.push1 (S : WalkS) (a : UInt16) (d : UInt8) : WalkS := { S with sat := upd S.sat S.sp.toNat a, sdep := upd S.sdep S.sp.toNat d, sp := S.sp + 1 }
def WalkS.pushTo (S : WalkS) (a : UInt16) (d : UInt8) : Nat → WalkS
  | 0 => S
  | k + 1 => (S.pushTo a d k).push1 (a + UInt16.ofNat k) d
def WalkS.pushL (S : WalkS) (a n : UInt16) (d : UInt8) : WalkS := S.pushTo a d (min n.toNat (256 - S.sp.toNat))
theorem upd_self {H : Heap} {b : Nat} {x : Obj} (h : H b = some x) : upd H b (some x) = H := by
  funext c
  by_cases hc : c = b
  · subst hc; rw [upd_same, h]
  · rw [upd_ne _ _ _ _ hc]
theorem pushTo_sp (S : WalkS) (a : UInt16) (d : UInt8) : ∀ k, S.sp.toNat + k ≤ 256 → (S.pushTo a d k).sp.toNat = S.sp.toNat + k
  | 0, _ => rfl
  | k + 1, h => by
    have ih := pushTo_sp S a d k (by omega)
    simp only [WalkS.pushTo, WalkS.push1]
    rw [UInt16.toNat_add, ih]
    have : (1 : UInt16).toNat = 1 := rfl
    omega
/-- what the stores of one push leave -/
theorem walkF_push1 (S : WalkS) (a : UInt16) (d : UInt8) (h : S.sp.toNat < 256) (e : TypeId) :
    fblk 517 (upd (upd (upd (walkF S) (4 + S.sp.toNat * 2) (u16 a)) (4 + S.sp.toNat * 2 + 1) (u8 d)) 516 (u16 (S.sp + 1))) e = fblk 517 (walkF (S.push1 a d)) e := by
  apply fblk_congr
  intro i hi
  simp only [upd_get]
  by_cases h1 : i = 516
  · subst h1; rw [if_pos rfl, walkF_sp]; rfl
  rw [if_neg h1]
  by_cases h2 : i = 4 + S.sp.toNat * 2 + 1
  · subst h2; rw [if_pos rfl, walkF_dep _ _ h]; simp [WalkS.push1, upd_same]
  rw [if_neg h2]
  by_cases h3 : i = 4 + S.sp.toNat * 2
  · subst h3; rw [if_pos rfl, walkF_at _ _ h]; simp [WalkS.push1, upd_same]
  rw [if_neg h3]
  unfold walkF
  by_cases h4 : i < 4
  · simp [h4, WalkS.push1]
  have h5 : i < 516 := by omega
  simp only [h4, h5, if_false, if_true, WalkS.push1]
  have hne : (i - 4) / 2 ≠ S.sp.toNat := by omega
  simp only [upd_ne _ _ _ _ hne]

theorem wpush_ok (S : WalkS) (b : Nat) (a n : UInt16) (d : UInt8) (H : Heap) (hb : H b = some (fblk 517 (walkF S) 107)) (hsp : S.sp.toNat ≤ 256) :
    Fn Fabg.prog 93 #[ptr b 0, u16 a, u16 n, u8 d] H (fun r H' => r = .tuple #[] ∧ H' = upd H b (some (fblk 517 (walkF (S.pushL a n d)) 107))) := by
  refine Fn_of Fabg.func93 rfl Fabg.ntmps93 (by simp) (WV_sound _ _ _ _ ?_)
  rw [argEnv4]
  simp -implicitDefEqProofs only [WV_seq, WV_cond, WV_block, WV_skip, WV_ret, WV_exit, WV_region, WV_draw, WV_loop, thenQ_normal, thenQ_ret, thenQ_exit, blockQ_normal, blockQ_ret, blockQ_exit, V_nil, V_cons, KV_eq, VL_nil, VL_cons, KL_eq, vcl_zero, vcl_one, vcl_two, isV_same, isV_eq, monoK_eq, dOk, put, gd_none, gd_some, gdst_eq, gdv_some, gdB_true, gdB_false, gdB_undef, ev_const, ev_tmp, lit_i64, lit_i32, lit_bool, lit_pointer, lit_slice, lit_string, CondW_true, CondW_false, GrdV_true, GrdV_false, GrdL_true, GrdL_false, vc_move, vc_assign, vc_load, vc_store, vc_field, vc_indexAddr, vc_index, vc_box, vc_alloc, vc_build, vc_buildSlice, vc_makeSlice, vc_slice, vc_extract, vc_unOp, vc_convert, vc_bin, vc_pick, vc_call, vc_append, vc_len, vc_min, vc_max, vc_copy, vc_clear, pickK_true, pickK_false, stK_eq, not_bool, min_i64, max_i64, min_u16, max_u16, extract_tuple, vc_nil, nilK_ptr, int_add, int_sub, int_mul, int_eql, int_neq, int_lss, int_leq, int_gtr, int_geq, u8_add, u8_sub, u8_mul, u8_eql, u8_neq, u8_lss, u8_leq, u8_gtr, u8_geq, u16_add, u16_sub, u16_mul, u16_eql, u16_neq, u16_lss, u16_leq, u16_gtr, u16_geq, u32_add, u32_sub, u32_mul, u32_eql, u32_neq, u32_lss, u32_leq, u32_gtr, u32_geq, u64_add, u64_sub, u64_mul, u64_eql, u64_neq, u64_lss, u64_leq, u64_gtr, u64_geq, u8_and, u8_or, u8_xor, u8_andNot, u64_and, u64_or, u64_xor, u64_andNot, u8_shl_u8, u8_shl_u16, u8_shl_u64, u32_shl_u8, u32_shl_u16, u32_shl_u64, u64_shl_u8, u64_shl_u16, u64_shl_u64, u8_shr_u8, u8_shr_u16, u8_shr_u64, u64_shr_u8, u64_shr_u16, u64_shr_u64, u16_quo8, u16_rem8, u16_quo64, u16_rem64, u64_quo8, u64_rem8, u64_quo64, u64_rem64, u32_quo8, u32_rem8, u32_quo64, u32_rem64, int_quo2, int_rem2, int_quo8, int_rem8, int_quo64, int_rem64, u64_shrN, u64_shlN, fold64, fold32, i64_shl_u8, i16_eql, i16_neq, i16_lss, i16_geq, Nat.reduceEqDiff, Nat.reduceLT, Nat.reduceAdd, Nat.reduceMul, Nat.reduceSub, ↓reduceIte, if_true, if_false, eq_self, true_and, and_true, Bool.false_eq_true, Bool.not_true, Bool.not_false, reduceCtorEq, upd_get, List.getElem?_toArray, List.getElem?_cons_zero, List.getElem?_cons_succ, Option.bind_some, rdK_some, List.map_toArray, List.map_cons, List.map_nil, rd_upd, rdO_fblk, wrOk_fblk, wrO_fblk, lget_zero, lget_succ, upd_upd, agg_cells, cells_of_list, List.length_cons, List.length_nil, pv_cells, pl_len, pl_0, pl_1, pl_2, pl_3, pl_4, pl_5, pv_fold, pv_eta, ov_eta, opv_eta, ov_cells, ol_len, ov_fold, opv_cells, opl_len, opv_fold, st_pv, st_ov, st_opv, ol_0, ol_1, ol_2, ol_3, ol_4, ol_5, ol_6, ol_7, ol_8, ol_9, opl_0, opl_1, opl_2, opl_3, opl_4, opl_5, opl_6, opl_7, wrsOk_fblk, wrsO_fblk, fblk_all, Nat.reduceLeDiff, Nat.zero_add, rdsK2, rdsK4, rdsK6, rdsK8, rdsK10, wrsK_nil, wrsK_cons, oneCell_u8, oneCell_u16, oneCell_u32, oneCell_u64, oneCell_i16, oneCell_int, oneCell_bool, oneCell_ptr, oneCell_pointer, oneCell_sl, oneCell_slice, oneCell_string, box_eq, List.all_cons, List.all_nil, Bool.and_self, Ex1_eq, Ex1_and, endQ, resH, res_tmp, res_cell, resC_ptr, tupleOf, Fabg.results93, k_u16_0, fa_107_2, ld_50, k_u16_256, bd_104_0_1, fa_107_1, ix_105_int, ix_105_u8, ix_105_u16, ix_105_i16, stN_104, k_u16_1, st_50]
  refine W_loop (fun m T G => ∃ k : Nat, k + m = n.toNat ∧ S.sp.toNat + k ≤ 256 ∧ T 0 = ptr b 0 ∧ T 1 = u16 a ∧ T 2 = u16 n ∧ T 3 = u8 d ∧ T 8 = u16 (UInt16.ofNat k) ∧ G = upd H b (some (fblk 517 (walkF (S.pushTo a d k)) 107))) ?_ n.toNat _ _ ?_
  · rintro m T G ⟨k, hk, hk2, t0, t1, t2, t3, t8, rfl⟩
    refine WV_sound _ _ _ _ ?_
    have hs := pushTo_sp S a d k hk2
    have hnl := n.toNat_lt
    have hkn : (UInt16.ofNat k).toNat = k := by rw [UInt16.toNat_ofNat']; omega
    have hwf := walkF_sp (S.pushTo a d k)
    generalize hSk : S.pushTo a d k = Sk at *
    by_cases hlt : Sk.sp.toNat < 256
    · have q1 : (516 = 4 + Sk.sp.toNat * 2) = False := by simp; omega
      have q2 : (516 = 4 + Sk.sp.toNat * 2 + 1) = False := by simp; omega
      have q3 : (4 + Sk.sp.toNat * 2 ≤ 515) = True := by simp; omega
      have hw1 := walkF_push1 Sk (a + UInt16.ofNat k) d hlt 107
      (repeat' (first
    | simp -implicitDefEqProofs only [WV_seq, WV_cond, WV_block, WV_skip, WV_ret, WV_exit, WV_region, WV_draw, WV_loop, thenQ_normal, thenQ_ret, thenQ_exit, blockQ_normal, blockQ_ret, blockQ_exit, V_nil, V_cons, KV_eq, VL_nil, VL_cons, KL_eq, vcl_zero, vcl_one, vcl_two, isV_same, isV_eq, monoK_eq, dOk, put, gd_none, gd_some, gdst_eq, gdv_some, gdB_true, gdB_false, gdB_undef, ev_const, ev_tmp, lit_i64, lit_i32, lit_bool, lit_pointer, lit_slice, lit_string, CondW_true, CondW_false, GrdV_true, GrdV_false, GrdL_true, GrdL_false, vc_move, vc_assign, vc_load, vc_store, vc_field, vc_indexAddr, vc_index, vc_box, vc_alloc, vc_build, vc_buildSlice, vc_makeSlice, vc_slice, vc_extract, vc_unOp, vc_convert, vc_bin, vc_pick, vc_call, vc_append, vc_len, vc_min, vc_max, vc_copy, vc_clear, pickK_true, pickK_false, stK_eq, not_bool, min_i64, max_i64, min_u16, max_u16, extract_tuple, vc_nil, nilK_ptr, int_add, int_sub, int_mul, int_eql, int_neq, int_lss, int_leq, int_gtr, int_geq, u8_add, u8_sub, u8_mul, u8_eql, u8_neq, u8_lss, u8_leq, u8_gtr, u8_geq, u16_add, u16_sub, u16_mul, u16_eql, u16_neq, u16_lss, u16_leq, u16_gtr, u16_geq, u32_add, u32_sub, u32_mul, u32_eql, u32_neq, u32_lss, u32_leq, u32_gtr, u32_geq, u64_add, u64_sub, u64_mul, u64_eql, u64_neq, u64_lss, u64_leq, u64_gtr, u64_geq, u8_and, u8_or, u8_xor, u8_andNot, u64_and, u64_or, u64_xor, u64_andNot, u8_shl_u8, u8_shl_u16, u8_shl_u64, u32_shl_u8, u32_shl_u16, u32_shl_u64, u64_shl_u8, u64_shl_u16, u64_shl_u64, u8_shr_u8, u8_shr_u16, u8_shr_u64, u64_shr_u8, u64_shr_u16, u64_shr_u64, u16_quo8, u16_rem8, u16_quo64, u16_rem64, u64_quo8, u64_rem8, u64_quo64, u64_rem64, u32_quo8, u32_rem8, u32_quo64, u32_rem64, int_quo2, int_rem2, int_quo8, int_rem8, int_quo64, int_rem64, u64_shrN, u64_shlN, fold64, fold32, i64_shl_u8, i16_eql, i16_neq, i16_lss, i16_geq, Nat.reduceEqDiff, Nat.reduceLT, Nat.reduceAdd, Nat.reduceMul, Nat.reduceSub, ↓reduceIte, if_true, if_false, eq_self, true_and, and_true, Bool.false_eq_true, Bool.not_true, Bool.not_false, reduceCtorEq, upd_get, List.getElem?_toArray, List.getElem?_cons_zero, List.getElem?_cons_succ, Option.bind_some, rdK_some, List.map_toArray, List.map_cons, List.map_nil, rd_upd, rdO_fblk, wrOk_fblk, wrO_fblk, lget_zero, lget_succ, upd_upd, agg_cells, cells_of_list, List.length_cons, List.length_nil, pv_cells, pl_len, pl_0, pl_1, pl_2, pl_3, pl_4, pl_5, pv_fold, pv_eta, ov_eta, opv_eta, ov_cells, ol_len, ov_fold, opv_cells, opl_len, opv_fold, st_pv, st_ov, st_opv, ol_0, ol_1, ol_2, ol_3, ol_4, ol_5, ol_6, ol_7, ol_8, ol_9, opl_0, opl_1, opl_2, opl_3, opl_4, opl_5, opl_6, opl_7, wrsOk_fblk, wrsO_fblk, fblk_all, Nat.reduceLeDiff, Nat.zero_add, rdsK2, rdsK4, rdsK6, rdsK8, rdsK10, wrsK_nil, wrsK_cons, oneCell_u8, oneCell_u16, oneCell_u32, oneCell_u64, oneCell_i16, oneCell_int, oneCell_bool, oneCell_ptr, oneCell_pointer, oneCell_sl, oneCell_slice, oneCell_string, box_eq, List.all_cons, List.all_nil, Bool.and_self, Ex1_eq, Ex1_and, endQ, resH, res_tmp, res_cell, resC_ptr, tupleOf, Fabg.results93, k_u16_0, fa_107_2, ld_50, k_u16_256, bd_104_0_1, fa_107_1, ix_105_int, ix_105_u8, ix_105_u16, ix_105_i16, stN_104, k_u16_1, st_50, t0, t1, t2, t3, t8, hwf, hlt, q1, q2, q3, upds_cons, upds_nil, hw1]
    | refine W_drawL (id := 3) (by kernel_rfl) [0, 0, 0, 0, 0, 0, 0, 0, 0, 0, 0, 0, 0, 2] (by kernel_rfl) ?_
    | refine Alloc.mono ?_
    | (refine CondW_intro (fun hc => ?_) (fun hc => ?_) <;> (try simp only [Bool.not_eq_true', Bool.not_eq_false'] at hc) <;> (try simp only [hc]))
    | (refine GrdV_intro (fun hc => ?_) (fun hc => ?_) <;> (try simp only [Bool.not_eq_true', Bool.not_eq_false'] at hc) <;> (try simp only [hc]))
    | (refine GrdL_intro (fun hc => ?_) (fun hc => ?_) <;> (try simp only [Bool.not_eq_true', Bool.not_eq_false'] at hc) <;> (try simp only [hc]))))
      · refine ⟨m - 1, ?_, k + 1, ?_, ?_, ?_⟩
        all_goals (have hc' := of_decide_eq_true ‹decide (UInt16.ofNat k < n) = true›; rw [UInt16.lt_iff_toNat_lt, hkn] at hc')
        · omega
        · omega
        · omega
        · refine ⟨?_, ?_⟩
          · congr 1
            apply UInt16.toNat_inj.1
            rw [UInt16.toNat_add, hkn, UInt16.toNat_ofNat', show (1 : UInt16).toNat = 1 from rfl]
          · rw [WalkS.pushTo, hSk]
      all_goals (first
        | (exfalso; have hc' := of_decide_eq_false hc; rw [UInt16.lt_iff_toNat_lt] at hc'; have : (256 : UInt16).toNat = 256 := rfl; omega)
        | (have hc' := of_decide_eq_false hc
           rw [UInt16.lt_iff_toNat_lt, hkn] at hc'
           exact ⟨_, Le.refl _, by rw [WalkS.pushL, show min n.toNat (256 - S.sp.toNat) = k by omega, hSk]⟩))
    · have e : WalkS.pushL S a n d = Sk := by rw [WalkS.pushL, show min n.toNat (256 - S.sp.toNat) = k by omega, hSk]
      (repeat' (first
    | simp -implicitDefEqProofs only [WV_seq, WV_cond, WV_block, WV_skip, WV_ret, WV_exit, WV_region, WV_draw, WV_loop, thenQ_normal, thenQ_ret, thenQ_exit, blockQ_normal, blockQ_ret, blockQ_exit, V_nil, V_cons, KV_eq, VL_nil, VL_cons, KL_eq, vcl_zero, vcl_one, vcl_two, isV_same, isV_eq, monoK_eq, dOk, put, gd_none, gd_some, gdst_eq, gdv_some, gdB_true, gdB_false, gdB_undef, ev_const, ev_tmp, lit_i64, lit_i32, lit_bool, lit_pointer, lit_slice, lit_string, CondW_true, CondW_false, GrdV_true, GrdV_false, GrdL_true, GrdL_false, vc_move, vc_assign, vc_load, vc_store, vc_field, vc_indexAddr, vc_index, vc_box, vc_alloc, vc_build, vc_buildSlice, vc_makeSlice, vc_slice, vc_extract, vc_unOp, vc_convert, vc_bin, vc_pick, vc_call, vc_append, vc_len, vc_min, vc_max, vc_copy, vc_clear, pickK_true, pickK_false, stK_eq, not_bool, min_i64, max_i64, min_u16, max_u16, extract_tuple, vc_nil, nilK_ptr, int_add, int_sub, int_mul, int_eql, int_neq, int_lss, int_leq, int_gtr, int_geq, u8_add, u8_sub, u8_mul, u8_eql, u8_neq, u8_lss, u8_leq, u8_gtr, u8_geq, u16_add, u16_sub, u16_mul, u16_eql, u16_neq, u16_lss, u16_leq, u16_gtr, u16_geq, u32_add, u32_sub, u32_mul, u32_eql, u32_neq, u32_lss, u32_leq, u32_gtr, u32_geq, u64_add, u64_sub, u64_mul, u64_eql, u64_neq, u64_lss, u64_leq, u64_gtr, u64_geq, u8_and, u8_or, u8_xor, u8_andNot, u64_and, u64_or, u64_xor, u64_andNot, u8_shl_u8, u8_shl_u16, u8_shl_u64, u32_shl_u8, u32_shl_u16, u32_shl_u64, u64_shl_u8, u64_shl_u16, u64_shl_u64, u8_shr_u8, u8_shr_u16, u8_shr_u64, u64_shr_u8, u64_shr_u16, u64_shr_u64, u16_quo8, u16_rem8, u16_quo64, u16_rem64, u64_quo8, u64_rem8, u64_quo64, u64_rem64, u32_quo8, u32_rem8, u32_quo64, u32_rem64, int_quo2, int_rem2, int_quo8, int_rem8, int_quo64, int_rem64, u64_shrN, u64_shlN, fold64, fold32, i64_shl_u8, i16_eql, i16_neq, i16_lss, i16_geq, Nat.reduceEqDiff, Nat.reduceLT, Nat.reduceAdd, Nat.reduceMul, Nat.reduceSub, ↓reduceIte, if_true, if_false, eq_self, true_and, and_true, Bool.false_eq_true, Bool.not_true, Bool.not_false, reduceCtorEq, upd_get, List.getElem?_toArray, List.getElem?_cons_zero, List.getElem?_cons_succ, Option.bind_some, rdK_some, List.map_toArray, List.map_cons, List.map_nil, rd_upd, rdO_fblk, wrOk_fblk, wrO_fblk, lget_zero, lget_succ, upd_upd, agg_cells, cells_of_list, List.length_cons, List.length_nil, pv_cells, pl_len, pl_0, pl_1, pl_2, pl_3, pl_4, pl_5, pv_fold, pv_eta, ov_eta, opv_eta, ov_cells, ol_len, ov_fold, opv_cells, opl_len, opv_fold, st_pv, st_ov, st_opv, ol_0, ol_1, ol_2, ol_3, ol_4, ol_5, ol_6, ol_7, ol_8, ol_9, opl_0, opl_1, opl_2, opl_3, opl_4, opl_5, opl_6, opl_7, wrsOk_fblk, wrsO_fblk, fblk_all, Nat.reduceLeDiff, Nat.zero_add, rdsK2, rdsK4, rdsK6, rdsK8, rdsK10, wrsK_nil, wrsK_cons, oneCell_u8, oneCell_u16, oneCell_u32, oneCell_u64, oneCell_i16, oneCell_int, oneCell_bool, oneCell_ptr, oneCell_pointer, oneCell_sl, oneCell_slice, oneCell_string, box_eq, List.all_cons, List.all_nil, Bool.and_self, Ex1_eq, Ex1_and, endQ, resH, res_tmp, res_cell, resC_ptr, tupleOf, Fabg.results93, k_u16_0, fa_107_2, ld_50, k_u16_256, bd_104_0_1, fa_107_1, ix_105_int, ix_105_u8, ix_105_u16, ix_105_i16, stN_104, k_u16_1, st_50, t0, t1, t2, t3, t8, hwf]
    | refine W_drawL (id := 3) (by kernel_rfl) [0, 0, 0, 0, 0, 0, 0, 0, 0, 0, 0, 0, 0, 2] (by kernel_rfl) ?_
    | refine Alloc.mono ?_
    | (refine CondW_intro (fun hc => ?_) (fun hc => ?_) <;> (try simp only [Bool.not_eq_true', Bool.not_eq_false'] at hc) <;> (try simp only [hc]))
    | (refine GrdV_intro (fun hc => ?_) (fun hc => ?_) <;> (try simp only [Bool.not_eq_true', Bool.not_eq_false'] at hc) <;> (try simp only [hc]))
    | (refine GrdL_intro (fun hc => ?_) (fun hc => ?_) <;> (try simp only [Bool.not_eq_true', Bool.not_eq_false'] at hc) <;> (try simp only [hc]))))
      · exfalso
        have hc' := of_decide_eq_true hc; rw [UInt16.lt_iff_toNat_lt] at hc'; have : (256 : UInt16).toNat = 256 := rfl; omega
      all_goals exact ⟨_, Le.refl _, by rw [e]⟩
  · exact ⟨0, by simp, by omega, by simp [upd_get], by simp [upd_get], by simp [upd_get], by simp [upd_get], by simp [upd_get], (upd_self hb).symm⟩

/-! claim -/
def maskR (at_ run : Nat) : UInt64 := putL 0 18446744073709551615 (UInt8.ofNat (at_ % 64)) (UInt8.ofNat run)
/-- the words of a range, taken up to 64 at a time; fuel for the rounds -/
def claimTo (set : Nat → UInt64) : Nat → Nat → Nat → Bool × (Nat → UInt64)
  | 0, _, _ => (true, set)
  | f + 1, a, n =>
    if n = 0 then (true, set)
    else
      let run := min (64 - a % 64) n
      if set (a / 64) &&& maskR a run ≠ 0 then (false, set)
      else claimTo (upd set (a / 64) (set (a / 64) ||| maskR a run)) f (a + run) (n - run)

/-! words of 16 bits as numbers -/
theorem tn16 {a : Nat} (h : a < 65536) : (UInt16.ofNat a).toNat = a := by rw [UInt16.toNat_ofNat']; exact Nat.mod_eq_of_lt h
theorem eq16 {x : UInt16} {a : Nat} (h : x.toNat = a) : x = UInt16.ofNat a := by rw [← h]; exact UInt16.ofNat_toNat.symm
theorem add16 {a b : Nat} (h : a + b < 65536) : UInt16.ofNat a + UInt16.ofNat b = UInt16.ofNat (a + b) := eq16 (by rw [UInt16.toNat_add, tn16 (by omega), tn16 (by omega)]; exact Nat.mod_eq_of_lt h)
theorem sub16 {a b : Nat} (h : a < 65536) (hb : b ≤ a) : UInt16.ofNat a - UInt16.ofNat b = UInt16.ofNat (a - b) :=
  eq16 (by rw [UInt16.toNat_sub_of_le _ _ (UInt16.le_iff_toNat_le.2 (by rw [tn16 (by omega), tn16 h]; exact hb)), tn16 h, tn16 (by omega)])
theorem mod16 {a : Nat} (h : a < 65536) : UInt16.ofNat a % 64 = UInt16.ofNat (a % 64) := eq16 (by rw [UInt16.toNat_mod, tn16 h]; rfl)
theorem div16 {a : Nat} (h : a < 65536) : UInt16.ofNat a / 64 = UInt16.ofNat (a / 64) := eq16 (by rw [UInt16.toNat_div, tn16 h]; rfl)
theorem min16 {a b : Nat} (h : a < 65536) (hb : b < 65536) : min (UInt16.ofNat a) (UInt16.ofNat b) = UInt16.ofNat (min a b) := by
  show (if UInt16.ofNat a ≤ UInt16.ofNat b then UInt16.ofNat a else UInt16.ofNat b) = _
  by_cases hle : a ≤ b
  · rw [if_pos (UInt16.le_iff_toNat_le.2 (by rw [tn16 h, tn16 hb]; exact hle)), Nat.min_eq_left hle]
  · rw [if_neg (fun e => hle (by have := UInt16.le_iff_toNat_le.1 e; rw [tn16 h, tn16 hb] at this; exact this)), Nat.min_eq_right (by omega)]
theorem to8 {a : Nat} (h : a < 65536) : (UInt16.ofNat a).toUInt8 = UInt8.ofNat a := by
  apply UInt8.toNat_inj.1
  rw [UInt16.toNat_toUInt8, UInt8.toNat_ofNat', tn16 h]
theorem pos16 {a : Nat} (h : a < 65536) : decide (UInt16.ofNat a > 0) = decide (0 < a) := by
  rw [decide_eq_decide]
  show (0 : UInt16) < UInt16.ofNat a ↔ _
  rw [UInt16.lt_iff_toNat_lt, tn16 h]; rfl
theorem walkF_set1 (S : WalkS) (i : Nat) (h : i < 4) (x : UInt64) (e : TypeId) : fblk 517 (upd (walkF S) i (u64 x)) e = fblk 517 (walkF { S with set := upd S.set i x }) e := by
  apply fblk_congr
  intro j hj
  by_cases hji : j = i
  · subst hji; rw [upd_same, walkF_set _ _ h]; simp [upd_same]
  · rw [upd_ne _ _ _ _ hji]
    unfold walkF
    by_cases h4 : j < 4
    · simp [h4, upd_ne _ _ _ _ hji]
    · simp [h4]

theorem claim_ok (S : WalkS) (b : Nat) (p : Ptr) (H : Heap) (hb : H b = some (fblk 517 (walkF S) 107)) (hp : 0 < (wordsL p).toNat → (firstL p).toNat + (wordsL p).toNat ≤ 256) :
    Fn Fabg.prog 94 #[ptr b 0, pv p] H (fun r H' => r = .bool (claimTo S.set (wordsL p).toNat (firstL p).toNat (wordsL p).toNat).1 ∧
      H' = upd H b (some (fblk 517 (walkF { S with set := (claimTo S.set (wordsL p).toNat (firstL p).toNat (wordsL p).toNat).2 }) 107))) := by
  generalize hR : claimTo S.set (wordsL p).toNat (firstL p).toNat (wordsL p).toNat = R
  refine Fn_of Fabg.func94 rfl Fabg.ntmps94 (by simp) (WV_sound _ _ _ _ ?_)
  rw [argEnv2]
  simp -implicitDefEqProofs only [WV_seq, WV_cond, WV_block, WV_skip, WV_ret, WV_exit, WV_region, WV_draw, WV_loop, thenQ_normal, thenQ_ret, thenQ_exit, blockQ_normal, blockQ_ret, blockQ_exit, V_nil, V_cons, KV_eq, VL_nil, VL_cons, KL_eq, vcl_zero, vcl_one, vcl_two, isV_same, isV_eq, monoK_eq, dOk, put, gd_none, gd_some, gdst_eq, gdv_some, gdB_true, gdB_false, gdB_undef, ev_const, ev_tmp, lit_i64, lit_i32, lit_bool, lit_pointer, lit_slice, lit_string, CondW_true, CondW_false, GrdV_true, GrdV_false, GrdL_true, GrdL_false, vc_move, vc_assign, vc_load, vc_store, vc_field, vc_indexAddr, vc_index, vc_box, vc_alloc, vc_build, vc_buildSlice, vc_makeSlice, vc_slice, vc_extract, vc_unOp, vc_convert, vc_bin, vc_pick, vc_call, vc_append, vc_len, vc_min, vc_max, vc_copy, vc_clear, pickK_true, pickK_false, stK_eq, not_bool, min_i64, max_i64, min_u16, max_u16, extract_tuple, vc_nil, nilK_ptr, int_add, int_sub, int_mul, int_eql, int_neq, int_lss, int_leq, int_gtr, int_geq, u8_add, u8_sub, u8_mul, u8_eql, u8_neq, u8_lss, u8_leq, u8_gtr, u8_geq, u16_add, u16_sub, u16_mul, u16_eql, u16_neq, u16_lss, u16_leq, u16_gtr, u16_geq, u32_add, u32_sub, u32_mul, u32_eql, u32_neq, u32_lss, u32_leq, u32_gtr, u32_geq, u64_add, u64_sub, u64_mul, u64_eql, u64_neq, u64_lss, u64_leq, u64_gtr, u64_geq, u8_and, u8_or, u8_xor, u8_andNot, u64_and, u64_or, u64_xor, u64_andNot, u8_shl_u8, u8_shl_u16, u8_shl_u64, u32_shl_u8, u32_shl_u16, u32_shl_u64, u64_shl_u8, u64_shl_u16, u64_shl_u64, u8_shr_u8, u8_shr_u16, u8_shr_u64, u64_shr_u8, u64_shr_u16, u64_shr_u64, u16_quo8, u16_rem8, u16_quo64, u16_rem64, u64_quo8, u64_rem8, u64_quo64, u64_rem64, u32_quo8, u32_rem8, u32_quo64, u32_rem64, int_quo2, int_rem2, int_quo8, int_rem8, int_quo64, int_rem64, u64_shrN, u64_shlN, fold64, fold32, i64_shl_u8, i16_eql, i16_neq, i16_lss, i16_geq, Nat.reduceEqDiff, Nat.reduceLT, Nat.reduceAdd, Nat.reduceMul, Nat.reduceSub, ↓reduceIte, if_true, if_false, eq_self, true_and, and_true, Bool.false_eq_true, Bool.not_true, Bool.not_false, reduceCtorEq, upd_get, List.getElem?_toArray, List.getElem?_cons_zero, List.getElem?_cons_succ, Option.bind_some, rdK_some, List.map_toArray, List.map_cons, List.map_nil, rd_upd, rdO_fblk, wrOk_fblk, wrO_fblk, lget_zero, lget_succ, upd_upd, agg_cells, cells_of_list, List.length_cons, List.length_nil, pv_cells, pl_len, pl_0, pl_1, pl_2, pl_3, pl_4, pl_5, pv_fold, pv_eta, ov_eta, opv_eta, ov_cells, ol_len, ov_fold, opv_cells, opl_len, opv_fold, st_pv, st_ov, st_opv, ol_0, ol_1, ol_2, ol_3, ol_4, ol_5, ol_6, ol_7, ol_8, ol_9, opl_0, opl_1, opl_2, opl_3, opl_4, opl_5, opl_6, opl_7, wrsOk_fblk, wrsO_fblk, fblk_all, Nat.reduceLeDiff, Nat.zero_add, rdsK2, rdsK4, rdsK6, rdsK8, rdsK10, wrsK_nil, wrsK_cons, oneCell_u8, oneCell_u16, oneCell_u32, oneCell_u64, oneCell_i16, oneCell_int, oneCell_bool, oneCell_ptr, oneCell_pointer, oneCell_sl, oneCell_slice, oneCell_string, box_eq, List.all_cons, List.all_nil, Bool.and_self, Ex1_eq, Ex1_and, endQ, resH, res_tmp, res_cell, resC_ptr, tupleOf, Fabg.results94, ldN_60, call_134, k_u16_0, k_u16_64, cv_50_5, call_130, k_u64_0, tn_u64_0, k_u64_18446744073709551615, fa_107_0, ix_31_int, ix_31_u8, ix_31_u16, ix_31_i16, ld_30, st_30]
  refine ⟨fun b1 hb1 => ?_⟩
  have hd : H b ≠ none := by rw [hb]; simp
  have n1 := ne_fresh hd hb1
  have n2 := n1.symm
  (repeat' (first
    | simp -implicitDefEqProofs only [WV_seq, WV_cond, WV_block, WV_skip, WV_ret, WV_exit, WV_region, WV_draw, WV_loop, thenQ_normal, thenQ_ret, thenQ_exit, blockQ_normal, blockQ_ret, blockQ_exit, V_nil, V_cons, KV_eq, VL_nil, VL_cons, KL_eq, vcl_zero, vcl_one, vcl_two, isV_same, isV_eq, monoK_eq, dOk, put, gd_none, gd_some, gdst_eq, gdv_some, gdB_true, gdB_false, gdB_undef, ev_const, ev_tmp, lit_i64, lit_i32, lit_bool, lit_pointer, lit_slice, lit_string, CondW_true, CondW_false, GrdV_true, GrdV_false, GrdL_true, GrdL_false, vc_move, vc_assign, vc_load, vc_store, vc_field, vc_indexAddr, vc_index, vc_box, vc_alloc, vc_build, vc_buildSlice, vc_makeSlice, vc_slice, vc_extract, vc_unOp, vc_convert, vc_bin, vc_pick, vc_call, vc_append, vc_len, vc_min, vc_max, vc_copy, vc_clear, pickK_true, pickK_false, stK_eq, not_bool, min_i64, max_i64, min_u16, max_u16, extract_tuple, vc_nil, nilK_ptr, int_add, int_sub, int_mul, int_eql, int_neq, int_lss, int_leq, int_gtr, int_geq, u8_add, u8_sub, u8_mul, u8_eql, u8_neq, u8_lss, u8_leq, u8_gtr, u8_geq, u16_add, u16_sub, u16_mul, u16_eql, u16_neq, u16_lss, u16_leq, u16_gtr, u16_geq, u32_add, u32_sub, u32_mul, u32_eql, u32_neq, u32_lss, u32_leq, u32_gtr, u32_geq, u64_add, u64_sub, u64_mul, u64_eql, u64_neq, u64_lss, u64_leq, u64_gtr, u64_geq, u8_and, u8_or, u8_xor, u8_andNot, u64_and, u64_or, u64_xor, u64_andNot, u8_shl_u8, u8_shl_u16, u8_shl_u64, u32_shl_u8, u32_shl_u16, u32_shl_u64, u64_shl_u8, u64_shl_u16, u64_shl_u64, u8_shr_u8, u8_shr_u16, u8_shr_u64, u64_shr_u8, u64_shr_u16, u64_shr_u64, u16_quo8, u16_rem8, u16_quo64, u16_rem64, u64_quo8, u64_rem8, u64_quo64, u64_rem64, u32_quo8, u32_rem8, u32_quo64, u32_rem64, int_quo2, int_rem2, int_quo8, int_rem8, int_quo64, int_rem64, u64_shrN, u64_shlN, fold64, fold32, i64_shl_u8, i16_eql, i16_neq, i16_lss, i16_geq, Nat.reduceEqDiff, Nat.reduceLT, Nat.reduceAdd, Nat.reduceMul, Nat.reduceSub, ↓reduceIte, if_true, if_false, eq_self, true_and, and_true, Bool.false_eq_true, Bool.not_true, Bool.not_false, reduceCtorEq, upd_get, List.getElem?_toArray, List.getElem?_cons_zero, List.getElem?_cons_succ, Option.bind_some, rdK_some, List.map_toArray, List.map_cons, List.map_nil, rd_upd, rdO_fblk, wrOk_fblk, wrO_fblk, lget_zero, lget_succ, upd_upd, agg_cells, cells_of_list, List.length_cons, List.length_nil, pv_cells, pl_len, pl_0, pl_1, pl_2, pl_3, pl_4, pl_5, pv_fold, pv_eta, ov_eta, opv_eta, ov_cells, ol_len, ov_fold, opv_cells, opl_len, opv_fold, st_pv, st_ov, st_opv, ol_0, ol_1, ol_2, ol_3, ol_4, ol_5, ol_6, ol_7, ol_8, ol_9, opl_0, opl_1, opl_2, opl_3, opl_4, opl_5, opl_6, opl_7, wrsOk_fblk, wrsO_fblk, fblk_all, Nat.reduceLeDiff, Nat.zero_add, rdsK2, rdsK4, rdsK6, rdsK8, rdsK10, wrsK_nil, wrsK_cons, oneCell_u8, oneCell_u16, oneCell_u32, oneCell_u64, oneCell_i16, oneCell_int, oneCell_bool, oneCell_ptr, oneCell_pointer, oneCell_sl, oneCell_slice, oneCell_string, box_eq, List.all_cons, List.all_nil, Bool.and_self, Ex1_eq, Ex1_and, endQ, resH, res_tmp, res_cell, resC_ptr, tupleOf, Fabg.results94, ldN_60, call_134, k_u16_0, k_u16_64, cv_50_5, call_130, k_u64_0, tn_u64_0, k_u64_18446744073709551615, fa_107_0, ix_31_int, ix_31_u8, ix_31_u16, ix_31_i16, ld_30, st_30, n1, n2]
    | refine (extent_ok _ _).use ?_
    | refine (extent_ok _ _).useQ ?_
    | refine W_drawL (id := 7) (by kernel_rfl) [0, 0, 0, 0, 0, 0, 0, 0, 0, 0, 0, 0, 2] (by kernel_rfl) ?_
    | refine Alloc.mono ?_
    | (refine CondW_intro (fun hc => ?_) (fun hc => ?_) <;> (try simp only [Bool.not_eq_true', Bool.not_eq_false'] at hc) <;> (try simp only [hc]))
    | (refine GrdV_intro (fun hc => ?_) (fun hc => ?_) <;> (try simp only [Bool.not_eq_true', Bool.not_eq_false'] at hc) <;> (try simp only [hc]))
    | (refine GrdL_intro (fun hc => ?_) (fun hc => ?_) <;> (try simp only [Bool.not_eq_true', Bool.not_eq_false'] at hc) <;> (try simp only [hc]))))
  refine W_loop (fun m T G => ∃ (f a n : Nat) (set : Nat → UInt64), m = n ∧ n ≤ f ∧ (0 < n → a + n ≤ 256) ∧ a < 65536 ∧ n < 65536 ∧ claimTo set f a n = R ∧ T 0 = ptr b 0 ∧ T 5 = u16 (UInt16.ofNat a) ∧ T 6 = u16 (UInt16.ofNat n) ∧
    G = upd (upd H b1 (some (fblk 6 (lget (pl p)) 60))) b (some (fblk 517 (walkF { S with set := set }) 107))) ?_ (wordsL p).toNat _ _ ?_
  · rintro n T G ⟨f, a, _, set, rfl, hf, hn, ha, hnn, hcl, t0, t5, t6, rfl⟩
    refine WV_sound _ _ _ _ ?_
    have q0 := pos16 hnn
    by_cases hpos : 0 < n
    · have h256 := hn hpos
      have q1 := mod16 ha
      have q2 : (64 : UInt16) - UInt16.ofNat (a % 64) = UInt16.ofNat (64 - a % 64) := sub16 (a := 64) (by omega) (by omega)
      have q3 := min16 (a := 64 - a % 64) (b := n) (by omega) hnn
      have q4 := to8 (a := a % 64) (by omega)
      have q5 := to8 (a := min (64 - a % 64) n) (by omega)
      have q6 := div16 ha
      have q7 := tn16 (a := a / 64) (by omega)
      have q8 : (a / 64 < 4) = True := by simp; omega
      have q8' : (a / 64 < 517) = True := by simp; omega
      have q9 := add16 (a := a) (b := min (64 - a % 64) n) (by omega)
      have q10 := sub16 (a := n) (b := min (64 - a % 64) n) hnn (by omega)
      have q11 := walkF_set { S with set := set } (a / 64) (by omega)
      have q12 := fun x => walkF_set1 { S with set := set } (a / 64) (by omega) x 107
      have q13 : maskR a (min (64 - a % 64) n) = putL 0 18446744073709551615 (UInt8.ofNat (a % 64)) (UInt8.ofNat (min (64 - a % 64) n)) := rfl
      have q0' : decide (0 < n) = true := by simp [hpos]
      (repeat' (first
    | simp -implicitDefEqProofs only [WV_seq, WV_cond, WV_block, WV_skip, WV_ret, WV_exit, WV_region, WV_draw, WV_loop, thenQ_normal, thenQ_ret, thenQ_exit, blockQ_normal, blockQ_ret, blockQ_exit, V_nil, V_cons, KV_eq, VL_nil, VL_cons, KL_eq, vcl_zero, vcl_one, vcl_two, isV_same, isV_eq, monoK_eq, dOk, put, gd_none, gd_some, gdst_eq, gdv_some, gdB_true, gdB_false, gdB_undef, ev_const, ev_tmp, lit_i64, lit_i32, lit_bool, lit_pointer, lit_slice, lit_string, CondW_true, CondW_false, GrdV_true, GrdV_false, GrdL_true, GrdL_false, vc_move, vc_assign, vc_load, vc_store, vc_field, vc_indexAddr, vc_index, vc_box, vc_alloc, vc_build, vc_buildSlice, vc_makeSlice, vc_slice, vc_extract, vc_unOp, vc_convert, vc_bin, vc_pick, vc_call, vc_append, vc_len, vc_min, vc_max, vc_copy, vc_clear, pickK_true, pickK_false, stK_eq, not_bool, min_i64, max_i64, min_u16, max_u16, extract_tuple, vc_nil, nilK_ptr, int_add, int_sub, int_mul, int_eql, int_neq, int_lss, int_leq, int_gtr, int_geq, u8_add, u8_sub, u8_mul, u8_eql, u8_neq, u8_lss, u8_leq, u8_gtr, u8_geq, u16_add, u16_sub, u16_mul, u16_eql, u16_neq, u16_lss, u16_leq, u16_gtr, u16_geq, u32_add, u32_sub, u32_mul, u32_eql, u32_neq, u32_lss, u32_leq, u32_gtr, u32_geq, u64_add, u64_sub, u64_mul, u64_eql, u64_neq, u64_lss, u64_leq, u64_gtr, u64_geq, u8_and, u8_or, u8_xor, u8_andNot, u64_and, u64_or, u64_xor, u64_andNot, u8_shl_u8, u8_shl_u16, u8_shl_u64, u32_shl_u8, u32_shl_u16, u32_shl_u64, u64_shl_u8, u64_shl_u16, u64_shl_u64, u8_shr_u8, u8_shr_u16, u8_shr_u64, u64_shr_u8, u64_shr_u16, u64_shr_u64, u16_quo8, u16_rem8, u16_quo64, u16_rem64, u64_quo8, u64_rem8, u64_quo64, u64_rem64, u32_quo8, u32_rem8, u32_quo64, u32_rem64, int_quo2, int_rem2, int_quo8, int_rem8, int_quo64, int_rem64, u64_shrN, u64_shlN, fold64, fold32, i64_shl_u8, i16_eql, i16_neq, i16_lss, i16_geq, Nat.reduceEqDiff, Nat.reduceLT, Nat.reduceAdd, Nat.reduceMul, Nat.reduceSub, ↓reduceIte, if_true, if_false, eq_self, true_and, and_true, Bool.false_eq_true, Bool.not_true, Bool.not_false, reduceCtorEq, upd_get, List.getElem?_toArray, List.getElem?_cons_zero, List.getElem?_cons_succ, Option.bind_some, rdK_some, List.map_toArray, List.map_cons, List.map_nil, rd_upd, rdO_fblk, wrOk_fblk, wrO_fblk, lget_zero, lget_succ, upd_upd, agg_cells, cells_of_list, List.length_cons, List.length_nil, pv_cells, pl_len, pl_0, pl_1, pl_2, pl_3, pl_4, pl_5, pv_fold, pv_eta, ov_eta, opv_eta, ov_cells, ol_len, ov_fold, opv_cells, opl_len, opv_fold, st_pv, st_ov, st_opv, ol_0, ol_1, ol_2, ol_3, ol_4, ol_5, ol_6, ol_7, ol_8, ol_9, opl_0, opl_1, opl_2, opl_3, opl_4, opl_5, opl_6, opl_7, wrsOk_fblk, wrsO_fblk, fblk_all, Nat.reduceLeDiff, Nat.zero_add, rdsK2, rdsK4, rdsK6, rdsK8, rdsK10, wrsK_nil, wrsK_cons, oneCell_u8, oneCell_u16, oneCell_u32, oneCell_u64, oneCell_i16, oneCell_int, oneCell_bool, oneCell_ptr, oneCell_pointer, oneCell_sl, oneCell_slice, oneCell_string, box_eq, List.all_cons, List.all_nil, Bool.and_self, Ex1_eq, Ex1_and, endQ, resH, res_tmp, res_cell, resC_ptr, tupleOf, Fabg.results94, ldN_60, call_134, k_u16_0, k_u16_64, cv_50_5, call_130, k_u64_0, tn_u64_0, k_u64_18446744073709551615, fa_107_0, ix_31_int, ix_31_u8, ix_31_u16, ix_31_i16, ld_30, st_30, n1, n2, t0, t5, t6, q0, q0', q1, q2, q3, q4, q5, q6, q7, q8, q8', q9, q10, q11, q12, ← q13]
    | refine (put_ok _ _ _ _ _).use ?_
    | refine (put_ok _ _ _ _ _).useQ ?_
    | refine W_drawL (id := 7) (by kernel_rfl) [0, 0, 0, 0, 0, 0, 0, 0, 0, 0, 0, 0, 2] (by kernel_rfl) ?_
    | refine Alloc.mono ?_
    | (refine CondW_intro (fun hc => ?_) (fun hc => ?_) <;> (try simp only [Bool.not_eq_true', Bool.not_eq_false'] at hc) <;> (try simp only [hc]))
    | (refine GrdV_intro (fun hc => ?_) (fun hc => ?_) <;> (try simp only [Bool.not_eq_true', Bool.not_eq_false'] at hc) <;> (try simp only [hc]))
    | (refine GrdL_intro (fun hc => ?_) (fun hc => ?_) <;> (try simp only [Bool.not_eq_true', Bool.not_eq_false'] at hc) <;> (try simp only [hc]))))
      all_goals (obtain ⟨f', rfl⟩ : ∃ f', f = f' + 1 := ⟨f - 1, by omega⟩)
      all_goals (rw [claimTo, if_neg (by omega)] at hcl)
      · refine ⟨_, (Le.fresh (Le.refl H) hb1 _).upd b _, ?_, ?_⟩
        · rw [← hcl]; simp only []; rw [if_pos (by simpa using hc)]
        · rw [← hcl]; simp only []; rw [if_pos (by simpa using hc)]
      · refine ⟨n - min (64 - a % 64) n, by omega, f', a + min (64 - a % 64) n, n - min (64 - a % 64) n, _, rfl, by omega, by omega, by omega, by omega, ?_, rfl, rfl, rfl⟩
        rw [← hcl]; simp only []; rw [if_neg (by simpa using hc)]
    · have q0' : decide (0 < n) = false := by simp [hpos]
      (repeat' (first
    | simp -implicitDefEqProofs only [WV_seq, WV_cond, WV_block, WV_skip, WV_ret, WV_exit, WV_region, WV_draw, WV_loop, thenQ_normal, thenQ_ret, thenQ_exit, blockQ_normal, blockQ_ret, blockQ_exit, V_nil, V_cons, KV_eq, VL_nil, VL_cons, KL_eq, vcl_zero, vcl_one, vcl_two, isV_same, isV_eq, monoK_eq, dOk, put, gd_none, gd_some, gdst_eq, gdv_some, gdB_true, gdB_false, gdB_undef, ev_const, ev_tmp, lit_i64, lit_i32, lit_bool, lit_pointer, lit_slice, lit_string, CondW_true, CondW_false, GrdV_true, GrdV_false, GrdL_true, GrdL_false, vc_move, vc_assign, vc_load, vc_store, vc_field, vc_indexAddr, vc_index, vc_box, vc_alloc, vc_build, vc_buildSlice, vc_makeSlice, vc_slice, vc_extract, vc_unOp, vc_convert, vc_bin, vc_pick, vc_call, vc_append, vc_len, vc_min, vc_max, vc_copy, vc_clear, pickK_true, pickK_false, stK_eq, not_bool, min_i64, max_i64, min_u16, max_u16, extract_tuple, vc_nil, nilK_ptr, int_add, int_sub, int_mul, int_eql, int_neq, int_lss, int_leq, int_gtr, int_geq, u8_add, u8_sub, u8_mul, u8_eql, u8_neq, u8_lss, u8_leq, u8_gtr, u8_geq, u16_add, u16_sub, u16_mul, u16_eql, u16_neq, u16_lss, u16_leq, u16_gtr, u16_geq, u32_add, u32_sub, u32_mul, u32_eql, u32_neq, u32_lss, u32_leq, u32_gtr, u32_geq, u64_add, u64_sub, u64_mul, u64_eql, u64_neq, u64_lss, u64_leq, u64_gtr, u64_geq, u8_and, u8_or, u8_xor, u8_andNot, u64_and, u64_or, u64_xor, u64_andNot, u8_shl_u8, u8_shl_u16, u8_shl_u64, u32_shl_u8, u32_shl_u16, u32_shl_u64, u64_shl_u8, u64_shl_u16, u64_shl_u64, u8_shr_u8, u8_shr_u16, u8_shr_u64, u64_shr_u8, u64_shr_u16, u64_shr_u64, u16_quo8, u16_rem8, u16_quo64, u16_rem64, u64_quo8, u64_rem8, u64_quo64, u64_rem64, u32_quo8, u32_rem8, u32_quo64, u32_rem64, int_quo2, int_rem2, int_quo8, int_rem8, int_quo64, int_rem64, u64_shrN, u64_shlN, fold64, fold32, i64_shl_u8, i16_eql, i16_neq, i16_lss, i16_geq, Nat.reduceEqDiff, Nat.reduceLT, Nat.reduceAdd, Nat.reduceMul, Nat.reduceSub, ↓reduceIte, if_true, if_false, eq_self, true_and, and_true, Bool.false_eq_true, Bool.not_true, Bool.not_false, reduceCtorEq, upd_get, List.getElem?_toArray, List.getElem?_cons_zero, List.getElem?_cons_succ, Option.bind_some, rdK_some, List.map_toArray, List.map_cons, List.map_nil, rd_upd, rdO_fblk, wrOk_fblk, wrO_fblk, lget_zero, lget_succ, upd_upd, agg_cells, cells_of_list, List.length_cons, List.length_nil, pv_cells, pl_len, pl_0, pl_1, pl_2, pl_3, pl_4, pl_5, pv_fold, pv_eta, ov_eta, opv_eta, ov_cells, ol_len, ov_fold, opv_cells, opl_len, opv_fold, st_pv, st_ov, st_opv, ol_0, ol_1, ol_2, ol_3, ol_4, ol_5, ol_6, ol_7, ol_8, ol_9, opl_0, opl_1, opl_2, opl_3, opl_4, opl_5, opl_6, opl_7, wrsOk_fblk, wrsO_fblk, fblk_all, Nat.reduceLeDiff, Nat.zero_add, rdsK2, rdsK4, rdsK6, rdsK8, rdsK10, wrsK_nil, wrsK_cons, oneCell_u8, oneCell_u16, oneCell_u32, oneCell_u64, oneCell_i16, oneCell_int, oneCell_bool, oneCell_ptr, oneCell_pointer, oneCell_sl, oneCell_slice, oneCell_string, box_eq, List.all_cons, List.all_nil, Bool.and_self, Ex1_eq, Ex1_and, endQ, resH, res_tmp, res_cell, resC_ptr, tupleOf, Fabg.results94, ldN_60, call_134, k_u16_0, k_u16_64, cv_50_5, call_130, k_u64_0, tn_u64_0, k_u64_18446744073709551615, fa_107_0, ix_31_int, ix_31_u8, ix_31_u16, ix_31_i16, ld_30, st_30, n1, n2, t0, t5, t6, q0, q0']
    | refine W_drawL (id := 7) (by kernel_rfl) [0, 0, 0, 0, 0, 0, 0, 0, 0, 0, 0, 0, 2] (by kernel_rfl) ?_
    | refine Alloc.mono ?_
    | (refine CondW_intro (fun hc => ?_) (fun hc => ?_) <;> (try simp only [Bool.not_eq_true', Bool.not_eq_false'] at hc) <;> (try simp only [hc]))
    | (refine GrdV_intro (fun hc => ?_) (fun hc => ?_) <;> (try simp only [Bool.not_eq_true', Bool.not_eq_false'] at hc) <;> (try simp only [hc]))
    | (refine GrdL_intro (fun hc => ?_) (fun hc => ?_) <;> (try simp only [Bool.not_eq_true', Bool.not_eq_false'] at hc) <;> (try simp only [hc]))))
      have e : R = (true, set) := by
        rw [← hcl]
        cases f with
        | zero => rfl
        | succ f => rw [claimTo, if_pos (by omega)]
      rw [e]
      exact ⟨_, (Le.fresh (Le.refl H) hb1 _).upd b _, rfl, rfl⟩
  · have h1 := (wordsL p).toNat_lt
    have h2 := (firstL p).toNat_lt
    refine ⟨(wordsL p).toNat, (firstL p).toNat, (wordsL p).toNat, S.set, rfl, Nat.le_refl _, hp, by omega, by omega, hR, by simp [upd_get], ?_, ?_, ?_⟩
    · simp only [upd_get, UInt16.ofNat_toNat]; simp
    · simp only [upd_get, UInt16.ofNat_toNat]; simp
    · exact (upd_self (by rw [upd_get, if_neg n1]; exact hb)).symm

/-! follow -/
theorem pushL_sp (S : WalkS) (a n : UInt16) (d : UInt8) (h : S.sp.toNat ≤ 256) : (S.pushL a n d).sp.toNat = S.sp.toNat + min n.toNat (256 - S.sp.toNat) := pushTo_sp S a d _ (by omega)
theorem pushL_le (S : WalkS) (a n : UInt16) (d : UInt8) (h : S.sp.toNat ≤ 256) : (S.pushL a n d).sp.toNat ≤ 256 := by rw [pushL_sp S a n d h]; omega
def WalkS.followTo (S : WalkS) (p : Ptr) (d : UInt8) : Nat → WalkS
  | 0 => S
  | k + 1 => (S.followTo p d k).pushL (p.at_ + UInt16.ofNat k * eachL p + p.data.toUInt16) p.ptrs.toUInt16 d
def WalkS.followL (S : WalkS) (p : Ptr) (d : UInt8) : WalkS :=
  if p.kind = 1 then S.pushL (p.at_ + p.data.toUInt16) p.ptrs.toUInt16 d
  else if p.code = 6 then S.pushL p.at_ p.count d
  else if p.code = 7 then S.followTo p d p.count.toNat
  else S
theorem followTo_le (S : WalkS) (p : Ptr) (d : UInt8) (h : S.sp.toNat ≤ 256) : ∀ k, (S.followTo p d k).sp.toNat ≤ 256
  | 0 => h
  | k + 1 => pushL_le _ _ _ _ (followTo_le S p d h k)
theorem followL_le (S : WalkS) (p : Ptr) (d : UInt8) (h : S.sp.toNat ≤ 256) : (S.followL p d).sp.toNat ≤ 256 := by
  unfold WalkS.followL
  split
  · exact pushL_le _ _ _ _ h
  split
  · exact pushL_le _ _ _ _ h
  split
  · exact followTo_le S p d h _
  · exact h
theorem follow_ok (S : WalkS) (b : Nat) (p : Ptr) (d : UInt8) (H : Heap) (hb : H b = some (fblk 517 (walkF S) 107)) (hsp : S.sp.toNat ≤ 256) :
    Fn Fabg.prog 96 #[ptr b 0, pv p, u8 d] H (fun r H' => r = .tuple #[] ∧ H' = upd H b (some (fblk 517 (walkF (S.followL p d)) 107))) := by
  refine Fn_of Fabg.func96 rfl Fabg.ntmps96 (by simp) (WV_sound _ _ _ _ ?_)
  rw [argEnv3]
  simp -implicitDefEqProofs only [WV_seq, WV_cond, WV_block, WV_skip, WV_ret, WV_exit, WV_region, WV_draw, WV_loop, thenQ_normal, thenQ_ret, thenQ_exit, blockQ_normal, blockQ_ret, blockQ_exit, V_nil, V_cons, KV_eq, VL_nil, VL_cons, KL_eq, vcl_zero, vcl_one, vcl_two, isV_same, isV_eq, monoK_eq, dOk, put, gd_none, gd_some, gdst_eq, gdv_some, gdB_true, gdB_false, gdB_undef, ev_const, ev_tmp, lit_i64, lit_i32, lit_bool, lit_pointer, lit_slice, lit_string, CondW_true, CondW_false, GrdV_true, GrdV_false, GrdL_true, GrdL_false, vc_move, vc_assign, vc_load, vc_store, vc_field, vc_indexAddr, vc_index, vc_box, vc_alloc, vc_build, vc_buildSlice, vc_makeSlice, vc_slice, vc_extract, vc_unOp, vc_convert, vc_bin, vc_pick, vc_call, vc_append, vc_len, vc_min, vc_max, vc_copy, vc_clear, pickK_true, pickK_false, stK_eq, not_bool, min_i64, max_i64, min_u16, max_u16, extract_tuple, vc_nil, nilK_ptr, int_add, int_sub, int_mul, int_eql, int_neq, int_lss, int_leq, int_gtr, int_geq, u8_add, u8_sub, u8_mul, u8_eql, u8_neq, u8_lss, u8_leq, u8_gtr, u8_geq, u16_add, u16_sub, u16_mul, u16_eql, u16_neq, u16_lss, u16_leq, u16_gtr, u16_geq, u32_add, u32_sub, u32_mul, u32_eql, u32_neq, u32_lss, u32_leq, u32_gtr, u32_geq, u64_add, u64_sub, u64_mul, u64_eql, u64_neq, u64_lss, u64_leq, u64_gtr, u64_geq, u8_and, u8_or, u8_xor, u8_andNot, u64_and, u64_or, u64_xor, u64_andNot, u8_shl_u8, u8_shl_u16, u8_shl_u64, u32_shl_u8, u32_shl_u16, u32_shl_u64, u64_shl_u8, u64_shl_u16, u64_shl_u64, u8_shr_u8, u8_shr_u16, u8_shr_u64, u64_shr_u8, u64_shr_u16, u64_shr_u64, u16_quo8, u16_rem8, u16_quo64, u16_rem64, u64_quo8, u64_rem8, u64_quo64, u64_rem64, u32_quo8, u32_rem8, u32_quo64, u32_rem64, int_quo2, int_rem2, int_quo8, int_rem8, int_quo64, int_rem64, u64_shrN, u64_shlN, fold64, fold32, i64_shl_u8, i16_eql, i16_neq, i16_lss, i16_geq, Nat.reduceEqDiff, Nat.reduceLT, Nat.reduceAdd, Nat.reduceMul, Nat.reduceSub, ↓reduceIte, if_true, if_false, eq_self, true_and, and_true, Bool.false_eq_true, Bool.not_true, Bool.not_false, reduceCtorEq, upd_get, List.getElem?_toArray, List.getElem?_cons_zero, List.getElem?_cons_succ, Option.bind_some, rdK_some, List.map_toArray, List.map_cons, List.map_nil, rd_upd, rdO_fblk, wrOk_fblk, wrO_fblk, lget_zero, lget_succ, upd_upd, agg_cells, cells_of_list, List.length_cons, List.length_nil, pv_cells, pl_len, pl_0, pl_1, pl_2, pl_3, pl_4, pl_5, pv_fold, pv_eta, ov_eta, opv_eta, ov_cells, ol_len, ov_fold, opv_cells, opl_len, opv_fold, st_pv, st_ov, st_opv, ol_0, ol_1, ol_2, ol_3, ol_4, ol_5, ol_6, ol_7, ol_8, ol_9, opl_0, opl_1, opl_2, opl_3, opl_4, opl_5, opl_6, opl_7, wrsOk_fblk, wrsO_fblk, fblk_all, Nat.reduceLeDiff, Nat.zero_add, rdsK2, rdsK4, rdsK6, rdsK8, rdsK10, wrsK_nil, wrsK_cons, oneCell_u8, oneCell_u16, oneCell_u32, oneCell_u64, oneCell_i16, oneCell_int, oneCell_bool, oneCell_ptr, oneCell_pointer, oneCell_sl, oneCell_slice, oneCell_string, box_eq, List.all_cons, List.all_nil, Bool.and_self, Ex1_eq, Ex1_and, endQ, resH, res_tmp, res_cell, resC_ptr, tupleOf, Fabg.results96, fa_60_0, ld_5, k_u8_1, tn_u8_1, fa_60_1, ld_50, fa_60_2, cv_5_50, fa_60_3, call_93, fa_60_4, k_u8_6, tn_u8_6, fa_60_5, k_u8_7, tn_u8_7, k_u16_0, k_u16_1]
  refine ⟨fun b1 hb1 => ?_⟩
  have hd : H b ≠ none := by rw [hb]; simp
  have n1 := ne_fresh hd hb1
  have n2 := n1.symm
  have hb' : ∀ x, upd H b1 x b = some (fblk 517 (walkF S) 107) := fun x => by rw [upd_ne _ _ _ _ n1]; exact hb
  have hle : ∀ x y, Le (upd H b x) (upd (upd H b1 y) b x) := fun x y => (Le.fresh (Le.refl H) hb1 y).upd b x
  (repeat' (first
    | simp -implicitDefEqProofs only [WV_seq, WV_cond, WV_block, WV_skip, WV_ret, WV_exit, WV_region, WV_draw, WV_loop, thenQ_normal, thenQ_ret, thenQ_exit, blockQ_normal, blockQ_ret, blockQ_exit, V_nil, V_cons, KV_eq, VL_nil, VL_cons, KL_eq, vcl_zero, vcl_one, vcl_two, isV_same, isV_eq, monoK_eq, dOk, put, gd_none, gd_some, gdst_eq, gdv_some, gdB_true, gdB_false, gdB_undef, ev_const, ev_tmp, lit_i64, lit_i32, lit_bool, lit_pointer, lit_slice, lit_string, CondW_true, CondW_false, GrdV_true, GrdV_false, GrdL_true, GrdL_false, vc_move, vc_assign, vc_load, vc_store, vc_field, vc_indexAddr, vc_index, vc_box, vc_alloc, vc_build, vc_buildSlice, vc_makeSlice, vc_slice, vc_extract, vc_unOp, vc_convert, vc_bin, vc_pick, vc_call, vc_append, vc_len, vc_min, vc_max, vc_copy, vc_clear, pickK_true, pickK_false, stK_eq, not_bool, min_i64, max_i64, min_u16, max_u16, extract_tuple, vc_nil, nilK_ptr, int_add, int_sub, int_mul, int_eql, int_neq, int_lss, int_leq, int_gtr, int_geq, u8_add, u8_sub, u8_mul, u8_eql, u8_neq, u8_lss, u8_leq, u8_gtr, u8_geq, u16_add, u16_sub, u16_mul, u16_eql, u16_neq, u16_lss, u16_leq, u16_gtr, u16_geq, u32_add, u32_sub, u32_mul, u32_eql, u32_neq, u32_lss, u32_leq, u32_gtr, u32_geq, u64_add, u64_sub, u64_mul, u64_eql, u64_neq, u64_lss, u64_leq, u64_gtr, u64_geq, u8_and, u8_or, u8_xor, u8_andNot, u64_and, u64_or, u64_xor, u64_andNot, u8_shl_u8, u8_shl_u16, u8_shl_u64, u32_shl_u8, u32_shl_u16, u32_shl_u64, u64_shl_u8, u64_shl_u16, u64_shl_u64, u8_shr_u8, u8_shr_u16, u8_shr_u64, u64_shr_u8, u64_shr_u16, u64_shr_u64, u16_quo8, u16_rem8, u16_quo64, u16_rem64, u64_quo8, u64_rem8, u64_quo64, u64_rem64, u32_quo8, u32_rem8, u32_quo64, u32_rem64, int_quo2, int_rem2, int_quo8, int_rem8, int_quo64, int_rem64, u64_shrN, u64_shlN, fold64, fold32, i64_shl_u8, i16_eql, i16_neq, i16_lss, i16_geq, Nat.reduceEqDiff, Nat.reduceLT, Nat.reduceAdd, Nat.reduceMul, Nat.reduceSub, ↓reduceIte, if_true, if_false, eq_self, true_and, and_true, Bool.false_eq_true, Bool.not_true, Bool.not_false, reduceCtorEq, upd_get, List.getElem?_toArray, List.getElem?_cons_zero, List.getElem?_cons_succ, Option.bind_some, rdK_some, List.map_toArray, List.map_cons, List.map_nil, rd_upd, rdO_fblk, wrOk_fblk, wrO_fblk, lget_zero, lget_succ, upd_upd, agg_cells, cells_of_list, List.length_cons, List.length_nil, pv_cells, pl_len, pl_0, pl_1, pl_2, pl_3, pl_4, pl_5, pv_fold, pv_eta, ov_eta, opv_eta, ov_cells, ol_len, ov_fold, opv_cells, opl_len, opv_fold, st_pv, st_ov, st_opv, ol_0, ol_1, ol_2, ol_3, ol_4, ol_5, ol_6, ol_7, ol_8, ol_9, opl_0, opl_1, opl_2, opl_3, opl_4, opl_5, opl_6, opl_7, wrsOk_fblk, wrsO_fblk, fblk_all, Nat.reduceLeDiff, Nat.zero_add, rdsK2, rdsK4, rdsK6, rdsK8, rdsK10, wrsK_nil, wrsK_cons, oneCell_u8, oneCell_u16, oneCell_u32, oneCell_u64, oneCell_i16, oneCell_int, oneCell_bool, oneCell_ptr, oneCell_pointer, oneCell_sl, oneCell_slice, oneCell_string, box_eq, List.all_cons, List.all_nil, Bool.and_self, Ex1_eq, Ex1_and, endQ, resH, res_tmp, res_cell, resC_ptr, tupleOf, Fabg.results96, fa_60_0, ld_5, k_u8_1, tn_u8_1, fa_60_1, ld_50, fa_60_2, cv_5_50, fa_60_3, call_93, fa_60_4, k_u8_6, tn_u8_6, fa_60_5, k_u8_7, tn_u8_7, k_u16_0, k_u16_1, n1, n2]
    | refine (wpush_ok S _ _ _ _ _ (hb' _) hsp).use ?_
    | refine Alloc.mono ?_
    | (refine CondW_intro (fun hc => ?_) (fun hc => ?_) <;> (try simp only [Bool.not_eq_true', Bool.not_eq_false'] at hc) <;> (try simp only [hc]))
    | (refine GrdV_intro (fun hc => ?_) (fun hc => ?_) <;> (try simp only [Bool.not_eq_true', Bool.not_eq_false'] at hc) <;> (try simp only [hc]))
    | (refine GrdL_intro (fun hc => ?_) (fun hc => ?_) <;> (try simp only [Bool.not_eq_true', Bool.not_eq_false'] at hc) <;> (try simp only [hc]))))
  · exact ⟨_, hle _ _, by rw [show S.followL p d = S.pushL (p.at_ + p.data.toUInt16) p.ptrs.toUInt16 d by grind [WalkS.followL]]⟩
  · exact ⟨_, hle _ _, by rw [show S.followL p d = S.pushL p.at_ p.count d by grind [WalkS.followL]]⟩
  · rw [show S.followL p d = S.followTo p d p.count.toNat by grind [WalkS.followL]]
    refine W_loop (fun m T G => ∃ k : Nat, k + m = p.count.toNat ∧ T 0 = ptr b 0 ∧ T 2 = u8 d ∧ T 4 = ptr b1 0 ∧ T 6 = u16 (eachL p) ∧ T 7 = u16 (UInt16.ofNat k) ∧
      G = upd (upd H b1 (some (fblk 6 (lget (pl p)) 60))) b (some (fblk 517 (walkF (S.followTo p d k)) 107))) ?_ p.count.toNat _ _ ?_
    · rintro m T G ⟨k, hk, t0, t2, t4, t6, t7, rfl⟩
      refine WV_sound _ _ _ _ ?_
      have hcl := p.count.toNat_lt
      have hkn : (UInt16.ofNat k).toNat = k := tn16 (by omega)
      have hq : decide (UInt16.ofNat k < p.count) = decide (k < p.count.toNat) := by rw [decide_eq_decide, UInt16.lt_iff_toNat_lt, hkn]
      by_cases hlt : k < p.count.toNat
      · have hq' : decide (k < p.count.toNat) = true := by simp [hlt]
        have hle2 := followTo_le S p d hsp k
        have hpush := fun x n => wpush_ok (S.followTo p d k) b x n d (upd (upd H b1 (some (fblk 6 (lget (pl p)) 60))) b (some (fblk 517 (walkF (S.followTo p d k)) 107))) (upd_same _ _ _) hle2
        (repeat' (first
    | simp -implicitDefEqProofs only [WV_seq, WV_cond, WV_block, WV_skip, WV_ret, WV_exit, WV_region, WV_draw, WV_loop, thenQ_normal, thenQ_ret, thenQ_exit, blockQ_normal, blockQ_ret, blockQ_exit, V_nil, V_cons, KV_eq, VL_nil, VL_cons, KL_eq, vcl_zero, vcl_one, vcl_two, isV_same, isV_eq, monoK_eq, dOk, put, gd_none, gd_some, gdst_eq, gdv_some, gdB_true, gdB_false, gdB_undef, ev_const, ev_tmp, lit_i64, lit_i32, lit_bool, lit_pointer, lit_slice, lit_string, CondW_true, CondW_false, GrdV_true, GrdV_false, GrdL_true, GrdL_false, vc_move, vc_assign, vc_load, vc_store, vc_field, vc_indexAddr, vc_index, vc_box, vc_alloc, vc_build, vc_buildSlice, vc_makeSlice, vc_slice, vc_extract, vc_unOp, vc_convert, vc_bin, vc_pick, vc_call, vc_append, vc_len, vc_min, vc_max, vc_copy, vc_clear, pickK_true, pickK_false, stK_eq, not_bool, min_i64, max_i64, min_u16, max_u16, extract_tuple, vc_nil, nilK_ptr, int_add, int_sub, int_mul, int_eql, int_neq, int_lss, int_leq, int_gtr, int_geq, u8_add, u8_sub, u8_mul, u8_eql, u8_neq, u8_lss, u8_leq, u8_gtr, u8_geq, u16_add, u16_sub, u16_mul, u16_eql, u16_neq, u16_lss, u16_leq, u16_gtr, u16_geq, u32_add, u32_sub, u32_mul, u32_eql, u32_neq, u32_lss, u32_leq, u32_gtr, u32_geq, u64_add, u64_sub, u64_mul, u64_eql, u64_neq, u64_lss, u64_leq, u64_gtr, u64_geq, u8_and, u8_or, u8_xor, u8_andNot, u64_and, u64_or, u64_xor, u64_andNot, u8_shl_u8, u8_shl_u16, u8_shl_u64, u32_shl_u8, u32_shl_u16, u32_shl_u64, u64_shl_u8, u64_shl_u16, u64_shl_u64, u8_shr_u8, u8_shr_u16, u8_shr_u64, u64_shr_u8, u64_shr_u16, u64_shr_u64, u16_quo8, u16_rem8, u16_quo64, u16_rem64, u64_quo8, u64_rem8, u64_quo64, u64_rem64, u32_quo8, u32_rem8, u32_quo64, u32_rem64, int_quo2, int_rem2, int_quo8, int_rem8, int_quo64, int_rem64, u64_shrN, u64_shlN, fold64, fold32, i64_shl_u8, i16_eql, i16_neq, i16_lss, i16_geq, Nat.reduceEqDiff, Nat.reduceLT, Nat.reduceAdd, Nat.reduceMul, Nat.reduceSub, ↓reduceIte, if_true, if_false, eq_self, true_and, and_true, Bool.false_eq_true, Bool.not_true, Bool.not_false, reduceCtorEq, upd_get, List.getElem?_toArray, List.getElem?_cons_zero, List.getElem?_cons_succ, Option.bind_some, rdK_some, List.map_toArray, List.map_cons, List.map_nil, rd_upd, rdO_fblk, wrOk_fblk, wrO_fblk, lget_zero, lget_succ, upd_upd, agg_cells, cells_of_list, List.length_cons, List.length_nil, pv_cells, pl_len, pl_0, pl_1, pl_2, pl_3, pl_4, pl_5, pv_fold, pv_eta, ov_eta, opv_eta, ov_cells, ol_len, ov_fold, opv_cells, opl_len, opv_fold, st_pv, st_ov, st_opv, ol_0, ol_1, ol_2, ol_3, ol_4, ol_5, ol_6, ol_7, ol_8, ol_9, opl_0, opl_1, opl_2, opl_3, opl_4, opl_5, opl_6, opl_7, wrsOk_fblk, wrsO_fblk, fblk_all, Nat.reduceLeDiff, Nat.zero_add, rdsK2, rdsK4, rdsK6, rdsK8, rdsK10, wrsK_nil, wrsK_cons, oneCell_u8, oneCell_u16, oneCell_u32, oneCell_u64, oneCell_i16, oneCell_int, oneCell_bool, oneCell_ptr, oneCell_pointer, oneCell_sl, oneCell_slice, oneCell_string, box_eq, List.all_cons, List.all_nil, Bool.and_self, Ex1_eq, Ex1_and, endQ, resH, res_tmp, res_cell, resC_ptr, tupleOf, Fabg.results96, fa_60_0, ld_5, k_u8_1, tn_u8_1, fa_60_1, ld_50, fa_60_2, cv_5_50, fa_60_3, call_93, fa_60_4, k_u8_6, tn_u8_6, fa_60_5, k_u8_7, tn_u8_7, k_u16_0, k_u16_1, n1, n2, t0, t2, t4, t6, t7, hq, hq']
    | refine (hpush _ _).use ?_
    | refine Alloc.mono ?_
    | (refine CondW_intro (fun hc => ?_) (fun hc => ?_) <;> (try simp only [Bool.not_eq_true', Bool.not_eq_false'] at hc) <;> (try simp only [hc]))
    | (refine GrdV_intro (fun hc => ?_) (fun hc => ?_) <;> (try simp only [Bool.not_eq_true', Bool.not_eq_false'] at hc) <;> (try simp only [hc]))
    | (refine GrdL_intro (fun hc => ?_) (fun hc => ?_) <;> (try simp only [Bool.not_eq_true', Bool.not_eq_false'] at hc) <;> (try simp only [hc]))))
        refine ⟨m - 1, by omega, k + 1, by omega, ?_, by rw [WalkS.followTo]⟩
        rw [show (1 : UInt16) = UInt16.ofNat 1 from rfl, add16 (by omega)]
      · have hq' : decide (k < p.count.toNat) = false := by simp [hlt]
        (repeat' (first
    | simp -implicitDefEqProofs only [WV_seq, WV_cond, WV_block, WV_skip, WV_ret, WV_exit, WV_region, WV_draw, WV_loop, thenQ_normal, thenQ_ret, thenQ_exit, blockQ_normal, blockQ_ret, blockQ_exit, V_nil, V_cons, KV_eq, VL_nil, VL_cons, KL_eq, vcl_zero, vcl_one, vcl_two, isV_same, isV_eq, monoK_eq, dOk, put, gd_none, gd_some, gdst_eq, gdv_some, gdB_true, gdB_false, gdB_undef, ev_const, ev_tmp, lit_i64, lit_i32, lit_bool, lit_pointer, lit_slice, lit_string, CondW_true, CondW_false, GrdV_true, GrdV_false, GrdL_true, GrdL_false, vc_move, vc_assign, vc_load, vc_store, vc_field, vc_indexAddr, vc_index, vc_box, vc_alloc, vc_build, vc_buildSlice, vc_makeSlice, vc_slice, vc_extract, vc_unOp, vc_convert, vc_bin, vc_pick, vc_call, vc_append, vc_len, vc_min, vc_max, vc_copy, vc_clear, pickK_true, pickK_false, stK_eq, not_bool, min_i64, max_i64, min_u16, max_u16, extract_tuple, vc_nil, nilK_ptr, int_add, int_sub, int_mul, int_eql, int_neq, int_lss, int_leq, int_gtr, int_geq, u8_add, u8_sub, u8_mul, u8_eql, u8_neq, u8_lss, u8_leq, u8_gtr, u8_geq, u16_add, u16_sub, u16_mul, u16_eql, u16_neq, u16_lss, u16_leq, u16_gtr, u16_geq, u32_add, u32_sub, u32_mul, u32_eql, u32_neq, u32_lss, u32_leq, u32_gtr, u32_geq, u64_add, u64_sub, u64_mul, u64_eql, u64_neq, u64_lss, u64_leq, u64_gtr, u64_geq, u8_and, u8_or, u8_xor, u8_andNot, u64_and, u64_or, u64_xor, u64_andNot, u8_shl_u8, u8_shl_u16, u8_shl_u64, u32_shl_u8, u32_shl_u16, u32_shl_u64, u64_shl_u8, u64_shl_u16, u64_shl_u64, u8_shr_u8, u8_shr_u16, u8_shr_u64, u64_shr_u8, u64_shr_u16, u64_shr_u64, u16_quo8, u16_rem8, u16_quo64, u16_rem64, u64_quo8, u64_rem8, u64_quo64, u64_rem64, u32_quo8, u32_rem8, u32_quo64, u32_rem64, int_quo2, int_rem2, int_quo8, int_rem8, int_quo64, int_rem64, u64_shrN, u64_shlN, fold64, fold32, i64_shl_u8, i16_eql, i16_neq, i16_lss, i16_geq, Nat.reduceEqDiff, Nat.reduceLT, Nat.reduceAdd, Nat.reduceMul, Nat.reduceSub, ↓reduceIte, if_true, if_false, eq_self, true_and, and_true, Bool.false_eq_true, Bool.not_true, Bool.not_false, reduceCtorEq, upd_get, List.getElem?_toArray, List.getElem?_cons_zero, List.getElem?_cons_succ, Option.bind_some, rdK_some, List.map_toArray, List.map_cons, List.map_nil, rd_upd, rdO_fblk, wrOk_fblk, wrO_fblk, lget_zero, lget_succ, upd_upd, agg_cells, cells_of_list, List.length_cons, List.length_nil, pv_cells, pl_len, pl_0, pl_1, pl_2, pl_3, pl_4, pl_5, pv_fold, pv_eta, ov_eta, opv_eta, ov_cells, ol_len, ov_fold, opv_cells, opl_len, opv_fold, st_pv, st_ov, st_opv, ol_0, ol_1, ol_2, ol_3, ol_4, ol_5, ol_6, ol_7, ol_8, ol_9, opl_0, opl_1, opl_2, opl_3, opl_4, opl_5, opl_6, opl_7, wrsOk_fblk, wrsO_fblk, fblk_all, Nat.reduceLeDiff, Nat.zero_add, rdsK2, rdsK4, rdsK6, rdsK8, rdsK10, wrsK_nil, wrsK_cons, oneCell_u8, oneCell_u16, oneCell_u32, oneCell_u64, oneCell_i16, oneCell_int, oneCell_bool, oneCell_ptr, oneCell_pointer, oneCell_sl, oneCell_slice, oneCell_string, box_eq, List.all_cons, List.all_nil, Bool.and_self, Ex1_eq, Ex1_and, endQ, resH, res_tmp, res_cell, resC_ptr, tupleOf, Fabg.results96, fa_60_0, ld_5, k_u8_1, tn_u8_1, fa_60_1, ld_50, fa_60_2, cv_5_50, fa_60_3, call_93, fa_60_4, k_u8_6, tn_u8_6, fa_60_5, k_u8_7, tn_u8_7, k_u16_0, k_u16_1, n1, n2, t0, t2, t4, t6, t7, hq, hq']
    | refine Alloc.mono ?_
    | (refine CondW_intro (fun hc => ?_) (fun hc => ?_) <;> (try simp only [Bool.not_eq_true', Bool.not_eq_false'] at hc) <;> (try simp only [hc]))
    | (refine GrdV_intro (fun hc => ?_) (fun hc => ?_) <;> (try simp only [Bool.not_eq_true', Bool.not_eq_false'] at hc) <;> (try simp only [hc]))
    | (refine GrdL_intro (fun hc => ?_) (fun hc => ?_) <;> (try simp only [Bool.not_eq_true', Bool.not_eq_false'] at hc) <;> (try simp only [hc]))))
        exact ⟨_, hle _ _, by rw [show k = p.count.toNat by omega]⟩
    · refine ⟨0, by simp, by simp [upd_get], by simp [upd_get], by simp [upd_get], by simp [upd_get, eachL], by simp [upd_get], ?_⟩
      exact (upd_self (by rw [upd_get, if_neg n1]; exact hb)).symm
  · refine ⟨H, Le.fresh (Le.refl H) hb1 _, ?_⟩
    rw [show S.followL p d = S by grind [WalkS.followL]]
    exact (upd_self hb).symm

end Eng
end Go.Proofs.Ygcfab
