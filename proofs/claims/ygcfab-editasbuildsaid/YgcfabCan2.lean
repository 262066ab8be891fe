/-
  The walks of package codec: scalars, structs.
-/
import Derived.Test.YgcfabCan1
set_option linter.unusedSimpArgs false
set_option linter.unusedVariables false
set_option maxRecDepth 100000
namespace Go.Proofs.Ygcfab
namespace Eng

theorem CHp.open {H0 F G : Heap} {b tb : Nat} {A : Nat → UInt64} {len : Nat} {stk : List (Nat × Int16)} (hC : CHp H0 F G b tb A len stk) (hl : 1 ≤ len) :
    ∃ f ba cap g, G b = some (fblk 1027 f 96) ∧ f 1 = sl ba 0 len cap ∧ rd G b 1 = some (sl ba 0 len cap) ∧ rd G b 0 = some (ptr tb 0) ∧ len ≤ cap ∧ G ba = some (fblk (cap * 1) g 30) ∧ (∀ i, i < len → g i = u64 (A i)) ∧ (∀ i, i < len → rd G ba i = some (u64 (A i))) ∧ ba ≠ b ∧
      ∀ i w, i < len → CHp H0 F (upd G ba (some (fblk (cap * 1) (upd g i (u64 w)) 30))) b tb (upd A i w) len stk := by
  obtain ⟨f, av, ba, h1, h2, h3, h4, h5, h6, h7, h8, h9⟩ := hC.blk
  rcases h6.is with ⟨_, h, _⟩ | ⟨ba', cap, g, rfl, hcap, hba, hGa, hg⟩
  · omega
  cases hba
  refine ⟨f, ba, cap, g, h1, h3, ?_, ?_, hcap, hGa, fun i hi => hg i (by omega), fun i hi => ?_, h9, ?_⟩
  · rw [rd_eq, h1, rdO_fblk, if_pos (by omega), h3]
  · rw [rd_eq, h1, rdO_fblk, if_pos (by omega), h2]
  · rw [rd_eq, hGa, rdO_fblk, if_pos (by omega), hg i (by omega)]
  · intro a w ha
    refine ⟨hC.le0.fresh h7 _, hC.leF.fresh h8 _, hC.own, hC.few, f, sl ba 0 len cap, ba, ?_, h2, h3, h4, h5, ⟨.inr ⟨ba, cap, _, rfl, hcap, rfl, upd_same _ _ _, ?_⟩⟩, h7, h8, h9⟩
    · rw [upd_ne _ _ _ _ (Ne.symm h9)]; exact h1
    · intro i hi
      by_cases e : i = a
      · subst e; rw [upd_same, upd_same]
      · rw [upd_ne _ _ _ _ e, upd_ne _ _ _ _ e]; exact hg i hi
theorem scalT_le (A : Nat → UInt64) (len : Nat) (n : NodeL) : ∀ k, len ≤ (scalT A len n k).2 ∧ (scalT A len n k).2 ≤ len + k
  | 0 => by simp [scalT]
  | k + 1 => by
    have := scalT_le A len n k
    simp only [scalT]
    split <;> (try simp only []) <;> omega
theorem tn64 {a : Nat} (h : a < 18446744073709551616) : (UInt64.ofNat a).toNat = a := by rw [UInt64.toNat_ofNat']; exact Nat.mod_eq_of_lt h
theorem cscal_ok {H0 F G : Heap} {b tb : Nat} {A : Nat → UInt64} {len : Nat} {stk : List (Nat × Int16)} (hC : CHp H0 F G b tb A len stk) {nb no : Nat} {n : NodeL} (hn : NodeAt F nb no n) (h1 : 1 ≤ len) (hlen : len ≤ 256) (hd : n.nd ≤ 128) (hc : 2 ≤ n.code.toNat ∧ n.code.toNat ≤ 5) :
    Fn Fabg.prog 92 #[ptr b 0, ptr nb no] G (fun r G' => r = .tuple #[] ∧ CHp H0 F G' b tb (scalT A len n n.nd).1 (scalT A len n n.nd).2 stk) := by
  obtain ⟨vd, vk, g1, g2, g3, g4, g5, g6, g7, g8⟩ := hn
  obtain ⟨ad, cd, rfl⟩ := g5.form
  obtain ⟨ak, ck, rfl⟩ := g6.form
  have hle := hC.leF
  have s2 : rd G nb (no + 1) = some (u8 n.code) := hcell_le hle g2
  have s3 : rd G nb (no + 2) = some (.slice ad n.nd cd) := hcell_le hle g3
  have hB : bitsC n = 8 ∨ bitsC n = 16 ∨ bitsC n = 32 ∨ bitsC n = 64 := by
    unfold bitsC
    rcases pow8 _ hc.1 hc.2 with h | h | h | h <;> rw [h] <;> omega
  have e2 : (2 : UInt8).toNat = 2 := rfl
  have q1 : shl64 8 (n.code - 2).toNat = UInt64.ofNat (bitsC n) := by
    apply UInt64.toNat_inj.1
    rw [shl64_nat, tn64 (by omega), UInt8.toNat_sub_of_le _ _ (by rw [UInt8.le_iff_toNat_le]; exact hc.1), e2]
    have e8 : (8 : UInt64).toNat = 8 := rfl
    rw [e8]
    unfold bitsC at hB ⊢
    omega
  refine Fn_of Fabg.func92 rfl Fabg.ntmps92 (by simp) (WV_sound _ _ _ _ ?_)
  rw [argEnv2]
  (repeat' (first
    | simp -implicitDefEqProofs only [WV_seq, WV_cond, WV_block, WV_skip, WV_ret, WV_exit, WV_region, WV_draw, WV_loop, thenQ_normal, thenQ_ret, thenQ_exit, blockQ_normal, blockQ_ret, blockQ_exit, V_nil, V_cons, KV_eq, VL_nil, VL_cons, KL_eq, vcl_zero, vcl_one, vcl_two, isV_same, isV_eq, monoK_eq, dOk, put, gd_none, gd_some, gdst_eq, gdv_some, gdB_true, gdB_false, gdB_undef, ev_const, ev_tmp, lit_i64, lit_i32, lit_bool, lit_pointer, lit_slice, lit_string, CondW_true, CondW_false, GrdV_true, GrdV_false, GrdL_true, GrdL_false, vc_move, vc_assign, vc_load, vc_store, vc_field, vc_indexAddr, vc_index, vc_box, vc_alloc, vc_build, vc_buildSlice, vc_makeSlice, vc_slice, vc_extract, vc_unOp, vc_convert, vc_bin, vc_pick, vc_call, vc_append, vc_len, vc_min, vc_max, vc_copy, vc_clear, pickK_true, pickK_false, stK_eq, not_bool, min_i64, max_i64, min_u16, max_u16, extract_tuple, vc_nil, nilK_ptr, int_add, int_sub, int_mul, int_eql, int_neq, int_lss, int_leq, int_gtr, int_geq, u8_add, u8_sub, u8_mul, u8_eql, u8_neq, u8_lss, u8_leq, u8_gtr, u8_geq, u16_add, u16_sub, u16_mul, u16_eql, u16_neq, u16_lss, u16_leq, u16_gtr, u16_geq, u32_add, u32_sub, u32_mul, u32_eql, u32_neq, u32_lss, u32_leq, u32_gtr, u32_geq, u64_add, u64_sub, u64_mul, u64_eql, u64_neq, u64_lss, u64_leq, u64_gtr, u64_geq, u8_and, u8_or, u8_xor, u8_andNot, u64_and, u64_or, u64_xor, u64_andNot, u8_shl_u8, u8_shl_u16, u8_shl_u64, u32_shl_u8, u32_shl_u16, u32_shl_u64, u64_shl_u8, u64_shl_u16, u64_shl_u64, u8_shr_u8, u8_shr_u16, u8_shr_u64, u64_shr_u8, u64_shr_u16, u64_shr_u64, u16_quo8, u16_rem8, u16_quo64, u16_rem64, u64_quo8, u64_rem8, u64_quo64, u64_rem64, u32_quo8, u32_rem8, u32_quo64, u32_rem64, int_quo2, int_rem2, int_quo8, int_rem8, int_quo64, int_rem64, u64_shrN, u64_shlN, fold64, fold32, i64_shl_u8, i16_eql, i16_neq, i16_lss, i16_geq, Nat.reduceEqDiff, Nat.reduceLT, Nat.reduceAdd, Nat.reduceMul, Nat.reduceSub, ↓reduceIte, if_true, if_false, eq_self, true_and, and_true, Bool.false_eq_true, Bool.not_true, Bool.not_false, reduceCtorEq, upd_get, List.getElem?_toArray, List.getElem?_cons_zero, List.getElem?_cons_succ, Option.bind_some, rdK_some, List.map_toArray, List.map_cons, List.map_nil, rd_upd, rdO_fblk, wrOk_fblk, wrO_fblk, lget_zero, lget_succ, upd_upd, agg_cells, cells_of_list, List.length_cons, List.length_nil, Nat.add_zero, pv_cells, pl_len, pl_0, pl_1, pl_2, pl_3, pl_4, pl_5, pv_fold, pv_eta, ov_eta, opv_eta, ov_cells, ol_len, ov_fold, opv_cells, opl_len, opv_fold, st_pv, st_ov, st_opv, ol_0, ol_1, ol_2, ol_3, ol_4, ol_5, ol_6, ol_7, ol_8, ol_9, opl_0, opl_1, opl_2, opl_3, opl_4, opl_5, opl_6, opl_7, wrsOk_fblk, wrsO_fblk, fblk_all, Nat.reduceLeDiff, Nat.zero_add, rdsK2, rdsK4, rdsK6, rdsK8, rdsK10, wrsK_nil, wrsK_cons, oneCell_u8, oneCell_u16, oneCell_u32, oneCell_u64, oneCell_i16, oneCell_int, oneCell_bool, oneCell_ptr, oneCell_pointer, oneCell_sl, oneCell_slice, oneCell_string, box_eq, List.all_cons, List.all_nil, Bool.and_self, Ex1_eq, Ex1_and, endQ, resH, res_tmp, res_cell, resC_ptr, tupleOf, Fabg.results92, fa_102_1, ld_5, k_u8_2, tn_u8_2, k_u64_8, tn_u64_8, fa_102_2, ld_26, len_26, lenS_26, ix_26_int, ix_26_u8, ix_26_u16, ix_26_i16, ld_30, cv_3_146, k_u64_64, tn_u64_64, k_u64_0, tn_u64_0, fa_96_1, bs_26, st_26, st_30, s2, s3, q1]
    | refine W_drawL (id := 7) (by kernel_rfl) [0, 0, 0, 0, 0, 0, 0, 0, 0, 0, 0, 0, 0, 0, 0, 0, 0, 2] (by kernel_rfl) ?_
    | refine Alloc.mono ?_
    | (refine CondW_intro (fun hc => ?_) (fun hc => ?_) <;> (try simp only [Bool.not_eq_true', Bool.not_eq_false'] at hc) <;> (try simp only [hc]))
    | (refine GrdV_intro (fun hc => ?_) (fun hc => ?_) <;> (try simp only [Bool.not_eq_true', Bool.not_eq_false'] at hc) <;> (try simp only [hc]))
    | (refine GrdL_intro (fun hc => ?_) (fun hc => ?_) <;> (try simp only [Bool.not_eq_true', Bool.not_eq_false'] at hc) <;> (try simp only [hc]))))
  refine W_loop (fun m T G => ∃ k : Nat, m + k = n.nd ∧ CHp H0 F G b tb (scalT A len n k).1 (scalT A len n k).2 stk ∧ T 0 = ptr b 0 ∧ T 4 = u64 (UInt64.ofNat (bitsC n)) ∧ T 17 = .slice ad n.nd cd ∧ T 18 = .int .i64 (n.nd : Nat) ∧ T 19 = .int .i64 (k : Nat)) ?_ n.nd _ _ ?_
  · rintro m T G ⟨k, hmk, hC, t0, t4, t17, t18, t19⟩
    refine WV_sound _ _ _ _ ?_
    by_cases hk : k < n.nd
    rotate_left
    · have q : decide ((k : Int) < (n.nd : Int)) = false := decide_eq_false (by omega)
      have e : k = n.nd := by omega
      subst e
      (repeat' (first
    | simp -implicitDefEqProofs only [WV_seq, WV_cond, WV_block, WV_skip, WV_ret, WV_exit, WV_region, WV_draw, WV_loop, thenQ_normal, thenQ_ret, thenQ_exit, blockQ_normal, blockQ_ret, blockQ_exit, V_nil, V_cons, KV_eq, VL_nil, VL_cons, KL_eq, vcl_zero, vcl_one, vcl_two, isV_same, isV_eq, monoK_eq, dOk, put, gd_none, gd_some, gdst_eq, gdv_some, gdB_true, gdB_false, gdB_undef, ev_const, ev_tmp, lit_i64, lit_i32, lit_bool, lit_pointer, lit_slice, lit_string, CondW_true, CondW_false, GrdV_true, GrdV_false, GrdL_true, GrdL_false, vc_move, vc_assign, vc_load, vc_store, vc_field, vc_indexAddr, vc_index, vc_box, vc_alloc, vc_build, vc_buildSlice, vc_makeSlice, vc_slice, vc_extract, vc_unOp, vc_convert, vc_bin, vc_pick, vc_call, vc_append, vc_len, vc_min, vc_max, vc_copy, vc_clear, pickK_true, pickK_false, stK_eq, not_bool, min_i64, max_i64, min_u16, max_u16, extract_tuple, vc_nil, nilK_ptr, int_add, int_sub, int_mul, int_eql, int_neq, int_lss, int_leq, int_gtr, int_geq, u8_add, u8_sub, u8_mul, u8_eql, u8_neq, u8_lss, u8_leq, u8_gtr, u8_geq, u16_add, u16_sub, u16_mul, u16_eql, u16_neq, u16_lss, u16_leq, u16_gtr, u16_geq, u32_add, u32_sub, u32_mul, u32_eql, u32_neq, u32_lss, u32_leq, u32_gtr, u32_geq, u64_add, u64_sub, u64_mul, u64_eql, u64_neq, u64_lss, u64_leq, u64_gtr, u64_geq, u8_and, u8_or, u8_xor, u8_andNot, u64_and, u64_or, u64_xor, u64_andNot, u8_shl_u8, u8_shl_u16, u8_shl_u64, u32_shl_u8, u32_shl_u16, u32_shl_u64, u64_shl_u8, u64_shl_u16, u64_shl_u64, u8_shr_u8, u8_shr_u16, u8_shr_u64, u64_shr_u8, u64_shr_u16, u64_shr_u64, u16_quo8, u16_rem8, u16_quo64, u16_rem64, u64_quo8, u64_rem8, u64_quo64, u64_rem64, u32_quo8, u32_rem8, u32_quo64, u32_rem64, int_quo2, int_rem2, int_quo8, int_rem8, int_quo64, int_rem64, u64_shrN, u64_shlN, fold64, fold32, i64_shl_u8, i16_eql, i16_neq, i16_lss, i16_geq, Nat.reduceEqDiff, Nat.reduceLT, Nat.reduceAdd, Nat.reduceMul, Nat.reduceSub, ↓reduceIte, if_true, if_false, eq_self, true_and, and_true, Bool.false_eq_true, Bool.not_true, Bool.not_false, reduceCtorEq, upd_get, List.getElem?_toArray, List.getElem?_cons_zero, List.getElem?_cons_succ, Option.bind_some, rdK_some, List.map_toArray, List.map_cons, List.map_nil, rd_upd, rdO_fblk, wrOk_fblk, wrO_fblk, lget_zero, lget_succ, upd_upd, agg_cells, cells_of_list, List.length_cons, List.length_nil, Nat.add_zero, pv_cells, pl_len, pl_0, pl_1, pl_2, pl_3, pl_4, pl_5, pv_fold, pv_eta, ov_eta, opv_eta, ov_cells, ol_len, ov_fold, opv_cells, opl_len, opv_fold, st_pv, st_ov, st_opv, ol_0, ol_1, ol_2, ol_3, ol_4, ol_5, ol_6, ol_7, ol_8, ol_9, opl_0, opl_1, opl_2, opl_3, opl_4, opl_5, opl_6, opl_7, wrsOk_fblk, wrsO_fblk, fblk_all, Nat.reduceLeDiff, Nat.zero_add, rdsK2, rdsK4, rdsK6, rdsK8, rdsK10, wrsK_nil, wrsK_cons, oneCell_u8, oneCell_u16, oneCell_u32, oneCell_u64, oneCell_i16, oneCell_int, oneCell_bool, oneCell_ptr, oneCell_pointer, oneCell_sl, oneCell_slice, oneCell_string, box_eq, List.all_cons, List.all_nil, Bool.and_self, Ex1_eq, Ex1_and, endQ, resH, res_tmp, res_cell, resC_ptr, tupleOf, Fabg.results92, fa_102_1, ld_5, k_u8_2, tn_u8_2, k_u64_8, tn_u64_8, fa_102_2, ld_26, len_26, lenS_26, ix_26_int, ix_26_u8, ix_26_u16, ix_26_i16, ld_30, cv_3_146, k_u64_64, tn_u64_64, k_u64_0, tn_u64_0, fa_96_1, bs_26, st_26, st_30, t0, t4, t17, t18, t19, q]
    | refine W_drawL (id := 7) (by kernel_rfl) [0, 0, 0, 0, 0, 0, 0, 0, 0, 0, 0, 0, 0, 0, 0, 0, 0, 2] (by kernel_rfl) ?_
    | refine Alloc.mono ?_
    | (refine CondW_intro (fun hc => ?_) (fun hc => ?_) <;> (try simp only [Bool.not_eq_true', Bool.not_eq_false'] at hc) <;> (try simp only [hc]))
    | (refine GrdV_intro (fun hc => ?_) (fun hc => ?_) <;> (try simp only [Bool.not_eq_true', Bool.not_eq_false'] at hc) <;> (try simp only [hc]))
    | (refine GrdL_intro (fun hc => ?_) (fun hc => ?_) <;> (try simp only [Bool.not_eq_true', Bool.not_eq_false'] at hc) <;> (try simp only [hc]))))
      exact ⟨_, Le.refl _, hC⟩
    have q : ((k : Int) < (n.nd : Int)) = True := eq_true (by omega)
    obtain ⟨bd, od, ed, hdr⟩ := g5.pos (by omega)
    rw [ed] at t17
    have s5 : rd G bd (od + k) = some (u64 (n.dat k)) := hcell_le hC.leF (hdr k hk)
    have hkB : k * bitsC n ≤ 128 * 64 := Nat.mul_le_mul (by omega) (by omega)
    have q3 : UInt64.ofNat k * UInt64.ofNat (bitsC n) % 64 = UInt64.ofNat (k * bitsC n % 64) := by
      apply UInt64.toNat_inj.1
      rw [UInt64.toNat_mod, UInt64.toNat_mul, tn64 (by omega), tn64 (by omega), tn64 (by omega), Nat.mod_eq_of_lt (a := k * bitsC n) (by omega)]
      rfl
    have q4 : toU64 (k : Int) = UInt64.ofNat k := by
      unfold toU64
      apply UInt64.toNat_inj.1
      rw [UInt64.toNat_ofNat', UInt64.toNat_ofNat']; omega
    have q5 : (UInt64.ofNat (k * bitsC n % 64)).toNat = k * bitsC n % 64 := tn64 (by omega)
    have q9 : w64 ((k : Int) + 1) = ((k + 1 : Nat) : Int) := by rw [w64_id] <;> omega
    have hsl := scalT_le A len n k
    have q6 : (UInt64.ofNat (k * bitsC n % 64) == 0) = decide (k * bitsC n % 64 = 0) := by
      rw [← Bool.coe_iff_coe]
      simp only [beq_iff_eq, decide_eq_true_eq, ← UInt64.toNat_inj, q5]
      exact Iff.rfl
    by_cases h0 : k * bitsC n % 64 = 0
    · have q7 : decide (k * bitsC n % 64 = 0) = true := decide_eq_true h0
      obtain ⟨f, av, hf, hav, r1⟩ := hC.rd1
      (repeat' (first
    | simp -implicitDefEqProofs only [WV_seq, WV_cond, WV_block, WV_skip, WV_ret, WV_exit, WV_region, WV_draw, WV_loop, thenQ_normal, thenQ_ret, thenQ_exit, blockQ_normal, blockQ_ret, blockQ_exit, V_nil, V_cons, KV_eq, VL_nil, VL_cons, KL_eq, vcl_zero, vcl_one, vcl_two, isV_same, isV_eq, monoK_eq, dOk, put, gd_none, gd_some, gdst_eq, gdv_some, gdB_true, gdB_false, gdB_undef, ev_const, ev_tmp, lit_i64, lit_i32, lit_bool, lit_pointer, lit_slice, lit_string, CondW_true, CondW_false, GrdV_true, GrdV_false, GrdL_true, GrdL_false, vc_move, vc_assign, vc_load, vc_store, vc_field, vc_indexAddr, vc_index, vc_box, vc_alloc, vc_build, vc_buildSlice, vc_makeSlice, vc_slice, vc_extract, vc_unOp, vc_convert, vc_bin, vc_pick, vc_call, vc_append, vc_len, vc_min, vc_max, vc_copy, vc_clear, pickK_true, pickK_false, stK_eq, not_bool, min_i64, max_i64, min_u16, max_u16, extract_tuple, vc_nil, nilK_ptr, int_add, int_sub, int_mul, int_eql, int_neq, int_lss, int_leq, int_gtr, int_geq, u8_add, u8_sub, u8_mul, u8_eql, u8_neq, u8_lss, u8_leq, u8_gtr, u8_geq, u16_add, u16_sub, u16_mul, u16_eql, u16_neq, u16_lss, u16_leq, u16_gtr, u16_geq, u32_add, u32_sub, u32_mul, u32_eql, u32_neq, u32_lss, u32_leq, u32_gtr, u32_geq, u64_add, u64_sub, u64_mul, u64_eql, u64_neq, u64_lss, u64_leq, u64_gtr, u64_geq, u8_and, u8_or, u8_xor, u8_andNot, u64_and, u64_or, u64_xor, u64_andNot, u8_shl_u8, u8_shl_u16, u8_shl_u64, u32_shl_u8, u32_shl_u16, u32_shl_u64, u64_shl_u8, u64_shl_u16, u64_shl_u64, u8_shr_u8, u8_shr_u16, u8_shr_u64, u64_shr_u8, u64_shr_u16, u64_shr_u64, u16_quo8, u16_rem8, u16_quo64, u16_rem64, u64_quo8, u64_rem8, u64_quo64, u64_rem64, u32_quo8, u32_rem8, u32_quo64, u32_rem64, int_quo2, int_rem2, int_quo8, int_rem8, int_quo64, int_rem64, u64_shrN, u64_shlN, fold64, fold32, i64_shl_u8, i16_eql, i16_neq, i16_lss, i16_geq, Nat.reduceEqDiff, Nat.reduceLT, Nat.reduceAdd, Nat.reduceMul, Nat.reduceSub, ↓reduceIte, if_true, if_false, eq_self, true_and, and_true, Bool.false_eq_true, Bool.not_true, Bool.not_false, reduceCtorEq, upd_get, List.getElem?_toArray, List.getElem?_cons_zero, List.getElem?_cons_succ, Option.bind_some, rdK_some, List.map_toArray, List.map_cons, List.map_nil, rd_upd, rdO_fblk, wrOk_fblk, wrO_fblk, lget_zero, lget_succ, upd_upd, agg_cells, cells_of_list, List.length_cons, List.length_nil, Nat.add_zero, pv_cells, pl_len, pl_0, pl_1, pl_2, pl_3, pl_4, pl_5, pv_fold, pv_eta, ov_eta, opv_eta, ov_cells, ol_len, ov_fold, opv_cells, opl_len, opv_fold, st_pv, st_ov, st_opv, ol_0, ol_1, ol_2, ol_3, ol_4, ol_5, ol_6, ol_7, ol_8, ol_9, opl_0, opl_1, opl_2, opl_3, opl_4, opl_5, opl_6, opl_7, wrsOk_fblk, wrsO_fblk, fblk_all, Nat.reduceLeDiff, Nat.zero_add, rdsK2, rdsK4, rdsK6, rdsK8, rdsK10, wrsK_nil, wrsK_cons, oneCell_u8, oneCell_u16, oneCell_u32, oneCell_u64, oneCell_i16, oneCell_int, oneCell_bool, oneCell_ptr, oneCell_pointer, oneCell_sl, oneCell_slice, oneCell_string, box_eq, List.all_cons, List.all_nil, Bool.and_self, Ex1_eq, Ex1_and, endQ, resH, res_tmp, res_cell, resC_ptr, tupleOf, Fabg.results92, fa_102_1, ld_5, k_u8_2, tn_u8_2, k_u64_8, tn_u64_8, fa_102_2, ld_26, len_26, lenS_26, ix_26_int, ix_26_u8, ix_26_u16, ix_26_i16, ld_30, cv_3_146, k_u64_64, tn_u64_64, k_u64_0, tn_u64_0, fa_96_1, bs_26, st_26, st_30, t0, t4, t17, t18, t19, q, q3, q4, q6, q7, s5, r1, decide_true, Int.natCast_nonneg, Int.toNat_natCast]
    | refine W_drawL (id := 7) (by kernel_rfl) [0, 0, 0, 0, 0, 0, 0, 0, 0, 0, 0, 0, 0, 0, 0, 0, 0, 2] (by kernel_rfl) ?_
    | refine Alloc.mono ?_
    | (refine CondW_intro (fun hc => ?_) (fun hc => ?_) <;> (try simp only [Bool.not_eq_true', Bool.not_eq_false'] at hc) <;> (try simp only [hc]))
    | (refine GrdV_intro (fun hc => ?_) (fun hc => ?_) <;> (try simp only [Bool.not_eq_true', Bool.not_eq_false'] at hc) <;> (try simp only [hc]))
    | (refine GrdL_intro (fun hc => ?_) (fun hc => ?_) <;> (try simp only [Bool.not_eq_true', Bool.not_eq_false'] at hc) <;> (try simp only [hc]))))
      refine ⟨fun bx hbx => ?_⟩
      have zx : b ≠ bx := ne_fresh (by rw [hf]; simp) hbx
      (repeat' (first
    | simp -implicitDefEqProofs only [WV_seq, WV_cond, WV_block, WV_skip, WV_ret, WV_exit, WV_region, WV_draw, WV_loop, thenQ_normal, thenQ_ret, thenQ_exit, blockQ_normal, blockQ_ret, blockQ_exit, V_nil, V_cons, KV_eq, VL_nil, VL_cons, KL_eq, vcl_zero, vcl_one, vcl_two, isV_same, isV_eq, monoK_eq, dOk, put, gd_none, gd_some, gdst_eq, gdv_some, gdB_true, gdB_false, gdB_undef, ev_const, ev_tmp, lit_i64, lit_i32, lit_bool, lit_pointer, lit_slice, lit_string, CondW_true, CondW_false, GrdV_true, GrdV_false, GrdL_true, GrdL_false, vc_move, vc_assign, vc_load, vc_store, vc_field, vc_indexAddr, vc_index, vc_box, vc_alloc, vc_build, vc_buildSlice, vc_makeSlice, vc_slice, vc_extract, vc_unOp, vc_convert, vc_bin, vc_pick, vc_call, vc_append, vc_len, vc_min, vc_max, vc_copy, vc_clear, pickK_true, pickK_false, stK_eq, not_bool, min_i64, max_i64, min_u16, max_u16, extract_tuple, vc_nil, nilK_ptr, int_add, int_sub, int_mul, int_eql, int_neq, int_lss, int_leq, int_gtr, int_geq, u8_add, u8_sub, u8_mul, u8_eql, u8_neq, u8_lss, u8_leq, u8_gtr, u8_geq, u16_add, u16_sub, u16_mul, u16_eql, u16_neq, u16_lss, u16_leq, u16_gtr, u16_geq, u32_add, u32_sub, u32_mul, u32_eql, u32_neq, u32_lss, u32_leq, u32_gtr, u32_geq, u64_add, u64_sub, u64_mul, u64_eql, u64_neq, u64_lss, u64_leq, u64_gtr, u64_geq, u8_and, u8_or, u8_xor, u8_andNot, u64_and, u64_or, u64_xor, u64_andNot, u8_shl_u8, u8_shl_u16, u8_shl_u64, u32_shl_u8, u32_shl_u16, u32_shl_u64, u64_shl_u8, u64_shl_u16, u64_shl_u64, u8_shr_u8, u8_shr_u16, u8_shr_u64, u64_shr_u8, u64_shr_u16, u64_shr_u64, u16_quo8, u16_rem8, u16_quo64, u16_rem64, u64_quo8, u64_rem8, u64_quo64, u64_rem64, u32_quo8, u32_rem8, u32_quo64, u32_rem64, int_quo2, int_rem2, int_quo8, int_rem8, int_quo64, int_rem64, u64_shrN, u64_shlN, fold64, fold32, i64_shl_u8, i16_eql, i16_neq, i16_lss, i16_geq, Nat.reduceEqDiff, Nat.reduceLT, Nat.reduceAdd, Nat.reduceMul, Nat.reduceSub, ↓reduceIte, if_true, if_false, eq_self, true_and, and_true, Bool.false_eq_true, Bool.not_true, Bool.not_false, reduceCtorEq, upd_get, List.getElem?_toArray, List.getElem?_cons_zero, List.getElem?_cons_succ, Option.bind_some, rdK_some, List.map_toArray, List.map_cons, List.map_nil, rd_upd, rdO_fblk, wrOk_fblk, wrO_fblk, lget_zero, lget_succ, upd_upd, agg_cells, cells_of_list, List.length_cons, List.length_nil, Nat.add_zero, pv_cells, pl_len, pl_0, pl_1, pl_2, pl_3, pl_4, pl_5, pv_fold, pv_eta, ov_eta, opv_eta, ov_cells, ol_len, ov_fold, opv_cells, opl_len, opv_fold, st_pv, st_ov, st_opv, ol_0, ol_1, ol_2, ol_3, ol_4, ol_5, ol_6, ol_7, ol_8, ol_9, opl_0, opl_1, opl_2, opl_3, opl_4, opl_5, opl_6, opl_7, wrsOk_fblk, wrsO_fblk, fblk_all, Nat.reduceLeDiff, Nat.zero_add, rdsK2, rdsK4, rdsK6, rdsK8, rdsK10, wrsK_nil, wrsK_cons, oneCell_u8, oneCell_u16, oneCell_u32, oneCell_u64, oneCell_i16, oneCell_int, oneCell_bool, oneCell_ptr, oneCell_pointer, oneCell_sl, oneCell_slice, oneCell_string, box_eq, List.all_cons, List.all_nil, Bool.and_self, Ex1_eq, Ex1_and, endQ, resH, res_tmp, res_cell, resC_ptr, tupleOf, Fabg.results92, fa_102_1, ld_5, k_u8_2, tn_u8_2, k_u64_8, tn_u64_8, fa_102_2, ld_26, len_26, lenS_26, ix_26_int, ix_26_u8, ix_26_u16, ix_26_i16, ld_30, cv_3_146, k_u64_64, tn_u64_64, k_u64_0, tn_u64_0, fa_96_1, bs_26, st_26, st_30, t0, t4, t17, t18, t19, zx]
    | refine W_drawL (id := 7) (by kernel_rfl) [0, 0, 0, 0, 0, 0, 0, 0, 0, 0, 0, 0, 0, 0, 0, 0, 0, 2] (by kernel_rfl) ?_
    | refine Alloc.mono ?_
    | (refine CondW_intro (fun hc => ?_) (fun hc => ?_) <;> (try simp only [Bool.not_eq_true', Bool.not_eq_false'] at hc) <;> (try simp only [hc]))
    | (refine GrdV_intro (fun hc => ?_) (fun hc => ?_) <;> (try simp only [Bool.not_eq_true', Bool.not_eq_false'] at hc) <;> (try simp only [hc]))
    | (refine GrdL_intro (fun hc => ?_) (fun hc => ?_) <;> (try simp only [Bool.not_eq_true', Bool.not_eq_false'] at hc) <;> (try simp only [hc]))))
      refine arena_app (hC.alloc hbx _) (by rw [upd_ne _ _ _ _ zx]; exact hf) hav (slU1 0) (by omega) ?_
      intro v' G' hG' hC1 hv'
      generalize hX : scalT A len n k = X at *
      obtain ⟨f2, ba2, cap2, g2', o1, o2, o3, o4, o5, o6, o7, o8, o9, o10⟩ := hC1.open (by omega)
      rw [rd_upd, if_pos rfl, rdO_fblk, if_pos (by omega), upd_same] at o3
      have hv := Option.some.inj o3
      subst hv
      rw [upd_ne _ _ _ _ o9] at o6
      have o8' := o8 X.2 (by omega)
      rw [rd_upd, if_neg o9, if_neg (Nat.lt_irrefl _)] at o8'
      have q10 : w64 (((X.2 + 1 : Nat) : Int) - 1) = (X.2 : Nat) := by rw [w64_id] <;> omega
      have q11 : ((X.2 : Int) < ((X.2 + 1 : Nat) : Int)) = True := eq_true (by omega)
      have q12 : (X.2 < cap2 * 1) = True := eq_true (by omega)
      (repeat' (first
    | simp -implicitDefEqProofs only [WV_seq, WV_cond, WV_block, WV_skip, WV_ret, WV_exit, WV_region, WV_draw, WV_loop, thenQ_normal, thenQ_ret, thenQ_exit, blockQ_normal, blockQ_ret, blockQ_exit, V_nil, V_cons, KV_eq, VL_nil, VL_cons, KL_eq, vcl_zero, vcl_one, vcl_two, isV_same, isV_eq, monoK_eq, dOk, put, gd_none, gd_some, gdst_eq, gdv_some, gdB_true, gdB_false, gdB_undef, ev_const, ev_tmp, lit_i64, lit_i32, lit_bool, lit_pointer, lit_slice, lit_string, CondW_true, CondW_false, GrdV_true, GrdV_false, GrdL_true, GrdL_false, vc_move, vc_assign, vc_load, vc_store, vc_field, vc_indexAddr, vc_index, vc_box, vc_alloc, vc_build, vc_buildSlice, vc_makeSlice, vc_slice, vc_extract, vc_unOp, vc_convert, vc_bin, vc_pick, vc_call, vc_append, vc_len, vc_min, vc_max, vc_copy, vc_clear, pickK_true, pickK_false, stK_eq, not_bool, min_i64, max_i64, min_u16, max_u16, extract_tuple, vc_nil, nilK_ptr, int_add, int_sub, int_mul, int_eql, int_neq, int_lss, int_leq, int_gtr, int_geq, u8_add, u8_sub, u8_mul, u8_eql, u8_neq, u8_lss, u8_leq, u8_gtr, u8_geq, u16_add, u16_sub, u16_mul, u16_eql, u16_neq, u16_lss, u16_leq, u16_gtr, u16_geq, u32_add, u32_sub, u32_mul, u32_eql, u32_neq, u32_lss, u32_leq, u32_gtr, u32_geq, u64_add, u64_sub, u64_mul, u64_eql, u64_neq, u64_lss, u64_leq, u64_gtr, u64_geq, u8_and, u8_or, u8_xor, u8_andNot, u64_and, u64_or, u64_xor, u64_andNot, u8_shl_u8, u8_shl_u16, u8_shl_u64, u32_shl_u8, u32_shl_u16, u32_shl_u64, u64_shl_u8, u64_shl_u16, u64_shl_u64, u8_shr_u8, u8_shr_u16, u8_shr_u64, u64_shr_u8, u64_shr_u16, u64_shr_u64, u16_quo8, u16_rem8, u16_quo64, u16_rem64, u64_quo8, u64_rem8, u64_quo64, u64_rem64, u32_quo8, u32_rem8, u32_quo64, u32_rem64, int_quo2, int_rem2, int_quo8, int_rem8, int_quo64, int_rem64, u64_shrN, u64_shlN, fold64, fold32, i64_shl_u8, i16_eql, i16_neq, i16_lss, i16_geq, Nat.reduceEqDiff, Nat.reduceLT, Nat.reduceAdd, Nat.reduceMul, Nat.reduceSub, ↓reduceIte, if_true, if_false, eq_self, true_and, and_true, Bool.false_eq_true, Bool.not_true, Bool.not_false, reduceCtorEq, upd_get, List.getElem?_toArray, List.getElem?_cons_zero, List.getElem?_cons_succ, Option.bind_some, rdK_some, List.map_toArray, List.map_cons, List.map_nil, rd_upd, rdO_fblk, wrOk_fblk, wrO_fblk, lget_zero, lget_succ, upd_upd, agg_cells, cells_of_list, List.length_cons, List.length_nil, Nat.add_zero, pv_cells, pl_len, pl_0, pl_1, pl_2, pl_3, pl_4, pl_5, pv_fold, pv_eta, ov_eta, opv_eta, ov_cells, ol_len, ov_fold, opv_cells, opl_len, opv_fold, st_pv, st_ov, st_opv, ol_0, ol_1, ol_2, ol_3, ol_4, ol_5, ol_6, ol_7, ol_8, ol_9, opl_0, opl_1, opl_2, opl_3, opl_4, opl_5, opl_6, opl_7, wrsOk_fblk, wrsO_fblk, fblk_all, Nat.reduceLeDiff, Nat.zero_add, rdsK2, rdsK4, rdsK6, rdsK8, rdsK10, wrsK_nil, wrsK_cons, oneCell_u8, oneCell_u16, oneCell_u32, oneCell_u64, oneCell_i16, oneCell_int, oneCell_bool, oneCell_ptr, oneCell_pointer, oneCell_sl, oneCell_slice, oneCell_string, box_eq, List.all_cons, List.all_nil, Bool.and_self, Ex1_eq, Ex1_and, endQ, resH, res_tmp, res_cell, resC_ptr, tupleOf, Fabg.results92, fa_102_1, ld_5, k_u8_2, tn_u8_2, k_u64_8, tn_u64_8, fa_102_2, ld_26, len_26, lenS_26, ix_26_int, ix_26_u8, ix_26_u16, ix_26_i16, ld_30, cv_3_146, k_u64_64, tn_u64_64, k_u64_0, tn_u64_0, fa_96_1, bs_26, st_26, st_30, t0, t4, t17, t18, t19, hG', hv', q5, q9, q10, q11, q12, o6, o8', o9, Ne.symm o9, Int.natCast_nonneg, Int.toNat_natCast]
    | refine W_drawL (id := 7) (by kernel_rfl) [0, 0, 0, 0, 0, 0, 0, 0, 0, 0, 0, 0, 0, 0, 0, 0, 0, 2] (by kernel_rfl) ?_
    | refine Alloc.mono ?_
    | (refine CondW_intro (fun hc => ?_) (fun hc => ?_) <;> (try simp only [Bool.not_eq_true', Bool.not_eq_false'] at hc) <;> (try simp only [hc]))
    | (refine GrdV_intro (fun hc => ?_) (fun hc => ?_) <;> (try simp only [Bool.not_eq_true', Bool.not_eq_false'] at hc) <;> (try simp only [hc]))
    | (refine GrdL_intro (fun hc => ?_) (fun hc => ?_) <;> (try simp only [Bool.not_eq_true', Bool.not_eq_false'] at hc) <;> (try simp only [hc]))))
      refine ⟨m - 1, by omega, k + 1, by omega, ?_, by rw [ed], rfl⟩
      have := o10 X.2 (0 ||| shl64 (n.dat k) (k * bitsC n % 64)) (by omega)
      have e1 : (scalT A len n (k + 1)).2 = X.2 + 1 := by simp only [scalT, hX]; rw [if_pos h0]
      have e2 : ∀ i, i < X.2 + 1 → upd (fun i => if i < X.2 then X.1 i else 0) X.2 (0 ||| shl64 (n.dat k) (k * bitsC n % 64)) i = (scalT A len n (k + 1)).1 i := by
        intro i hi
        simp only [scalT, hX]; rw [if_pos h0]
        simp only [Nat.add_sub_cancel, upd_same]
        by_cases e : i = X.2
        · subst e; rw [upd_same, upd_same]
        · rw [upd_ne _ _ _ _ e, upd_ne _ _ _ _ e, upd_ne _ _ _ _ e, if_pos (by omega)]
      rw [e1]
      exact this.congr e2
    · have q7 : decide (k * bitsC n % 64 = 0) = false := decide_eq_false h0
      generalize hX : scalT A len n k = X at *
      obtain ⟨f2, ba2, cap2, g2', o1, o2, o3, o4, o5, o6, o7, o8, o9, o10⟩ := hC.open (by omega)
      have o8' := o8 (X.2 - 1) (by omega)
      have q10 : w64 ((X.2 : Int) - 1) = ((X.2 - 1 : Nat) : Int) := by rw [w64_id] <;> omega
      have q11 : (((X.2 - 1 : Nat) : Int) < (X.2 : Int)) = True := eq_true (by omega)
      have q12 : (X.2 - 1 < cap2 * 1) = True := eq_true (by omega)
      (repeat' (first
    | simp -implicitDefEqProofs only [WV_seq, WV_cond, WV_block, WV_skip, WV_ret, WV_exit, WV_region, WV_draw, WV_loop, thenQ_normal, thenQ_ret, thenQ_exit, blockQ_normal, blockQ_ret, blockQ_exit, V_nil, V_cons, KV_eq, VL_nil, VL_cons, KL_eq, vcl_zero, vcl_one, vcl_two, isV_same, isV_eq, monoK_eq, dOk, put, gd_none, gd_some, gdst_eq, gdv_some, gdB_true, gdB_false, gdB_undef, ev_const, ev_tmp, lit_i64, lit_i32, lit_bool, lit_pointer, lit_slice, lit_string, CondW_true, CondW_false, GrdV_true, GrdV_false, GrdL_true, GrdL_false, vc_move, vc_assign, vc_load, vc_store, vc_field, vc_indexAddr, vc_index, vc_box, vc_alloc, vc_build, vc_buildSlice, vc_makeSlice, vc_slice, vc_extract, vc_unOp, vc_convert, vc_bin, vc_pick, vc_call, vc_append, vc_len, vc_min, vc_max, vc_copy, vc_clear, pickK_true, pickK_false, stK_eq, not_bool, min_i64, max_i64, min_u16, max_u16, extract_tuple, vc_nil, nilK_ptr, int_add, int_sub, int_mul, int_eql, int_neq, int_lss, int_leq, int_gtr, int_geq, u8_add, u8_sub, u8_mul, u8_eql, u8_neq, u8_lss, u8_leq, u8_gtr, u8_geq, u16_add, u16_sub, u16_mul, u16_eql, u16_neq, u16_lss, u16_leq, u16_gtr, u16_geq, u32_add, u32_sub, u32_mul, u32_eql, u32_neq, u32_lss, u32_leq, u32_gtr, u32_geq, u64_add, u64_sub, u64_mul, u64_eql, u64_neq, u64_lss, u64_leq, u64_gtr, u64_geq, u8_and, u8_or, u8_xor, u8_andNot, u64_and, u64_or, u64_xor, u64_andNot, u8_shl_u8, u8_shl_u16, u8_shl_u64, u32_shl_u8, u32_shl_u16, u32_shl_u64, u64_shl_u8, u64_shl_u16, u64_shl_u64, u8_shr_u8, u8_shr_u16, u8_shr_u64, u64_shr_u8, u64_shr_u16, u64_shr_u64, u16_quo8, u16_rem8, u16_quo64, u16_rem64, u64_quo8, u64_rem8, u64_quo64, u64_rem64, u32_quo8, u32_rem8, u32_quo64, u32_rem64, int_quo2, int_rem2, int_quo8, int_rem8, int_quo64, int_rem64, u64_shrN, u64_shlN, fold64, fold32, i64_shl_u8, i16_eql, i16_neq, i16_lss, i16_geq, Nat.reduceEqDiff, Nat.reduceLT, Nat.reduceAdd, Nat.reduceMul, Nat.reduceSub, ↓reduceIte, if_true, if_false, eq_self, true_and, and_true, Bool.false_eq_true, Bool.not_true, Bool.not_false, reduceCtorEq, upd_get, List.getElem?_toArray, List.getElem?_cons_zero, List.getElem?_cons_succ, Option.bind_some, rdK_some, List.map_toArray, List.map_cons, List.map_nil, rd_upd, rdO_fblk, wrOk_fblk, wrO_fblk, lget_zero, lget_succ, upd_upd, agg_cells, cells_of_list, List.length_cons, List.length_nil, Nat.add_zero, pv_cells, pl_len, pl_0, pl_1, pl_2, pl_3, pl_4, pl_5, pv_fold, pv_eta, ov_eta, opv_eta, ov_cells, ol_len, ov_fold, opv_cells, opl_len, opv_fold, st_pv, st_ov, st_opv, ol_0, ol_1, ol_2, ol_3, ol_4, ol_5, ol_6, ol_7, ol_8, ol_9, opl_0, opl_1, opl_2, opl_3, opl_4, opl_5, opl_6, opl_7, wrsOk_fblk, wrsO_fblk, fblk_all, Nat.reduceLeDiff, Nat.zero_add, rdsK2, rdsK4, rdsK6, rdsK8, rdsK10, wrsK_nil, wrsK_cons, oneCell_u8, oneCell_u16, oneCell_u32, oneCell_u64, oneCell_i16, oneCell_int, oneCell_bool, oneCell_ptr, oneCell_pointer, oneCell_sl, oneCell_slice, oneCell_string, box_eq, List.all_cons, List.all_nil, Bool.and_self, Ex1_eq, Ex1_and, endQ, resH, res_tmp, res_cell, resC_ptr, tupleOf, Fabg.results92, fa_102_1, ld_5, k_u8_2, tn_u8_2, k_u64_8, tn_u64_8, fa_102_2, ld_26, len_26, lenS_26, ix_26_int, ix_26_u8, ix_26_u16, ix_26_i16, ld_30, cv_3_146, k_u64_64, tn_u64_64, k_u64_0, tn_u64_0, fa_96_1, bs_26, st_26, st_30, t0, t4, t17, t18, t19, q, q3, q4, q6, q7, s5, o3, q5, q9, q10, q11, q12, o6, o8', o9, decide_true, Int.natCast_nonneg, Int.toNat_natCast]
    | refine W_drawL (id := 7) (by kernel_rfl) [0, 0, 0, 0, 0, 0, 0, 0, 0, 0, 0, 0, 0, 0, 0, 0, 0, 2] (by kernel_rfl) ?_
    | refine Alloc.mono ?_
    | (refine CondW_intro (fun hc => ?_) (fun hc => ?_) <;> (try simp only [Bool.not_eq_true', Bool.not_eq_false'] at hc) <;> (try simp only [hc]))
    | (refine GrdV_intro (fun hc => ?_) (fun hc => ?_) <;> (try simp only [Bool.not_eq_true', Bool.not_eq_false'] at hc) <;> (try simp only [hc]))
    | (refine GrdL_intro (fun hc => ?_) (fun hc => ?_) <;> (try simp only [Bool.not_eq_true', Bool.not_eq_false'] at hc) <;> (try simp only [hc]))))
      refine ⟨m - 1, by omega, k + 1, by omega, ?_, by rw [ed], rfl⟩
      have := o10 (X.2 - 1) (X.1 (X.2 - 1) ||| shl64 (n.dat k) (k * bitsC n % 64)) (by omega)
      have e1 : scalT A len n (k + 1) = (upd X.1 (X.2 - 1) (X.1 (X.2 - 1) ||| shl64 (n.dat k) (k * bitsC n % 64)), X.2) := by simp only [scalT, hX]; rw [if_neg h0]
      rw [e1]
      exact this
  · exact ⟨0, by omega, hC, by simp [upd_get], by simp [upd_get], by simp [upd_get], by simp [upd_get], by simp [upd_get]⟩

theorem catF_len_le {α : Type} {g : Nat → List α} {p : Nat} : ∀ m k, (∀ j, k ≤ j → j < k + m → (g j).length ≤ p) → (catF g k m).length ≤ m * p
  | 0, _, _ => by simp [catF]
  | m + 1, k, h => by
    have h1 := catF_len_le m (k + 1) (fun j a b => h j (by omega) (by omega))
    have h2 := h k (by omega) (by omega)
    rw [catF, List.length_append, Nat.succ_mul]; omega
theorem to16_8 {x : Nat} (h : x < 256) : (UInt8.ofNat x).toUInt16 = UInt16.ofNat x := by
  apply eq16
  rw [UInt8.toNat_toUInt16, tn8 h]
theorem mul16 {a b : Nat} (ha : a < 65536) (hb : b < 65536) (h : a * b < 65536) : UInt16.ofNat a * UInt16.ofNat b = UInt16.ofNat (a * b) := by
  apply eq16
  rw [UInt16.toNat_mul, tn16 ha, tn16 hb]; exact Nat.mod_eq_of_lt h
theorem to32_16 {x : Nat} (h : x < 65536) : (UInt16.ofNat x).toUInt32 = UInt32.ofNat x := by
  apply UInt32.toNat_inj.1
  rw [UInt16.toNat_toUInt32, tn16 h, tn32 (by omega)]
theorem cstructs_ok {H0 F G : Heap} {b tb : Nat} {A : Nat → UInt64} {len : Nat} {stk : List (Nat × Int16)} (hC : CHp H0 F G b tb A len stk) {T : Nat → NodeL} {cnt : Nat} {root : Int16} (ht : TreeAt F tb 0 T cnt root) {nb no : Nat} {n : NodeL} (hn : NodeAt F nb no n)
    (a : Nat) (ha : a < len) (hnk : n.nk ≤ 128) (hd : firD T n ≤ 8) (hp : firP T n ≤ 8) (hk : ∀ j, j < n.nk → 0 ≤ (n.kid j).toInt ∧ kidI n j < cnt ∧ (kidN T n j).nd = firD T n ∧ (kidN T n j).nk = firP T n)
    (hw : len + (1 + n.nk * (firD T n + firP T n)) ≤ 256) (hs : stk.length + n.nk * firP T n ≤ 512) :
    Fn Fabg.prog 91 #[ptr b 0, u16 (UInt16.ofNat a), u16 (UInt16.ofNat len), ptr nb no] G (fun r G' => r = .tuple #[] ∧
      CHp H0 F G' b tb (secsT T n (upd (upd A a (makeListL (UInt16.ofNat a) (UInt16.ofNat len) n.code (UInt32.ofNat (n.nk * (firD T n + firP T n))))) len (makeTagL (UInt16.ofNat n.nk) (UInt8.ofNat (firD T n)) (UInt8.ofNat (firP T n)))) (len + 1) n.nk).1
        (secsT T n (upd (upd A a (makeListL (UInt16.ofNat a) (UInt16.ofNat len) n.code (UInt32.ofNat (n.nk * (firD T n + firP T n))))) len (makeTagL (UInt16.ofNat n.nk) (UInt8.ofNat (firD T n)) (UInt8.ofNat (firP T n)))) (len + 1) n.nk).2
        (nn (catF (fun i => slotL (len + 1 + i * (firD T n + firP T n) + (kidN T n i).nd) (kidN T n i)) 0 n.nk) ++ stk)) := by
  obtain ⟨vd, vk, g1, g2, g3, g4, g5, g6, g7, g8⟩ := hn
  obtain ⟨ad, cd, rfl⟩ := g5.form
  obtain ⟨ak, ck, rfl⟩ := g6.form
  obtain ⟨vN, m1, m2, m3, m4⟩ := ht
  obtain ⟨aN, cN, rfl⟩ := m3.form
  have hle := hC.leF
  have s2 : rd G nb (no + 1) = some (u8 n.code) := hcell_le hle g2
  have s4 : rd G nb (no + 3) = some (.slice ak n.nk ck) := hcell_le hle g4
  have z1 : nb ≠ b := ne_fresh (rd_dom g4) hC.own.2
  obtain ⟨f, ba, cap, g, o1, o2, o3, o4, o5, o6, o7, o8, o9, o10⟩ := hC.open (by omega)
  have zF : ∀ c, F c ≠ none → c ≠ ba := by
    rintro c hc rfl
    obtain ⟨f', av, ba', h1, h2, h3, h4, h5, h6, h7, h8, h9⟩ := hC.blk
    have e := o3
    rw [rd_eq, h1, rdO_fblk, if_pos (by omega), h3] at e
    have e := Option.some.inj e
    subst e
    rcases h6.is with ⟨_, h, _⟩ | ⟨b'', cap', g', e1, _, e2, _⟩
    · omega
    · cases e1; cases e2; exact hc h8
  have z2 : nb ≠ ba := zF nb (rd_dom g4)
  generalize hD : firD T n = d at *
  generalize hP : firP T n = p at *
  have q1 : UInt16.ofNat d + UInt16.ofNat p = UInt16.ofNat (d + p) := add16 (by omega)
  have q2 : UInt16.ofNat n.nk * UInt16.ofNat (d + p) = UInt16.ofNat (n.nk * (d + p)) := mul16 (by omega) (by omega) (by omega)
  have q3 : (UInt16.ofNat (n.nk * (d + p))).toUInt32 = UInt32.ofNat (n.nk * (d + p)) := to32_16 (by omega)
  have q4 : (UInt8.ofNat d).toUInt16 = UInt16.ofNat d := to16_8 (by omega)
  have q5 : (UInt8.ofNat p).toUInt16 = UInt16.ofNat p := to16_8 (by omega)
  have q6 : (UInt16.ofNat a).toNat = a := tn16 (by omega)
  have q7 : (a < len) = True := eq_true ha
  have q8 : (a < cap * 1) = True := eq_true (by omega)
  have hkn : ∀ j, j < n.nk → ∃ bN oN, Value.slice aN cnt cN = sl bN oN cnt cN ∧ NodeAt F bN (oN + kidI n j * 4) (kidN T n j) := by
    intro j hj
    have h := (hk j hj).2.1
    obtain ⟨bN, oN, eN, hN⟩ := m3.pos (by omega)
    exact ⟨bN, oN, eN, hN _ h⟩
  have hC1 := o10 a (makeListL (UInt16.ofNat a) (UInt16.ofNat len) n.code (UInt32.ofNat (n.nk * (d + p)))) ha
  refine Fn_of Fabg.func91 rfl Fabg.ntmps91 (by simp) (WV_sound _ _ _ _ ?_)
  rw [argEnv4]
  by_cases h0 : 0 < n.nk
  focus
    have p1 : decide ((n.nk : Int) > 0) = true := decide_eq_true (by omega)
    obtain ⟨bN, oN, eN, hN⟩ := hkn 0 h0
    have m1' : rd G tb 0 = some (sl bN oN cnt cN) := by rw [← eN]; exact hcell_le hle m1
    obtain ⟨bk, ok, ek, hkr⟩ := g6.pos h0
    have s4' := s4
    rw [ek] at s4'
    have s5 : rd G bk ok = some (i16 (n.kid 0)) := hcell_le hle (hkr 0 h0)
    obtain ⟨vd0, vk0, f1, f2, f3, f4, f5, f6, f7, f8⟩ := hN
    obtain ⟨ad0, cd0, rfl⟩ := f5.form
    obtain ⟨ak0, ck0, rfl⟩ := f6.form
    have s6 : rd G bN (oN + kidI n 0 * 4 + 2) = some (.slice ad0 (kidN T n 0).nd cd0) := hcell_le hle f3
    have s7 : rd G bN (oN + kidI n 0 * 4 + 3) = some (.slice ak0 (kidN T n 0).nk ck0) := hcell_le hle f4
    have hk0 := hk 0 h0
    rw [hk0.2.2.1] at s6
    rw [hk0.2.2.2] at s7
    have p2 : (0 ≤ (n.kid 0).toInt) = True := eq_true hk0.1
    have p3 : ((n.kid 0).toInt < (cnt : Int)) = True := eq_true (by have := hk0.2.1; unfold kidI at this; omega)
    have p4 : (n.kid 0).toInt.toNat = kidI n 0 := rfl
    have p5 : ((0 : Int) < (n.nk : Int)) = True := eq_true (by omega)
    (repeat' (first
    | simp -implicitDefEqProofs only [WV_seq, WV_cond, WV_block, WV_skip, WV_ret, WV_exit, WV_region, WV_draw, WV_loop, thenQ_normal, thenQ_ret, thenQ_exit, blockQ_normal, blockQ_ret, blockQ_exit, V_nil, V_cons, KV_eq, VL_nil, VL_cons, KL_eq, vcl_zero, vcl_one, vcl_two, isV_same, isV_eq, monoK_eq, dOk, put, gd_none, gd_some, gdst_eq, gdv_some, gdB_true, gdB_false, gdB_undef, ev_const, ev_tmp, lit_i64, lit_i32, lit_bool, lit_pointer, lit_slice, lit_string, CondW_true, CondW_false, GrdV_true, GrdV_false, GrdL_true, GrdL_false, vc_move, vc_assign, vc_load, vc_store, vc_field, vc_indexAddr, vc_index, vc_box, vc_alloc, vc_build, vc_buildSlice, vc_makeSlice, vc_slice, vc_extract, vc_unOp, vc_convert, vc_bin, vc_pick, vc_call, vc_append, vc_len, vc_min, vc_max, vc_copy, vc_clear, pickK_true, pickK_false, stK_eq, not_bool, min_i64, max_i64, min_u16, max_u16, extract_tuple, vc_nil, nilK_ptr, int_add, int_sub, int_mul, int_eql, int_neq, int_lss, int_leq, int_gtr, int_geq, u8_add, u8_sub, u8_mul, u8_eql, u8_neq, u8_lss, u8_leq, u8_gtr, u8_geq, u16_add, u16_sub, u16_mul, u16_eql, u16_neq, u16_lss, u16_leq, u16_gtr, u16_geq, u32_add, u32_sub, u32_mul, u32_eql, u32_neq, u32_lss, u32_leq, u32_gtr, u32_geq, u64_add, u64_sub, u64_mul, u64_eql, u64_neq, u64_lss, u64_leq, u64_gtr, u64_geq, u8_and, u8_or, u8_xor, u8_andNot, u64_and, u64_or, u64_xor, u64_andNot, u8_shl_u8, u8_shl_u16, u8_shl_u64, u32_shl_u8, u32_shl_u16, u32_shl_u64, u64_shl_u8, u64_shl_u16, u64_shl_u64, u8_shr_u8, u8_shr_u16, u8_shr_u64, u64_shr_u8, u64_shr_u16, u64_shr_u64, u16_quo8, u16_rem8, u16_quo64, u16_rem64, u64_quo8, u64_rem8, u64_quo64, u64_rem64, u32_quo8, u32_rem8, u32_quo64, u32_rem64, int_quo2, int_rem2, int_quo8, int_rem8, int_quo64, int_rem64, u64_shrN, u64_shlN, fold64, fold32, i64_shl_u8, i16_eql, i16_neq, i16_lss, i16_geq, Nat.reduceEqDiff, Nat.reduceLT, Nat.reduceAdd, Nat.reduceMul, Nat.reduceSub, ↓reduceIte, if_true, if_false, eq_self, true_and, and_true, Bool.false_eq_true, Bool.not_true, Bool.not_false, reduceCtorEq, upd_get, List.getElem?_toArray, List.getElem?_cons_zero, List.getElem?_cons_succ, Option.bind_some, rdK_some, List.map_toArray, List.map_cons, List.map_nil, rd_upd, rdO_fblk, wrOk_fblk, wrO_fblk, lget_zero, lget_succ, upd_upd, agg_cells, cells_of_list, List.length_cons, List.length_nil, Nat.add_zero, pv_cells, pl_len, pl_0, pl_1, pl_2, pl_3, pl_4, pl_5, pv_fold, pv_eta, ov_eta, opv_eta, ov_cells, ol_len, ov_fold, opv_cells, opl_len, opv_fold, st_pv, st_ov, st_opv, ol_0, ol_1, ol_2, ol_3, ol_4, ol_5, ol_6, ol_7, ol_8, ol_9, opl_0, opl_1, opl_2, opl_3, opl_4, opl_5, opl_6, opl_7, wrsOk_fblk, wrsO_fblk, fblk_all, Nat.reduceLeDiff, Nat.zero_add, rdsK2, rdsK4, rdsK6, rdsK8, rdsK10, wrsK_nil, wrsK_cons, oneCell_u8, oneCell_u16, oneCell_u32, oneCell_u64, oneCell_i16, oneCell_int, oneCell_bool, oneCell_ptr, oneCell_pointer, oneCell_sl, oneCell_slice, oneCell_string, box_eq, List.all_cons, List.all_nil, Bool.and_self, Ex1_eq, Ex1_and, endQ, resH, res_tmp, res_cell, resC_ptr, tupleOf, Fabg.results91, k_u8_0, tn_u8_0, fa_102_3, ld_100, len_100, lenS_100, fa_96_0, ld_29, fa_25_0, ld_22, ix_100_int, ix_100_u8, ix_100_u16, ix_100_i16, ld_23, ix_22_int, ix_22_u8, ix_22_u16, ix_22_i16, fa_102_2, ld_26, len_26, lenS_26, cv_3_5, cv_3_50, cv_5_50, fa_96_1, fa_102_1, ld_5, cv_50_194, call_128, ix_26_int, ix_26_u8, ix_26_u16, ix_26_i16, st_30, call_123, bs_26, st_26, call_88, k_u16_1, call_89, s2, s4', s5, s6, s7, m1', p1, p2, p3, p4, p5, o1, o3, o4, o6, o9, Ne.symm o9, z1, z2, q1, q2, q3, q4, q5, q6, q7, q8, toU8_nat, toU16_nat, decide_true, Int.natCast_nonneg, Int.toNat_natCast, Int.reduceToNat, Int.reduceLE, Int.reduceLT]
    | refine (makeList_ok _ _ _ _ _).use ?_
    | refine (makeList_ok _ _ _ _ _).useQ ?_
    | refine (makeTag_ok _ _ _ _).use ?_
    | refine (makeTag_ok _ _ _ _).useQ ?_
    | refine W_drawL (id := 2) (by kernel_rfl) [0, 0, 0, 0, 0, 0, 0, 0, 0, 0, 0, 0, 0, 0, 0] (by kernel_rfl) ?_
    | refine W_drawL (id := 3) (by kernel_rfl) [0, 0, 0, 0, 0, 0, 0, 0, 0, 0, 0, 0, 0, 0] (by kernel_rfl) ?_
    | refine W_drawL (id := 5) (by kernel_rfl) [0, 0, 0, 0, 0, 0, 0, 0, 0, 0, 0, 0, 0, 0, 0, 0, 0, 2] (by kernel_rfl) ?_
    | refine W_drawL (id := 6) (by kernel_rfl) [0, 0, 0, 0, 0, 0, 0, 0, 0, 1, 2, 0, 0, 2] (by kernel_rfl) ?_
    | refine W_drawL (id := 15) (by kernel_rfl) [0, 0, 0, 0, 0, 0, 0, 0, 0, 0, 0, 0, 0, 0, 0, 0, 0, 0, 0, 0, 0, 0, 0, 2] (by kernel_rfl) ?_
    | refine Alloc.mono ?_
    | (refine CondW_intro (fun hc => ?_) (fun hc => ?_) <;> (try simp only [Bool.not_eq_true', Bool.not_eq_false'] at hc) <;> (try simp only [hc]))
    | (refine GrdV_intro (fun hc => ?_) (fun hc => ?_) <;> (try simp only [Bool.not_eq_true', Bool.not_eq_false'] at hc) <;> (try simp only [hc]))
    | (refine GrdL_intro (fun hc => ?_) (fun hc => ?_) <;> (try simp only [Bool.not_eq_true', Bool.not_eq_false'] at hc) <;> (try simp only [hc]))))
  rotate_left
  focus
    have p1 : decide ((n.nk : Int) > 0) = false := decide_eq_false (by omega)
    have hd0 : d = 0 := by rw [← hD]; unfold firD; rw [if_neg h0]
    have hp0 : p = 0 := by rw [← hP]; unfold firP; rw [if_neg h0]
    have x1 : UInt8.toUInt16 0 + UInt8.toUInt16 0 = UInt16.ofNat (d + p) := by rw [hd0, hp0]; rfl
    have x2 : makeTagL (UInt16.ofNat n.nk) 0 0 = makeTagL (UInt16.ofNat n.nk) (UInt8.ofNat d) (UInt8.ofNat p) := by rw [hd0, hp0]; rfl
    (repeat' (first
    | simp -implicitDefEqProofs only [WV_seq, WV_cond, WV_block, WV_skip, WV_ret, WV_exit, WV_region, WV_draw, WV_loop, thenQ_normal, thenQ_ret, thenQ_exit, blockQ_normal, blockQ_ret, blockQ_exit, V_nil, V_cons, KV_eq, VL_nil, VL_cons, KL_eq, vcl_zero, vcl_one, vcl_two, isV_same, isV_eq, monoK_eq, dOk, put, gd_none, gd_some, gdst_eq, gdv_some, gdB_true, gdB_false, gdB_undef, ev_const, ev_tmp, lit_i64, lit_i32, lit_bool, lit_pointer, lit_slice, lit_string, CondW_true, CondW_false, GrdV_true, GrdV_false, GrdL_true, GrdL_false, vc_move, vc_assign, vc_load, vc_store, vc_field, vc_indexAddr, vc_index, vc_box, vc_alloc, vc_build, vc_buildSlice, vc_makeSlice, vc_slice, vc_extract, vc_unOp, vc_convert, vc_bin, vc_pick, vc_call, vc_append, vc_len, vc_min, vc_max, vc_copy, vc_clear, pickK_true, pickK_false, stK_eq, not_bool, min_i64, max_i64, min_u16, max_u16, extract_tuple, vc_nil, nilK_ptr, int_add, int_sub, int_mul, int_eql, int_neq, int_lss, int_leq, int_gtr, int_geq, u8_add, u8_sub, u8_mul, u8_eql, u8_neq, u8_lss, u8_leq, u8_gtr, u8_geq, u16_add, u16_sub, u16_mul, u16_eql, u16_neq, u16_lss, u16_leq, u16_gtr, u16_geq, u32_add, u32_sub, u32_mul, u32_eql, u32_neq, u32_lss, u32_leq, u32_gtr, u32_geq, u64_add, u64_sub, u64_mul, u64_eql, u64_neq, u64_lss, u64_leq, u64_gtr, u64_geq, u8_and, u8_or, u8_xor, u8_andNot, u64_and, u64_or, u64_xor, u64_andNot, u8_shl_u8, u8_shl_u16, u8_shl_u64, u32_shl_u8, u32_shl_u16, u32_shl_u64, u64_shl_u8, u64_shl_u16, u64_shl_u64, u8_shr_u8, u8_shr_u16, u8_shr_u64, u64_shr_u8, u64_shr_u16, u64_shr_u64, u16_quo8, u16_rem8, u16_quo64, u16_rem64, u64_quo8, u64_rem8, u64_quo64, u64_rem64, u32_quo8, u32_rem8, u32_quo64, u32_rem64, int_quo2, int_rem2, int_quo8, int_rem8, int_quo64, int_rem64, u64_shrN, u64_shlN, fold64, fold32, i64_shl_u8, i16_eql, i16_neq, i16_lss, i16_geq, Nat.reduceEqDiff, Nat.reduceLT, Nat.reduceAdd, Nat.reduceMul, Nat.reduceSub, ↓reduceIte, if_true, if_false, eq_self, true_and, and_true, Bool.false_eq_true, Bool.not_true, Bool.not_false, reduceCtorEq, upd_get, List.getElem?_toArray, List.getElem?_cons_zero, List.getElem?_cons_succ, Option.bind_some, rdK_some, List.map_toArray, List.map_cons, List.map_nil, rd_upd, rdO_fblk, wrOk_fblk, wrO_fblk, lget_zero, lget_succ, upd_upd, agg_cells, cells_of_list, List.length_cons, List.length_nil, Nat.add_zero, pv_cells, pl_len, pl_0, pl_1, pl_2, pl_3, pl_4, pl_5, pv_fold, pv_eta, ov_eta, opv_eta, ov_cells, ol_len, ov_fold, opv_cells, opl_len, opv_fold, st_pv, st_ov, st_opv, ol_0, ol_1, ol_2, ol_3, ol_4, ol_5, ol_6, ol_7, ol_8, ol_9, opl_0, opl_1, opl_2, opl_3, opl_4, opl_5, opl_6, opl_7, wrsOk_fblk, wrsO_fblk, fblk_all, Nat.reduceLeDiff, Nat.zero_add, rdsK2, rdsK4, rdsK6, rdsK8, rdsK10, wrsK_nil, wrsK_cons, oneCell_u8, oneCell_u16, oneCell_u32, oneCell_u64, oneCell_i16, oneCell_int, oneCell_bool, oneCell_ptr, oneCell_pointer, oneCell_sl, oneCell_slice, oneCell_string, box_eq, List.all_cons, List.all_nil, Bool.and_self, Ex1_eq, Ex1_and, endQ, resH, res_tmp, res_cell, resC_ptr, tupleOf, Fabg.results91, k_u8_0, tn_u8_0, fa_102_3, ld_100, len_100, lenS_100, fa_96_0, ld_29, fa_25_0, ld_22, ix_100_int, ix_100_u8, ix_100_u16, ix_100_i16, ld_23, ix_22_int, ix_22_u8, ix_22_u16, ix_22_i16, fa_102_2, ld_26, len_26, lenS_26, cv_3_5, cv_3_50, cv_5_50, fa_96_1, fa_102_1, ld_5, cv_50_194, call_128, ix_26_int, ix_26_u8, ix_26_u16, ix_26_i16, st_30, call_123, bs_26, st_26, call_88, k_u16_1, call_89, s2, s4, p1, x1, x2, o1, o3, o4, o6, o9, Ne.symm o9, z1, z2, q1, q2, q3, q4, q5, q6, q7, q8, toU8_nat, toU16_nat, decide_true, Int.natCast_nonneg, Int.toNat_natCast, Int.reduceToNat, Int.reduceLE, Int.reduceLT]
    | refine (makeList_ok _ _ _ _ _).use ?_
    | refine (makeList_ok _ _ _ _ _).useQ ?_
    | refine (makeTag_ok _ _ _ _).use ?_
    | refine (makeTag_ok _ _ _ _).useQ ?_
    | refine W_drawL (id := 2) (by kernel_rfl) [0, 0, 0, 0, 0, 0, 0, 0, 0, 0, 0, 0, 0, 0, 0] (by kernel_rfl) ?_
    | refine W_drawL (id := 3) (by kernel_rfl) [0, 0, 0, 0, 0, 0, 0, 0, 0, 0, 0, 0, 0, 0] (by kernel_rfl) ?_
    | refine W_drawL (id := 5) (by kernel_rfl) [0, 0, 0, 0, 0, 0, 0, 0, 0, 0, 0, 0, 0, 0, 0, 0, 0, 2] (by kernel_rfl) ?_
    | refine W_drawL (id := 6) (by kernel_rfl) [0, 0, 0, 0, 0, 0, 0, 0, 0, 1, 2, 0, 0, 2] (by kernel_rfl) ?_
    | refine W_drawL (id := 15) (by kernel_rfl) [0, 0, 0, 0, 0, 0, 0, 0, 0, 0, 0, 0, 0, 0, 0, 0, 0, 0, 0, 0, 0, 0, 0, 2] (by kernel_rfl) ?_
    | refine Alloc.mono ?_
    | (refine CondW_intro (fun hc => ?_) (fun hc => ?_) <;> (try simp only [Bool.not_eq_true', Bool.not_eq_false'] at hc) <;> (try simp only [hc]))
    | (refine GrdV_intro (fun hc => ?_) (fun hc => ?_) <;> (try simp only [Bool.not_eq_true', Bool.not_eq_false'] at hc) <;> (try simp only [hc]))
    | (refine GrdL_intro (fun hc => ?_) (fun hc => ?_) <;> (try simp only [Bool.not_eq_true', Bool.not_eq_false'] at hc) <;> (try simp only [hc]))))
  all_goals
    refine ⟨fun bx hbx => ?_⟩
    generalize hG1 : upd G ba (some (fblk (cap * 1) (upd g a (u64 (makeListL (UInt16.ofNat a) (UInt16.ofNat len) n.code (UInt32.ofNat (n.nk * (d + p)))))) 30)) = G1 at hC1 hbx ⊢
    have hb1 : G1 b = some (fblk 1027 f 96) := by rw [← hG1, upd_ne _ _ _ _ (Ne.symm o9)]; exact o1
    have zx : b ≠ bx := ne_fresh (by rw [hb1]; simp) hbx
    have hmono : Le G1 (upd G1 bx (some (fblk 1 (lget [u64 (makeTagL (UInt16.ofNat n.nk) (UInt8.ofNat d) (UInt8.ofNat p))]) 30))) := Le.fresh (Le.refl _) hbx _
    refine ⟨hmono, ?_⟩
    (repeat' (first
    | simp -implicitDefEqProofs only [WV_seq, WV_cond, WV_block, WV_skip, WV_ret, WV_exit, WV_region, WV_draw, WV_loop, thenQ_normal, thenQ_ret, thenQ_exit, blockQ_normal, blockQ_ret, blockQ_exit, V_nil, V_cons, KV_eq, VL_nil, VL_cons, KL_eq, vcl_zero, vcl_one, vcl_two, isV_same, isV_eq, monoK_eq, dOk, put, gd_none, gd_some, gdst_eq, gdv_some, gdB_true, gdB_false, gdB_undef, ev_const, ev_tmp, lit_i64, lit_i32, lit_bool, lit_pointer, lit_slice, lit_string, CondW_true, CondW_false, GrdV_true, GrdV_false, GrdL_true, GrdL_false, vc_move, vc_assign, vc_load, vc_store, vc_field, vc_indexAddr, vc_index, vc_box, vc_alloc, vc_build, vc_buildSlice, vc_makeSlice, vc_slice, vc_extract, vc_unOp, vc_convert, vc_bin, vc_pick, vc_call, vc_append, vc_len, vc_min, vc_max, vc_copy, vc_clear, pickK_true, pickK_false, stK_eq, not_bool, min_i64, max_i64, min_u16, max_u16, extract_tuple, vc_nil, nilK_ptr, int_add, int_sub, int_mul, int_eql, int_neq, int_lss, int_leq, int_gtr, int_geq, u8_add, u8_sub, u8_mul, u8_eql, u8_neq, u8_lss, u8_leq, u8_gtr, u8_geq, u16_add, u16_sub, u16_mul, u16_eql, u16_neq, u16_lss, u16_leq, u16_gtr, u16_geq, u32_add, u32_sub, u32_mul, u32_eql, u32_neq, u32_lss, u32_leq, u32_gtr, u32_geq, u64_add, u64_sub, u64_mul, u64_eql, u64_neq, u64_lss, u64_leq, u64_gtr, u64_geq, u8_and, u8_or, u8_xor, u8_andNot, u64_and, u64_or, u64_xor, u64_andNot, u8_shl_u8, u8_shl_u16, u8_shl_u64, u32_shl_u8, u32_shl_u16, u32_shl_u64, u64_shl_u8, u64_shl_u16, u64_shl_u64, u8_shr_u8, u8_shr_u16, u8_shr_u64, u64_shr_u8, u64_shr_u16, u64_shr_u64, u16_quo8, u16_rem8, u16_quo64, u16_rem64, u64_quo8, u64_rem8, u64_quo64, u64_rem64, u32_quo8, u32_rem8, u32_quo64, u32_rem64, int_quo2, int_rem2, int_quo8, int_rem8, int_quo64, int_rem64, u64_shrN, u64_shlN, fold64, fold32, i64_shl_u8, i16_eql, i16_neq, i16_lss, i16_geq, Nat.reduceEqDiff, Nat.reduceLT, Nat.reduceAdd, Nat.reduceMul, Nat.reduceSub, ↓reduceIte, if_true, if_false, eq_self, true_and, and_true, Bool.false_eq_true, Bool.not_true, Bool.not_false, reduceCtorEq, upd_get, List.getElem?_toArray, List.getElem?_cons_zero, List.getElem?_cons_succ, Option.bind_some, rdK_some, List.map_toArray, List.map_cons, List.map_nil, rd_upd, rdO_fblk, wrOk_fblk, wrO_fblk, lget_zero, lget_succ, upd_upd, agg_cells, cells_of_list, List.length_cons, List.length_nil, Nat.add_zero, pv_cells, pl_len, pl_0, pl_1, pl_2, pl_3, pl_4, pl_5, pv_fold, pv_eta, ov_eta, opv_eta, ov_cells, ol_len, ov_fold, opv_cells, opl_len, opv_fold, st_pv, st_ov, st_opv, ol_0, ol_1, ol_2, ol_3, ol_4, ol_5, ol_6, ol_7, ol_8, ol_9, opl_0, opl_1, opl_2, opl_3, opl_4, opl_5, opl_6, opl_7, wrsOk_fblk, wrsO_fblk, fblk_all, Nat.reduceLeDiff, Nat.zero_add, rdsK2, rdsK4, rdsK6, rdsK8, rdsK10, wrsK_nil, wrsK_cons, oneCell_u8, oneCell_u16, oneCell_u32, oneCell_u64, oneCell_i16, oneCell_int, oneCell_bool, oneCell_ptr, oneCell_pointer, oneCell_sl, oneCell_slice, oneCell_string, box_eq, List.all_cons, List.all_nil, Bool.and_self, Ex1_eq, Ex1_and, endQ, resH, res_tmp, res_cell, resC_ptr, tupleOf, Fabg.results91, k_u8_0, tn_u8_0, fa_102_3, ld_100, len_100, lenS_100, fa_96_0, ld_29, fa_25_0, ld_22, ix_100_int, ix_100_u8, ix_100_u16, ix_100_i16, ld_23, ix_22_int, ix_22_u8, ix_22_u16, ix_22_i16, fa_102_2, ld_26, len_26, lenS_26, cv_3_5, cv_3_50, cv_5_50, fa_96_1, fa_102_1, ld_5, cv_50_194, call_128, ix_26_int, ix_26_u8, ix_26_u16, ix_26_i16, st_30, call_123, bs_26, st_26, call_88, k_u16_1, call_89, zx]
    | refine W_drawL (id := 2) (by kernel_rfl) [0, 0, 0, 0, 0, 0, 0, 0, 0, 0, 0, 0, 0, 0, 0] (by kernel_rfl) ?_
    | refine W_drawL (id := 3) (by kernel_rfl) [0, 0, 0, 0, 0, 0, 0, 0, 0, 0, 0, 0, 0, 0] (by kernel_rfl) ?_
    | refine W_drawL (id := 5) (by kernel_rfl) [0, 0, 0, 0, 0, 0, 0, 0, 0, 0, 0, 0, 0, 0, 0, 0, 0, 2] (by kernel_rfl) ?_
    | refine W_drawL (id := 6) (by kernel_rfl) [0, 0, 0, 0, 0, 0, 0, 0, 0, 1, 2, 0, 0, 2] (by kernel_rfl) ?_
    | refine W_drawL (id := 15) (by kernel_rfl) [0, 0, 0, 0, 0, 0, 0, 0, 0, 0, 0, 0, 0, 0, 0, 0, 0, 0, 0, 0, 0, 0, 0, 2] (by kernel_rfl) ?_
    | refine Alloc.mono ?_
    | (refine CondW_intro (fun hc => ?_) (fun hc => ?_) <;> (try simp only [Bool.not_eq_true', Bool.not_eq_false'] at hc) <;> (try simp only [hc]))
    | (refine GrdV_intro (fun hc => ?_) (fun hc => ?_) <;> (try simp only [Bool.not_eq_true', Bool.not_eq_false'] at hc) <;> (try simp only [hc]))
    | (refine GrdL_intro (fun hc => ?_) (fun hc => ?_) <;> (try simp only [Bool.not_eq_true', Bool.not_eq_false'] at hc) <;> (try simp only [hc]))))
    refine arena_app (hC1.alloc hbx _) (by rw [upd_ne _ _ _ _ zx]; exact hb1) o2 (slU1 _) (by omega) ?_
    intro v' G' hG' hC2 hv'
    have hC3 := hC2.congr (A' := upd (upd A a (makeListL (UInt16.ofNat a) (UInt16.ofNat len) n.code (UInt32.ofNat (n.nk * (d + p))))) len (makeTagL (UInt16.ofNat n.nk) (UInt8.ofNat d) (UInt8.ofNat p))) (fun i hi => by
      by_cases e : i < len
      · simp only [e, if_true]; rw [upd_ne _ _ _ _ (show i ≠ len by omega)]
      · have e' : i = len := by omega
        subst e'
        simp only [Nat.lt_irrefl, if_false]; rw [upd_same])
    have s4n : rd (upd G' b (some (fblk 1027 (upd f 1 v') 96))) nb (no + 3) = some (.slice ak n.nk ck) := hcell_le hC2.leF g4
    rw [rd_upd, if_neg z1] at s4n
    (repeat' (first
    | simp -implicitDefEqProofs only [WV_seq, WV_cond, WV_block, WV_skip, WV_ret, WV_exit, WV_region, WV_draw, WV_loop, thenQ_normal, thenQ_ret, thenQ_exit, blockQ_normal, blockQ_ret, blockQ_exit, V_nil, V_cons, KV_eq, VL_nil, VL_cons, KL_eq, vcl_zero, vcl_one, vcl_two, isV_same, isV_eq, monoK_eq, dOk, put, gd_none, gd_some, gdst_eq, gdv_some, gdB_true, gdB_false, gdB_undef, ev_const, ev_tmp, lit_i64, lit_i32, lit_bool, lit_pointer, lit_slice, lit_string, CondW_true, CondW_false, GrdV_true, GrdV_false, GrdL_true, GrdL_false, vc_move, vc_assign, vc_load, vc_store, vc_field, vc_indexAddr, vc_index, vc_box, vc_alloc, vc_build, vc_buildSlice, vc_makeSlice, vc_slice, vc_extract, vc_unOp, vc_convert, vc_bin, vc_pick, vc_call, vc_append, vc_len, vc_min, vc_max, vc_copy, vc_clear, pickK_true, pickK_false, stK_eq, not_bool, min_i64, max_i64, min_u16, max_u16, extract_tuple, vc_nil, nilK_ptr, int_add, int_sub, int_mul, int_eql, int_neq, int_lss, int_leq, int_gtr, int_geq, u8_add, u8_sub, u8_mul, u8_eql, u8_neq, u8_lss, u8_leq, u8_gtr, u8_geq, u16_add, u16_sub, u16_mul, u16_eql, u16_neq, u16_lss, u16_leq, u16_gtr, u16_geq, u32_add, u32_sub, u32_mul, u32_eql, u32_neq, u32_lss, u32_leq, u32_gtr, u32_geq, u64_add, u64_sub, u64_mul, u64_eql, u64_neq, u64_lss, u64_leq, u64_gtr, u64_geq, u8_and, u8_or, u8_xor, u8_andNot, u64_and, u64_or, u64_xor, u64_andNot, u8_shl_u8, u8_shl_u16, u8_shl_u64, u32_shl_u8, u32_shl_u16, u32_shl_u64, u64_shl_u8, u64_shl_u16, u64_shl_u64, u8_shr_u8, u8_shr_u16, u8_shr_u64, u64_shr_u8, u64_shr_u16, u64_shr_u64, u16_quo8, u16_rem8, u16_quo64, u16_rem64, u64_quo8, u64_rem8, u64_quo64, u64_rem64, u32_quo8, u32_rem8, u32_quo64, u32_rem64, int_quo2, int_rem2, int_quo8, int_rem8, int_quo64, int_rem64, u64_shrN, u64_shlN, fold64, fold32, i64_shl_u8, i16_eql, i16_neq, i16_lss, i16_geq, Nat.reduceEqDiff, Nat.reduceLT, Nat.reduceAdd, Nat.reduceMul, Nat.reduceSub, ↓reduceIte, if_true, if_false, eq_self, true_and, and_true, Bool.false_eq_true, Bool.not_true, Bool.not_false, reduceCtorEq, upd_get, List.getElem?_toArray, List.getElem?_cons_zero, List.getElem?_cons_succ, Option.bind_some, rdK_some, List.map_toArray, List.map_cons, List.map_nil, rd_upd, rdO_fblk, wrOk_fblk, wrO_fblk, lget_zero, lget_succ, upd_upd, agg_cells, cells_of_list, List.length_cons, List.length_nil, Nat.add_zero, pv_cells, pl_len, pl_0, pl_1, pl_2, pl_3, pl_4, pl_5, pv_fold, pv_eta, ov_eta, opv_eta, ov_cells, ol_len, ov_fold, opv_cells, opl_len, opv_fold, st_pv, st_ov, st_opv, ol_0, ol_1, ol_2, ol_3, ol_4, ol_5, ol_6, ol_7, ol_8, ol_9, opl_0, opl_1, opl_2, opl_3, opl_4, opl_5, opl_6, opl_7, wrsOk_fblk, wrsO_fblk, fblk_all, Nat.reduceLeDiff, Nat.zero_add, rdsK2, rdsK4, rdsK6, rdsK8, rdsK10, wrsK_nil, wrsK_cons, oneCell_u8, oneCell_u16, oneCell_u32, oneCell_u64, oneCell_i16, oneCell_int, oneCell_bool, oneCell_ptr, oneCell_pointer, oneCell_sl, oneCell_slice, oneCell_string, box_eq, List.all_cons, List.all_nil, Bool.and_self, Ex1_eq, Ex1_and, endQ, resH, res_tmp, res_cell, resC_ptr, tupleOf, Fabg.results91, k_u8_0, tn_u8_0, fa_102_3, ld_100, len_100, lenS_100, fa_96_0, ld_29, fa_25_0, ld_22, ix_100_int, ix_100_u8, ix_100_u16, ix_100_i16, ld_23, ix_22_int, ix_22_u8, ix_22_u16, ix_22_i16, fa_102_2, ld_26, len_26, lenS_26, cv_3_5, cv_3_50, cv_5_50, fa_96_1, fa_102_1, ld_5, cv_50_194, call_128, ix_26_int, ix_26_u8, ix_26_u16, ix_26_i16, st_30, call_123, bs_26, st_26, call_88, k_u16_1, call_89, hG', hv', s4n, z1]
    | refine W_drawL (id := 2) (by kernel_rfl) [0, 0, 0, 0, 0, 0, 0, 0, 0, 0, 0, 0, 0, 0, 0] (by kernel_rfl) ?_
    | refine W_drawL (id := 3) (by kernel_rfl) [0, 0, 0, 0, 0, 0, 0, 0, 0, 0, 0, 0, 0, 0] (by kernel_rfl) ?_
    | refine W_drawL (id := 5) (by kernel_rfl) [0, 0, 0, 0, 0, 0, 0, 0, 0, 0, 0, 0, 0, 0, 0, 0, 0, 2] (by kernel_rfl) ?_
    | refine W_drawL (id := 6) (by kernel_rfl) [0, 0, 0, 0, 0, 0, 0, 0, 0, 1, 2, 0, 0, 2] (by kernel_rfl) ?_
    | refine W_drawL (id := 15) (by kernel_rfl) [0, 0, 0, 0, 0, 0, 0, 0, 0, 0, 0, 0, 0, 0, 0, 0, 0, 0, 0, 0, 0, 0, 0, 2] (by kernel_rfl) ?_
    | refine Alloc.mono ?_
    | (refine CondW_intro (fun hc => ?_) (fun hc => ?_) <;> (try simp only [Bool.not_eq_true', Bool.not_eq_false'] at hc) <;> (try simp only [hc]))
    | (refine GrdV_intro (fun hc => ?_) (fun hc => ?_) <;> (try simp only [Bool.not_eq_true', Bool.not_eq_false'] at hc) <;> (try simp only [hc]))
    | (refine GrdL_intro (fun hc => ?_) (fun hc => ?_) <;> (try simp only [Bool.not_eq_true', Bool.not_eq_false'] at hc) <;> (try simp only [hc]))))
    clear hC2 s4n hG1 hb1
    generalize upd G' b (some (fblk 1027 (upd f 1 v') 96)) = G2 at hC3 ⊢
    generalize hB : upd (upd A a (makeListL (UInt16.ofNat a) (UInt16.ofNat len) n.code (UInt32.ofNat (n.nk * (d + p))))) len (makeTagL (UInt16.ofNat n.nk) (UInt8.ofNat d) (UInt8.ofNat p)) = B at hC3 ⊢
    have hinv := fun k hk' => secs_inv T n B (len + 1) d p (fun j hj => ⟨(hk j hj).2.2.1, (hk j hj).2.2.2⟩) k hk'
    refine W_loopM (fun m E G => ∃ j : Nat, m + j = n.nk ∧ CHp H0 F G b tb (secsT T n B (len + 1) j).1 (secsT T n B (len + 1) j).2 stk ∧ E 0 = ptr b 0 ∧ E 2 = u16 (UInt16.ofNat len) ∧ E 3 = ptr nb no ∧ E 12 = u16 (UInt16.ofNat (d + p)) ∧ E 92 = .slice ak n.nk ck ∧ E 93 = .int .i64 (n.nk : Nat) ∧ E 94 = .int .i64 (j : Nat))
      (fun E G => CHp H0 F G b tb (secsT T n B (len + 1) n.nk).1 (secsT T n B (len + 1) n.nk).2 stk ∧ E 0 = ptr b 0 ∧ E 2 = u16 (UInt16.ofNat len) ∧ E 3 = ptr nb no ∧ E 12 = u16 (UInt16.ofNat (d + p))) ?_ n.nk _ _ ?_ ?_
    · rintro m E G ⟨j, hmj, hC, t0, t2, t3, t12, t92, t93, t94⟩
      refine WV_sound _ _ _ _ ?_
      by_cases hj : j < n.nk
      rotate_left
      · have q : decide ((j : Int) < (n.nk : Int)) = false := decide_eq_false (by omega)
        have e : j = n.nk := by omega
        subst e
        (repeat' (first
    | simp -implicitDefEqProofs only [WV_seq, WV_cond, WV_block, WV_skip, WV_ret, WV_exit, WV_region, WV_draw, WV_loop, thenQ_normal, thenQ_ret, thenQ_exit, blockQ_normal, blockQ_ret, blockQ_exit, V_nil, V_cons, KV_eq, VL_nil, VL_cons, KL_eq, vcl_zero, vcl_one, vcl_two, isV_same, isV_eq, monoK_eq, dOk, put, gd_none, gd_some, gdst_eq, gdv_some, gdB_true, gdB_false, gdB_undef, ev_const, ev_tmp, lit_i64, lit_i32, lit_bool, lit_pointer, lit_slice, lit_string, CondW_true, CondW_false, GrdV_true, GrdV_false, GrdL_true, GrdL_false, vc_move, vc_assign, vc_load, vc_store, vc_field, vc_indexAddr, vc_index, vc_box, vc_alloc, vc_build, vc_buildSlice, vc_makeSlice, vc_slice, vc_extract, vc_unOp, vc_convert, vc_bin, vc_pick, vc_call, vc_append, vc_len, vc_min, vc_max, vc_copy, vc_clear, pickK_true, pickK_false, stK_eq, not_bool, min_i64, max_i64, min_u16, max_u16, extract_tuple, vc_nil, nilK_ptr, int_add, int_sub, int_mul, int_eql, int_neq, int_lss, int_leq, int_gtr, int_geq, u8_add, u8_sub, u8_mul, u8_eql, u8_neq, u8_lss, u8_leq, u8_gtr, u8_geq, u16_add, u16_sub, u16_mul, u16_eql, u16_neq, u16_lss, u16_leq, u16_gtr, u16_geq, u32_add, u32_sub, u32_mul, u32_eql, u32_neq, u32_lss, u32_leq, u32_gtr, u32_geq, u64_add, u64_sub, u64_mul, u64_eql, u64_neq, u64_lss, u64_leq, u64_gtr, u64_geq, u8_and, u8_or, u8_xor, u8_andNot, u64_and, u64_or, u64_xor, u64_andNot, u8_shl_u8, u8_shl_u16, u8_shl_u64, u32_shl_u8, u32_shl_u16, u32_shl_u64, u64_shl_u8, u64_shl_u16, u64_shl_u64, u8_shr_u8, u8_shr_u16, u8_shr_u64, u64_shr_u8, u64_shr_u16, u64_shr_u64, u16_quo8, u16_rem8, u16_quo64, u16_rem64, u64_quo8, u64_rem8, u64_quo64, u64_rem64, u32_quo8, u32_rem8, u32_quo64, u32_rem64, int_quo2, int_rem2, int_quo8, int_rem8, int_quo64, int_rem64, u64_shrN, u64_shlN, fold64, fold32, i64_shl_u8, i16_eql, i16_neq, i16_lss, i16_geq, Nat.reduceEqDiff, Nat.reduceLT, Nat.reduceAdd, Nat.reduceMul, Nat.reduceSub, ↓reduceIte, if_true, if_false, eq_self, true_and, and_true, Bool.false_eq_true, Bool.not_true, Bool.not_false, reduceCtorEq, upd_get, List.getElem?_toArray, List.getElem?_cons_zero, List.getElem?_cons_succ, Option.bind_some, rdK_some, List.map_toArray, List.map_cons, List.map_nil, rd_upd, rdO_fblk, wrOk_fblk, wrO_fblk, lget_zero, lget_succ, upd_upd, agg_cells, cells_of_list, List.length_cons, List.length_nil, Nat.add_zero, pv_cells, pl_len, pl_0, pl_1, pl_2, pl_3, pl_4, pl_5, pv_fold, pv_eta, ov_eta, opv_eta, ov_cells, ol_len, ov_fold, opv_cells, opl_len, opv_fold, st_pv, st_ov, st_opv, ol_0, ol_1, ol_2, ol_3, ol_4, ol_5, ol_6, ol_7, ol_8, ol_9, opl_0, opl_1, opl_2, opl_3, opl_4, opl_5, opl_6, opl_7, wrsOk_fblk, wrsO_fblk, fblk_all, Nat.reduceLeDiff, Nat.zero_add, rdsK2, rdsK4, rdsK6, rdsK8, rdsK10, wrsK_nil, wrsK_cons, oneCell_u8, oneCell_u16, oneCell_u32, oneCell_u64, oneCell_i16, oneCell_int, oneCell_bool, oneCell_ptr, oneCell_pointer, oneCell_sl, oneCell_slice, oneCell_string, box_eq, List.all_cons, List.all_nil, Bool.and_self, Ex1_eq, Ex1_and, endQ, resH, res_tmp, res_cell, resC_ptr, tupleOf, Fabg.results91, k_u8_0, tn_u8_0, fa_102_3, ld_100, len_100, lenS_100, fa_96_0, ld_29, fa_25_0, ld_22, ix_100_int, ix_100_u8, ix_100_u16, ix_100_i16, ld_23, ix_22_int, ix_22_u8, ix_22_u16, ix_22_i16, fa_102_2, ld_26, len_26, lenS_26, cv_3_5, cv_3_50, cv_5_50, fa_96_1, fa_102_1, ld_5, cv_50_194, call_128, ix_26_int, ix_26_u8, ix_26_u16, ix_26_i16, st_30, call_123, bs_26, st_26, call_88, k_u16_1, call_89, t0, t2, t3, t12, t92, t93, t94, q]
    | refine W_drawL (id := 2) (by kernel_rfl) [0, 0, 0, 0, 0, 0, 0, 0, 0, 0, 0, 0, 0, 0, 0] (by kernel_rfl) ?_
    | refine W_drawL (id := 3) (by kernel_rfl) [0, 0, 0, 0, 0, 0, 0, 0, 0, 0, 0, 0, 0, 0] (by kernel_rfl) ?_
    | refine W_drawL (id := 5) (by kernel_rfl) [0, 0, 0, 0, 0, 0, 0, 0, 0, 0, 0, 0, 0, 0, 0, 0, 0, 2] (by kernel_rfl) ?_
    | refine W_drawL (id := 6) (by kernel_rfl) [0, 0, 0, 0, 0, 0, 0, 0, 0, 1, 2, 0, 0, 2] (by kernel_rfl) ?_
    | refine W_drawL (id := 15) (by kernel_rfl) [0, 0, 0, 0, 0, 0, 0, 0, 0, 0, 0, 0, 0, 0, 0, 0, 0, 0, 0, 0, 0, 0, 0, 2] (by kernel_rfl) ?_
    | refine Alloc.mono ?_
    | (refine CondW_intro (fun hc => ?_) (fun hc => ?_) <;> (try simp only [Bool.not_eq_true', Bool.not_eq_false'] at hc) <;> (try simp only [hc]))
    | (refine GrdV_intro (fun hc => ?_) (fun hc => ?_) <;> (try simp only [Bool.not_eq_true', Bool.not_eq_false'] at hc) <;> (try simp only [hc]))
    | (refine GrdL_intro (fun hc => ?_) (fun hc => ?_) <;> (try simp only [Bool.not_eq_true', Bool.not_eq_false'] at hc) <;> (try simp only [hc]))))
        exact hC
      have q : ((j : Int) < (n.nk : Int)) = True := eq_true (by omega)
      obtain ⟨bN, oN, eN, hN⟩ := hkn j hj
      have hkj := hk j hj
      have m1' : rd G tb 0 = some (sl bN oN cnt cN) := by rw [← eN]; exact hcell_le hC.leF m1
      obtain ⟨bk, ok, ek, hkr⟩ := g6.pos (by omega)
      rw [ek] at t92
      have s5 : rd G bk (ok + j) = some (i16 (n.kid j)) := hcell_le hC.leF (hkr j hj)
      have hX := (hinv j (by omega)).ln
      obtain ⟨_, _, _, _, _, _, _, o4', _⟩ := hC.open (by omega)
      have p2 : (0 ≤ (n.kid j).toInt) = True := eq_true hkj.1
      have p3 : ((n.kid j).toInt < (cnt : Int)) = True := eq_true (by have := hkj.2.1; unfold kidI at this; omega)
      have p4 : (n.kid j).toInt.toNat = kidI n j := rfl
      have hjm : j * (d + p) + (d + p) ≤ n.nk * (d + p) := by rw [← Nat.succ_mul]; exact Nat.mul_le_mul_right _ hj
      have q9 : w64 ((j : Int) + 1) = ((j + 1 : Nat) : Int) := by rw [w64_id] <;> omega
      (repeat' (first
    | simp -implicitDefEqProofs only [WV_seq, WV_cond, WV_block, WV_skip, WV_ret, WV_exit, WV_region, WV_draw, WV_loop, thenQ_normal, thenQ_ret, thenQ_exit, blockQ_normal, blockQ_ret, blockQ_exit, V_nil, V_cons, KV_eq, VL_nil, VL_cons, KL_eq, vcl_zero, vcl_one, vcl_two, isV_same, isV_eq, monoK_eq, dOk, put, gd_none, gd_some, gdst_eq, gdv_some, gdB_true, gdB_false, gdB_undef, ev_const, ev_tmp, lit_i64, lit_i32, lit_bool, lit_pointer, lit_slice, lit_string, CondW_true, CondW_false, GrdV_true, GrdV_false, GrdL_true, GrdL_false, vc_move, vc_assign, vc_load, vc_store, vc_field, vc_indexAddr, vc_index, vc_box, vc_alloc, vc_build, vc_buildSlice, vc_makeSlice, vc_slice, vc_extract, vc_unOp, vc_convert, vc_bin, vc_pick, vc_call, vc_append, vc_len, vc_min, vc_max, vc_copy, vc_clear, pickK_true, pickK_false, stK_eq, not_bool, min_i64, max_i64, min_u16, max_u16, extract_tuple, vc_nil, nilK_ptr, int_add, int_sub, int_mul, int_eql, int_neq, int_lss, int_leq, int_gtr, int_geq, u8_add, u8_sub, u8_mul, u8_eql, u8_neq, u8_lss, u8_leq, u8_gtr, u8_geq, u16_add, u16_sub, u16_mul, u16_eql, u16_neq, u16_lss, u16_leq, u16_gtr, u16_geq, u32_add, u32_sub, u32_mul, u32_eql, u32_neq, u32_lss, u32_leq, u32_gtr, u32_geq, u64_add, u64_sub, u64_mul, u64_eql, u64_neq, u64_lss, u64_leq, u64_gtr, u64_geq, u8_and, u8_or, u8_xor, u8_andNot, u64_and, u64_or, u64_xor, u64_andNot, u8_shl_u8, u8_shl_u16, u8_shl_u64, u32_shl_u8, u32_shl_u16, u32_shl_u64, u64_shl_u8, u64_shl_u16, u64_shl_u64, u8_shr_u8, u8_shr_u16, u8_shr_u64, u64_shr_u8, u64_shr_u16, u64_shr_u64, u16_quo8, u16_rem8, u16_quo64, u16_rem64, u64_quo8, u64_rem8, u64_quo64, u64_rem64, u32_quo8, u32_rem8, u32_quo64, u32_rem64, int_quo2, int_rem2, int_quo8, int_rem8, int_quo64, int_rem64, u64_shrN, u64_shlN, fold64, fold32, i64_shl_u8, i16_eql, i16_neq, i16_lss, i16_geq, Nat.reduceEqDiff, Nat.reduceLT, Nat.reduceAdd, Nat.reduceMul, Nat.reduceSub, ↓reduceIte, if_true, if_false, eq_self, true_and, and_true, Bool.false_eq_true, Bool.not_true, Bool.not_false, reduceCtorEq, upd_get, List.getElem?_toArray, List.getElem?_cons_zero, List.getElem?_cons_succ, Option.bind_some, rdK_some, List.map_toArray, List.map_cons, List.map_nil, rd_upd, rdO_fblk, wrOk_fblk, wrO_fblk, lget_zero, lget_succ, upd_upd, agg_cells, cells_of_list, List.length_cons, List.length_nil, Nat.add_zero, pv_cells, pl_len, pl_0, pl_1, pl_2, pl_3, pl_4, pl_5, pv_fold, pv_eta, ov_eta, opv_eta, ov_cells, ol_len, ov_fold, opv_cells, opl_len, opv_fold, st_pv, st_ov, st_opv, ol_0, ol_1, ol_2, ol_3, ol_4, ol_5, ol_6, ol_7, ol_8, ol_9, opl_0, opl_1, opl_2, opl_3, opl_4, opl_5, opl_6, opl_7, wrsOk_fblk, wrsO_fblk, fblk_all, Nat.reduceLeDiff, Nat.zero_add, rdsK2, rdsK4, rdsK6, rdsK8, rdsK10, wrsK_nil, wrsK_cons, oneCell_u8, oneCell_u16, oneCell_u32, oneCell_u64, oneCell_i16, oneCell_int, oneCell_bool, oneCell_ptr, oneCell_pointer, oneCell_sl, oneCell_slice, oneCell_string, box_eq, List.all_cons, List.all_nil, Bool.and_self, Ex1_eq, Ex1_and, endQ, resH, res_tmp, res_cell, resC_ptr, tupleOf, Fabg.results91, k_u8_0, tn_u8_0, fa_102_3, ld_100, len_100, lenS_100, fa_96_0, ld_29, fa_25_0, ld_22, ix_100_int, ix_100_u8, ix_100_u16, ix_100_i16, ld_23, ix_22_int, ix_22_u8, ix_22_u16, ix_22_i16, fa_102_2, ld_26, len_26, lenS_26, cv_3_5, cv_3_50, cv_5_50, fa_96_1, fa_102_1, ld_5, cv_50_194, call_128, ix_26_int, ix_26_u8, ix_26_u16, ix_26_i16, st_30, call_123, bs_26, st_26, call_88, k_u16_1, call_89, t0, t2, t3, t12, t92, t93, t94, q, s5, m1', o4', p2, p3, p4, decide_true, Int.natCast_nonneg, Int.toNat_natCast]
    | refine W_drawL (id := 2) (by kernel_rfl) [0, 0, 0, 0, 0, 0, 0, 0, 0, 0, 0, 0, 0, 0, 0] (by kernel_rfl) ?_
    | refine W_drawL (id := 3) (by kernel_rfl) [0, 0, 0, 0, 0, 0, 0, 0, 0, 0, 0, 0, 0, 0] (by kernel_rfl) ?_
    | refine W_drawL (id := 5) (by kernel_rfl) [0, 0, 0, 0, 0, 0, 0, 0, 0, 0, 0, 0, 0, 0, 0, 0, 0, 2] (by kernel_rfl) ?_
    | refine W_drawL (id := 6) (by kernel_rfl) [0, 0, 0, 0, 0, 0, 0, 0, 0, 1, 2, 0, 0, 2] (by kernel_rfl) ?_
    | refine W_drawL (id := 15) (by kernel_rfl) [0, 0, 0, 0, 0, 0, 0, 0, 0, 0, 0, 0, 0, 0, 0, 0, 0, 0, 0, 0, 0, 0, 0, 2] (by kernel_rfl) ?_
    | refine Alloc.mono ?_
    | (refine CondW_intro (fun hc => ?_) (fun hc => ?_) <;> (try simp only [Bool.not_eq_true', Bool.not_eq_false'] at hc) <;> (try simp only [hc]))
    | (refine GrdV_intro (fun hc => ?_) (fun hc => ?_) <;> (try simp only [Bool.not_eq_true', Bool.not_eq_false'] at hc) <;> (try simp only [hc]))
    | (refine GrdL_intro (fun hc => ?_) (fun hc => ?_) <;> (try simp only [Bool.not_eq_true', Bool.not_eq_false'] at hc) <;> (try simp only [hc]))))
      refine (csec_ok hC hN (by rw [hkj.2.2.1, hkj.2.2.2]; omega)).mono ?_
      rintro _ G' ⟨rfl, hC'⟩
      (repeat' (first
    | simp -implicitDefEqProofs only [WV_seq, WV_cond, WV_block, WV_skip, WV_ret, WV_exit, WV_region, WV_draw, WV_loop, thenQ_normal, thenQ_ret, thenQ_exit, blockQ_normal, blockQ_ret, blockQ_exit, V_nil, V_cons, KV_eq, VL_nil, VL_cons, KL_eq, vcl_zero, vcl_one, vcl_two, isV_same, isV_eq, monoK_eq, dOk, put, gd_none, gd_some, gdst_eq, gdv_some, gdB_true, gdB_false, gdB_undef, ev_const, ev_tmp, lit_i64, lit_i32, lit_bool, lit_pointer, lit_slice, lit_string, CondW_true, CondW_false, GrdV_true, GrdV_false, GrdL_true, GrdL_false, vc_move, vc_assign, vc_load, vc_store, vc_field, vc_indexAddr, vc_index, vc_box, vc_alloc, vc_build, vc_buildSlice, vc_makeSlice, vc_slice, vc_extract, vc_unOp, vc_convert, vc_bin, vc_pick, vc_call, vc_append, vc_len, vc_min, vc_max, vc_copy, vc_clear, pickK_true, pickK_false, stK_eq, not_bool, min_i64, max_i64, min_u16, max_u16, extract_tuple, vc_nil, nilK_ptr, int_add, int_sub, int_mul, int_eql, int_neq, int_lss, int_leq, int_gtr, int_geq, u8_add, u8_sub, u8_mul, u8_eql, u8_neq, u8_lss, u8_leq, u8_gtr, u8_geq, u16_add, u16_sub, u16_mul, u16_eql, u16_neq, u16_lss, u16_leq, u16_gtr, u16_geq, u32_add, u32_sub, u32_mul, u32_eql, u32_neq, u32_lss, u32_leq, u32_gtr, u32_geq, u64_add, u64_sub, u64_mul, u64_eql, u64_neq, u64_lss, u64_leq, u64_gtr, u64_geq, u8_and, u8_or, u8_xor, u8_andNot, u64_and, u64_or, u64_xor, u64_andNot, u8_shl_u8, u8_shl_u16, u8_shl_u64, u32_shl_u8, u32_shl_u16, u32_shl_u64, u64_shl_u8, u64_shl_u16, u64_shl_u64, u8_shr_u8, u8_shr_u16, u8_shr_u64, u64_shr_u8, u64_shr_u16, u64_shr_u64, u16_quo8, u16_rem8, u16_quo64, u16_rem64, u64_quo8, u64_rem8, u64_quo64, u64_rem64, u32_quo8, u32_rem8, u32_quo64, u32_rem64, int_quo2, int_rem2, int_quo8, int_rem8, int_quo64, int_rem64, u64_shrN, u64_shlN, fold64, fold32, i64_shl_u8, i16_eql, i16_neq, i16_lss, i16_geq, Nat.reduceEqDiff, Nat.reduceLT, Nat.reduceAdd, Nat.reduceMul, Nat.reduceSub, ↓reduceIte, if_true, if_false, eq_self, true_and, and_true, Bool.false_eq_true, Bool.not_true, Bool.not_false, reduceCtorEq, upd_get, List.getElem?_toArray, List.getElem?_cons_zero, List.getElem?_cons_succ, Option.bind_some, rdK_some, List.map_toArray, List.map_cons, List.map_nil, rd_upd, rdO_fblk, wrOk_fblk, wrO_fblk, lget_zero, lget_succ, upd_upd, agg_cells, cells_of_list, List.length_cons, List.length_nil, Nat.add_zero, pv_cells, pl_len, pl_0, pl_1, pl_2, pl_3, pl_4, pl_5, pv_fold, pv_eta, ov_eta, opv_eta, ov_cells, ol_len, ov_fold, opv_cells, opl_len, opv_fold, st_pv, st_ov, st_opv, ol_0, ol_1, ol_2, ol_3, ol_4, ol_5, ol_6, ol_7, ol_8, ol_9, opl_0, opl_1, opl_2, opl_3, opl_4, opl_5, opl_6, opl_7, wrsOk_fblk, wrsO_fblk, fblk_all, Nat.reduceLeDiff, Nat.zero_add, rdsK2, rdsK4, rdsK6, rdsK8, rdsK10, wrsK_nil, wrsK_cons, oneCell_u8, oneCell_u16, oneCell_u32, oneCell_u64, oneCell_i16, oneCell_int, oneCell_bool, oneCell_ptr, oneCell_pointer, oneCell_sl, oneCell_slice, oneCell_string, box_eq, List.all_cons, List.all_nil, Bool.and_self, Ex1_eq, Ex1_and, endQ, resH, res_tmp, res_cell, resC_ptr, tupleOf, Fabg.results91, k_u8_0, tn_u8_0, fa_102_3, ld_100, len_100, lenS_100, fa_96_0, ld_29, fa_25_0, ld_22, ix_100_int, ix_100_u8, ix_100_u16, ix_100_i16, ld_23, ix_22_int, ix_22_u8, ix_22_u16, ix_22_i16, fa_102_2, ld_26, len_26, lenS_26, cv_3_5, cv_3_50, cv_5_50, fa_96_1, fa_102_1, ld_5, cv_50_194, call_128, ix_26_int, ix_26_u8, ix_26_u16, ix_26_i16, st_30, call_123, bs_26, st_26, call_88, k_u16_1, call_89, t0, t2, t3, t12, t92, t93, t94, q9]
    | refine W_drawL (id := 2) (by kernel_rfl) [0, 0, 0, 0, 0, 0, 0, 0, 0, 0, 0, 0, 0, 0, 0] (by kernel_rfl) ?_
    | refine W_drawL (id := 3) (by kernel_rfl) [0, 0, 0, 0, 0, 0, 0, 0, 0, 0, 0, 0, 0, 0] (by kernel_rfl) ?_
    | refine W_drawL (id := 5) (by kernel_rfl) [0, 0, 0, 0, 0, 0, 0, 0, 0, 0, 0, 0, 0, 0, 0, 0, 0, 2] (by kernel_rfl) ?_
    | refine W_drawL (id := 6) (by kernel_rfl) [0, 0, 0, 0, 0, 0, 0, 0, 0, 1, 2, 0, 0, 2] (by kernel_rfl) ?_
    | refine W_drawL (id := 15) (by kernel_rfl) [0, 0, 0, 0, 0, 0, 0, 0, 0, 0, 0, 0, 0, 0, 0, 0, 0, 0, 0, 0, 0, 0, 0, 2] (by kernel_rfl) ?_
    | refine Alloc.mono ?_
    | (refine CondW_intro (fun hc => ?_) (fun hc => ?_) <;> (try simp only [Bool.not_eq_true', Bool.not_eq_false'] at hc) <;> (try simp only [hc]))
    | (refine GrdV_intro (fun hc => ?_) (fun hc => ?_) <;> (try simp only [Bool.not_eq_true', Bool.not_eq_false'] at hc) <;> (try simp only [hc]))
    | (refine GrdL_intro (fun hc => ?_) (fun hc => ?_) <;> (try simp only [Bool.not_eq_true', Bool.not_eq_false'] at hc) <;> (try simp only [hc]))))
      exact ⟨m - 1, by omega, j + 1, by omega, hC', by rw [ek], rfl⟩
    · exact ⟨0, by omega, hC3, by simp [upd_get], by simp [upd_get], by simp [upd_get], by simp [upd_get], by simp [upd_get], by simp [upd_get], by simp [upd_get]⟩
    · rintro E G ⟨hC, t0, t2, t3, t12⟩
      have s4m : rd G nb (no + 3) = some (.slice ak n.nk ck) := hcell_le hC.leF g4
      have q9 : w64 ((n.nk : Int) - 1) = (n.nk : Int) - 1 := w64_id (by omega) (by omega)
      (repeat' (first
    | simp -implicitDefEqProofs only [WV_seq, WV_cond, WV_block, WV_skip, WV_ret, WV_exit, WV_region, WV_draw, WV_loop, thenQ_normal, thenQ_ret, thenQ_exit, blockQ_normal, blockQ_ret, blockQ_exit, V_nil, V_cons, KV_eq, VL_nil, VL_cons, KL_eq, vcl_zero, vcl_one, vcl_two, isV_same, isV_eq, monoK_eq, dOk, put, gd_none, gd_some, gdst_eq, gdv_some, gdB_true, gdB_false, gdB_undef, ev_const, ev_tmp, lit_i64, lit_i32, lit_bool, lit_pointer, lit_slice, lit_string, CondW_true, CondW_false, GrdV_true, GrdV_false, GrdL_true, GrdL_false, vc_move, vc_assign, vc_load, vc_store, vc_field, vc_indexAddr, vc_index, vc_box, vc_alloc, vc_build, vc_buildSlice, vc_makeSlice, vc_slice, vc_extract, vc_unOp, vc_convert, vc_bin, vc_pick, vc_call, vc_append, vc_len, vc_min, vc_max, vc_copy, vc_clear, pickK_true, pickK_false, stK_eq, not_bool, min_i64, max_i64, min_u16, max_u16, extract_tuple, vc_nil, nilK_ptr, int_add, int_sub, int_mul, int_eql, int_neq, int_lss, int_leq, int_gtr, int_geq, u8_add, u8_sub, u8_mul, u8_eql, u8_neq, u8_lss, u8_leq, u8_gtr, u8_geq, u16_add, u16_sub, u16_mul, u16_eql, u16_neq, u16_lss, u16_leq, u16_gtr, u16_geq, u32_add, u32_sub, u32_mul, u32_eql, u32_neq, u32_lss, u32_leq, u32_gtr, u32_geq, u64_add, u64_sub, u64_mul, u64_eql, u64_neq, u64_lss, u64_leq, u64_gtr, u64_geq, u8_and, u8_or, u8_xor, u8_andNot, u64_and, u64_or, u64_xor, u64_andNot, u8_shl_u8, u8_shl_u16, u8_shl_u64, u32_shl_u8, u32_shl_u16, u32_shl_u64, u64_shl_u8, u64_shl_u16, u64_shl_u64, u8_shr_u8, u8_shr_u16, u8_shr_u64, u64_shr_u8, u64_shr_u16, u64_shr_u64, u16_quo8, u16_rem8, u16_quo64, u16_rem64, u64_quo8, u64_rem8, u64_quo64, u64_rem64, u32_quo8, u32_rem8, u32_quo64, u32_rem64, int_quo2, int_rem2, int_quo8, int_rem8, int_quo64, int_rem64, u64_shrN, u64_shlN, fold64, fold32, i64_shl_u8, i16_eql, i16_neq, i16_lss, i16_geq, Nat.reduceEqDiff, Nat.reduceLT, Nat.reduceAdd, Nat.reduceMul, Nat.reduceSub, ↓reduceIte, if_true, if_false, eq_self, true_and, and_true, Bool.false_eq_true, Bool.not_true, Bool.not_false, reduceCtorEq, upd_get, List.getElem?_toArray, List.getElem?_cons_zero, List.getElem?_cons_succ, Option.bind_some, rdK_some, List.map_toArray, List.map_cons, List.map_nil, rd_upd, rdO_fblk, wrOk_fblk, wrO_fblk, lget_zero, lget_succ, upd_upd, agg_cells, cells_of_list, List.length_cons, List.length_nil, Nat.add_zero, pv_cells, pl_len, pl_0, pl_1, pl_2, pl_3, pl_4, pl_5, pv_fold, pv_eta, ov_eta, opv_eta, ov_cells, ol_len, ov_fold, opv_cells, opl_len, opv_fold, st_pv, st_ov, st_opv, ol_0, ol_1, ol_2, ol_3, ol_4, ol_5, ol_6, ol_7, ol_8, ol_9, opl_0, opl_1, opl_2, opl_3, opl_4, opl_5, opl_6, opl_7, wrsOk_fblk, wrsO_fblk, fblk_all, Nat.reduceLeDiff, Nat.zero_add, rdsK2, rdsK4, rdsK6, rdsK8, rdsK10, wrsK_nil, wrsK_cons, oneCell_u8, oneCell_u16, oneCell_u32, oneCell_u64, oneCell_i16, oneCell_int, oneCell_bool, oneCell_ptr, oneCell_pointer, oneCell_sl, oneCell_slice, oneCell_string, box_eq, List.all_cons, List.all_nil, Bool.and_self, Ex1_eq, Ex1_and, endQ, resH, res_tmp, res_cell, resC_ptr, tupleOf, Fabg.results91, k_u8_0, tn_u8_0, fa_102_3, ld_100, len_100, lenS_100, fa_96_0, ld_29, fa_25_0, ld_22, ix_100_int, ix_100_u8, ix_100_u16, ix_100_i16, ld_23, ix_22_int, ix_22_u8, ix_22_u16, ix_22_i16, fa_102_2, ld_26, len_26, lenS_26, cv_3_5, cv_3_50, cv_5_50, fa_96_1, fa_102_1, ld_5, cv_50_194, call_128, ix_26_int, ix_26_u8, ix_26_u16, ix_26_i16, st_30, call_123, bs_26, st_26, call_88, k_u16_1, call_89, t0, t2, t3, t12, s4m, q9]
    | refine W_drawL (id := 2) (by kernel_rfl) [0, 0, 0, 0, 0, 0, 0, 0, 0, 0, 0, 0, 0, 0, 0] (by kernel_rfl) ?_
    | refine W_drawL (id := 3) (by kernel_rfl) [0, 0, 0, 0, 0, 0, 0, 0, 0, 0, 0, 0, 0, 0] (by kernel_rfl) ?_
    | refine W_drawL (id := 5) (by kernel_rfl) [0, 0, 0, 0, 0, 0, 0, 0, 0, 0, 0, 0, 0, 0, 0, 0, 0, 2] (by kernel_rfl) ?_
    | refine W_drawL (id := 6) (by kernel_rfl) [0, 0, 0, 0, 0, 0, 0, 0, 0, 1, 2, 0, 0, 2] (by kernel_rfl) ?_
    | refine W_drawL (id := 15) (by kernel_rfl) [0, 0, 0, 0, 0, 0, 0, 0, 0, 0, 0, 0, 0, 0, 0, 0, 0, 0, 0, 0, 0, 0, 0, 2] (by kernel_rfl) ?_
    | refine Alloc.mono ?_
    | (refine CondW_intro (fun hc => ?_) (fun hc => ?_) <;> (try simp only [Bool.not_eq_true', Bool.not_eq_false'] at hc) <;> (try simp only [hc]))
    | (refine GrdV_intro (fun hc => ?_) (fun hc => ?_) <;> (try simp only [Bool.not_eq_true', Bool.not_eq_false'] at hc) <;> (try simp only [hc]))
    | (refine GrdL_intro (fun hc => ?_) (fun hc => ?_) <;> (try simp only [Bool.not_eq_true', Bool.not_eq_false'] at hc) <;> (try simp only [hc]))))
      generalize secsT T n B (len + 1) n.nk = X at *
      refine W_loop (fun m E G => ∃ j : Nat, m = j ∧ j ≤ n.nk ∧ CHp H0 F G b tb X.1 X.2 (nn (catF (fun i => slotL (len + 1 + i * (d + p) + (kidN T n i).nd) (kidN T n i)) j (n.nk - j)) ++ stk) ∧ E 0 = ptr b 0 ∧ E 2 = u16 (UInt16.ofNat len) ∧ E 3 = ptr nb no ∧ E 12 = u16 (UInt16.ofNat (d + p)) ∧ E 15 = .int .i64 ((j : Int) - 1)) ?_ n.nk _ _ ?_
      · rintro m E G ⟨j, rfl, hj, hC, t0, t2, t3, t12, t15⟩
        refine WV_sound _ _ _ _ ?_
        cases m with
        | zero =>
          have q : decide ((((0 : Nat) : Int) - 1) ≥ 0) = false := rfl
          (repeat' (first
    | simp -implicitDefEqProofs only [WV_seq, WV_cond, WV_block, WV_skip, WV_ret, WV_exit, WV_region, WV_draw, WV_loop, thenQ_normal, thenQ_ret, thenQ_exit, blockQ_normal, blockQ_ret, blockQ_exit, V_nil, V_cons, KV_eq, VL_nil, VL_cons, KL_eq, vcl_zero, vcl_one, vcl_two, isV_same, isV_eq, monoK_eq, dOk, put, gd_none, gd_some, gdst_eq, gdv_some, gdB_true, gdB_false, gdB_undef, ev_const, ev_tmp, lit_i64, lit_i32, lit_bool, lit_pointer, lit_slice, lit_string, CondW_true, CondW_false, GrdV_true, GrdV_false, GrdL_true, GrdL_false, vc_move, vc_assign, vc_load, vc_store, vc_field, vc_indexAddr, vc_index, vc_box, vc_alloc, vc_build, vc_buildSlice, vc_makeSlice, vc_slice, vc_extract, vc_unOp, vc_convert, vc_bin, vc_pick, vc_call, vc_append, vc_len, vc_min, vc_max, vc_copy, vc_clear, pickK_true, pickK_false, stK_eq, not_bool, min_i64, max_i64, min_u16, max_u16, extract_tuple, vc_nil, nilK_ptr, int_add, int_sub, int_mul, int_eql, int_neq, int_lss, int_leq, int_gtr, int_geq, u8_add, u8_sub, u8_mul, u8_eql, u8_neq, u8_lss, u8_leq, u8_gtr, u8_geq, u16_add, u16_sub, u16_mul, u16_eql, u16_neq, u16_lss, u16_leq, u16_gtr, u16_geq, u32_add, u32_sub, u32_mul, u32_eql, u32_neq, u32_lss, u32_leq, u32_gtr, u32_geq, u64_add, u64_sub, u64_mul, u64_eql, u64_neq, u64_lss, u64_leq, u64_gtr, u64_geq, u8_and, u8_or, u8_xor, u8_andNot, u64_and, u64_or, u64_xor, u64_andNot, u8_shl_u8, u8_shl_u16, u8_shl_u64, u32_shl_u8, u32_shl_u16, u32_shl_u64, u64_shl_u8, u64_shl_u16, u64_shl_u64, u8_shr_u8, u8_shr_u16, u8_shr_u64, u64_shr_u8, u64_shr_u16, u64_shr_u64, u16_quo8, u16_rem8, u16_quo64, u16_rem64, u64_quo8, u64_rem8, u64_quo64, u64_rem64, u32_quo8, u32_rem8, u32_quo64, u32_rem64, int_quo2, int_rem2, int_quo8, int_rem8, int_quo64, int_rem64, u64_shrN, u64_shlN, fold64, fold32, i64_shl_u8, i16_eql, i16_neq, i16_lss, i16_geq, Nat.reduceEqDiff, Nat.reduceLT, Nat.reduceAdd, Nat.reduceMul, Nat.reduceSub, ↓reduceIte, if_true, if_false, eq_self, true_and, and_true, Bool.false_eq_true, Bool.not_true, Bool.not_false, reduceCtorEq, upd_get, List.getElem?_toArray, List.getElem?_cons_zero, List.getElem?_cons_succ, Option.bind_some, rdK_some, List.map_toArray, List.map_cons, List.map_nil, rd_upd, rdO_fblk, wrOk_fblk, wrO_fblk, lget_zero, lget_succ, upd_upd, agg_cells, cells_of_list, List.length_cons, List.length_nil, Nat.add_zero, pv_cells, pl_len, pl_0, pl_1, pl_2, pl_3, pl_4, pl_5, pv_fold, pv_eta, ov_eta, opv_eta, ov_cells, ol_len, ov_fold, opv_cells, opl_len, opv_fold, st_pv, st_ov, st_opv, ol_0, ol_1, ol_2, ol_3, ol_4, ol_5, ol_6, ol_7, ol_8, ol_9, opl_0, opl_1, opl_2, opl_3, opl_4, opl_5, opl_6, opl_7, wrsOk_fblk, wrsO_fblk, fblk_all, Nat.reduceLeDiff, Nat.zero_add, rdsK2, rdsK4, rdsK6, rdsK8, rdsK10, wrsK_nil, wrsK_cons, oneCell_u8, oneCell_u16, oneCell_u32, oneCell_u64, oneCell_i16, oneCell_int, oneCell_bool, oneCell_ptr, oneCell_pointer, oneCell_sl, oneCell_slice, oneCell_string, box_eq, List.all_cons, List.all_nil, Bool.and_self, Ex1_eq, Ex1_and, endQ, resH, res_tmp, res_cell, resC_ptr, tupleOf, Fabg.results91, k_u8_0, tn_u8_0, fa_102_3, ld_100, len_100, lenS_100, fa_96_0, ld_29, fa_25_0, ld_22, ix_100_int, ix_100_u8, ix_100_u16, ix_100_i16, ld_23, ix_22_int, ix_22_u8, ix_22_u16, ix_22_i16, fa_102_2, ld_26, len_26, lenS_26, cv_3_5, cv_3_50, cv_5_50, fa_96_1, fa_102_1, ld_5, cv_50_194, call_128, ix_26_int, ix_26_u8, ix_26_u16, ix_26_i16, st_30, call_123, bs_26, st_26, call_88, k_u16_1, call_89, t0, t2, t3, t12, t15, q]
    | refine W_drawL (id := 2) (by kernel_rfl) [0, 0, 0, 0, 0, 0, 0, 0, 0, 0, 0, 0, 0, 0, 0] (by kernel_rfl) ?_
    | refine W_drawL (id := 3) (by kernel_rfl) [0, 0, 0, 0, 0, 0, 0, 0, 0, 0, 0, 0, 0, 0] (by kernel_rfl) ?_
    | refine W_drawL (id := 5) (by kernel_rfl) [0, 0, 0, 0, 0, 0, 0, 0, 0, 0, 0, 0, 0, 0, 0, 0, 0, 2] (by kernel_rfl) ?_
    | refine W_drawL (id := 6) (by kernel_rfl) [0, 0, 0, 0, 0, 0, 0, 0, 0, 1, 2, 0, 0, 2] (by kernel_rfl) ?_
    | refine W_drawL (id := 15) (by kernel_rfl) [0, 0, 0, 0, 0, 0, 0, 0, 0, 0, 0, 0, 0, 0, 0, 0, 0, 0, 0, 0, 0, 0, 0, 2] (by kernel_rfl) ?_
    | refine Alloc.mono ?_
    | (refine CondW_intro (fun hc => ?_) (fun hc => ?_) <;> (try simp only [Bool.not_eq_true', Bool.not_eq_false'] at hc) <;> (try simp only [hc]))
    | (refine GrdV_intro (fun hc => ?_) (fun hc => ?_) <;> (try simp only [Bool.not_eq_true', Bool.not_eq_false'] at hc) <;> (try simp only [hc]))
    | (refine GrdL_intro (fun hc => ?_) (fun hc => ?_) <;> (try simp only [Bool.not_eq_true', Bool.not_eq_false'] at hc) <;> (try simp only [hc]))))
          exact ⟨_, Le.refl _, hC⟩
        | succ j =>
          have q0 : (((j + 1 : Nat) : Int) - 1) = (j : Nat) := by omega
          rw [q0] at t15
          obtain ⟨bN, oN, eN, hN⟩ := hkn j (by omega)
          have hkj := hk j (by omega)
          have m1' : rd G tb 0 = some (sl bN oN cnt cN) := by rw [← eN]; exact hcell_le hC.leF m1
          obtain ⟨bk, ok, ek, hkr⟩ := g6.pos (by omega)
          have s4n : rd G nb (no + 3) = some (.slice ak n.nk ck) := hcell_le hC.leF g4
          rw [ek] at s4n
          have s5 : rd G bk (ok + j) = some (i16 (n.kid j)) := hcell_le hC.leF (hkr j (by omega))
          obtain ⟨f', av', ba', w1, w2, _⟩ := hC.blk
          have o4' : rd G b 0 = some (ptr tb 0) := by rw [rd_eq, w1, rdO_fblk, if_pos (by omega), w2]
          have p2 : (0 ≤ (n.kid j).toInt) = True := eq_true hkj.1
          have p3 : ((n.kid j).toInt < (cnt : Int)) = True := eq_true (by have := hkj.2.1; unfold kidI at this; omega)
          have p4 : (n.kid j).toInt.toNat = kidI n j := rfl
          have hjm : j * (d + p) + (d + p) ≤ n.nk * (d + p) := by rw [← Nat.succ_mul]; exact Nat.mul_le_mul_right _ hj
          have q3 : ((j : Int) < (n.nk : Int)) = True := eq_true (by omega)
          have e1 : UInt16.ofNat len + 1 = UInt16.ofNat (len + 1) := add16 (b := 1) (by omega)
          have e2 : UInt16.ofNat j * UInt16.ofNat (d + p) = UInt16.ofNat (j * (d + p)) := mul16 (by omega) (by omega) (by omega)
          have e3 : UInt16.ofNat (len + 1) + UInt16.ofNat (j * (d + p)) = UInt16.ofNat (len + 1 + j * (d + p)) := add16 (by omega)
          have q5 : w64 ((j : Int) - 1) = (j : Int) - 1 := w64_id (by omega) (by omega)
          (repeat' (first
    | simp -implicitDefEqProofs only [WV_seq, WV_cond, WV_block, WV_skip, WV_ret, WV_exit, WV_region, WV_draw, WV_loop, thenQ_normal, thenQ_ret, thenQ_exit, blockQ_normal, blockQ_ret, blockQ_exit, V_nil, V_cons, KV_eq, VL_nil, VL_cons, KL_eq, vcl_zero, vcl_one, vcl_two, isV_same, isV_eq, monoK_eq, dOk, put, gd_none, gd_some, gdst_eq, gdv_some, gdB_true, gdB_false, gdB_undef, ev_const, ev_tmp, lit_i64, lit_i32, lit_bool, lit_pointer, lit_slice, lit_string, CondW_true, CondW_false, GrdV_true, GrdV_false, GrdL_true, GrdL_false, vc_move, vc_assign, vc_load, vc_store, vc_field, vc_indexAddr, vc_index, vc_box, vc_alloc, vc_build, vc_buildSlice, vc_makeSlice, vc_slice, vc_extract, vc_unOp, vc_convert, vc_bin, vc_pick, vc_call, vc_append, vc_len, vc_min, vc_max, vc_copy, vc_clear, pickK_true, pickK_false, stK_eq, not_bool, min_i64, max_i64, min_u16, max_u16, extract_tuple, vc_nil, nilK_ptr, int_add, int_sub, int_mul, int_eql, int_neq, int_lss, int_leq, int_gtr, int_geq, u8_add, u8_sub, u8_mul, u8_eql, u8_neq, u8_lss, u8_leq, u8_gtr, u8_geq, u16_add, u16_sub, u16_mul, u16_eql, u16_neq, u16_lss, u16_leq, u16_gtr, u16_geq, u32_add, u32_sub, u32_mul, u32_eql, u32_neq, u32_lss, u32_leq, u32_gtr, u32_geq, u64_add, u64_sub, u64_mul, u64_eql, u64_neq, u64_lss, u64_leq, u64_gtr, u64_geq, u8_and, u8_or, u8_xor, u8_andNot, u64_and, u64_or, u64_xor, u64_andNot, u8_shl_u8, u8_shl_u16, u8_shl_u64, u32_shl_u8, u32_shl_u16, u32_shl_u64, u64_shl_u8, u64_shl_u16, u64_shl_u64, u8_shr_u8, u8_shr_u16, u8_shr_u64, u64_shr_u8, u64_shr_u16, u64_shr_u64, u16_quo8, u16_rem8, u16_quo64, u16_rem64, u64_quo8, u64_rem8, u64_quo64, u64_rem64, u32_quo8, u32_rem8, u32_quo64, u32_rem64, int_quo2, int_rem2, int_quo8, int_rem8, int_quo64, int_rem64, u64_shrN, u64_shlN, fold64, fold32, i64_shl_u8, i16_eql, i16_neq, i16_lss, i16_geq, Nat.reduceEqDiff, Nat.reduceLT, Nat.reduceAdd, Nat.reduceMul, Nat.reduceSub, ↓reduceIte, if_true, if_false, eq_self, true_and, and_true, Bool.false_eq_true, Bool.not_true, Bool.not_false, reduceCtorEq, upd_get, List.getElem?_toArray, List.getElem?_cons_zero, List.getElem?_cons_succ, Option.bind_some, rdK_some, List.map_toArray, List.map_cons, List.map_nil, rd_upd, rdO_fblk, wrOk_fblk, wrO_fblk, lget_zero, lget_succ, upd_upd, agg_cells, cells_of_list, List.length_cons, List.length_nil, Nat.add_zero, pv_cells, pl_len, pl_0, pl_1, pl_2, pl_3, pl_4, pl_5, pv_fold, pv_eta, ov_eta, opv_eta, ov_cells, ol_len, ov_fold, opv_cells, opl_len, opv_fold, st_pv, st_ov, st_opv, ol_0, ol_1, ol_2, ol_3, ol_4, ol_5, ol_6, ol_7, ol_8, ol_9, opl_0, opl_1, opl_2, opl_3, opl_4, opl_5, opl_6, opl_7, wrsOk_fblk, wrsO_fblk, fblk_all, Nat.reduceLeDiff, Nat.zero_add, rdsK2, rdsK4, rdsK6, rdsK8, rdsK10, wrsK_nil, wrsK_cons, oneCell_u8, oneCell_u16, oneCell_u32, oneCell_u64, oneCell_i16, oneCell_int, oneCell_bool, oneCell_ptr, oneCell_pointer, oneCell_sl, oneCell_slice, oneCell_string, box_eq, List.all_cons, List.all_nil, Bool.and_self, Ex1_eq, Ex1_and, endQ, resH, res_tmp, res_cell, resC_ptr, tupleOf, Fabg.results91, k_u8_0, tn_u8_0, fa_102_3, ld_100, len_100, lenS_100, fa_96_0, ld_29, fa_25_0, ld_22, ix_100_int, ix_100_u8, ix_100_u16, ix_100_i16, ld_23, ix_22_int, ix_22_u8, ix_22_u16, ix_22_i16, fa_102_2, ld_26, len_26, lenS_26, cv_3_5, cv_3_50, cv_5_50, fa_96_1, fa_102_1, ld_5, cv_50_194, call_128, ix_26_int, ix_26_u8, ix_26_u16, ix_26_i16, st_30, call_123, bs_26, st_26, call_88, k_u16_1, call_89, t0, t2, t3, t12, t15, q3, s4n, s5, m1', o4', p2, p3, p4, e1, e2, e3, toU16_nat, decide_true, Int.natCast_nonneg, Int.toNat_natCast]
    | refine W_drawL (id := 2) (by kernel_rfl) [0, 0, 0, 0, 0, 0, 0, 0, 0, 0, 0, 0, 0, 0, 0] (by kernel_rfl) ?_
    | refine W_drawL (id := 3) (by kernel_rfl) [0, 0, 0, 0, 0, 0, 0, 0, 0, 0, 0, 0, 0, 0] (by kernel_rfl) ?_
    | refine W_drawL (id := 5) (by kernel_rfl) [0, 0, 0, 0, 0, 0, 0, 0, 0, 0, 0, 0, 0, 0, 0, 0, 0, 2] (by kernel_rfl) ?_
    | refine W_drawL (id := 6) (by kernel_rfl) [0, 0, 0, 0, 0, 0, 0, 0, 0, 1, 2, 0, 0, 2] (by kernel_rfl) ?_
    | refine W_drawL (id := 15) (by kernel_rfl) [0, 0, 0, 0, 0, 0, 0, 0, 0, 0, 0, 0, 0, 0, 0, 0, 0, 0, 0, 0, 0, 0, 0, 2] (by kernel_rfl) ?_
    | refine Alloc.mono ?_
    | (refine CondW_intro (fun hc => ?_) (fun hc => ?_) <;> (try simp only [Bool.not_eq_true', Bool.not_eq_false'] at hc) <;> (try simp only [hc]))
    | (refine GrdV_intro (fun hc => ?_) (fun hc => ?_) <;> (try simp only [Bool.not_eq_true', Bool.not_eq_false'] at hc) <;> (try simp only [hc]))
    | (refine GrdL_intro (fun hc => ?_) (fun hc => ?_) <;> (try simp only [Bool.not_eq_true', Bool.not_eq_false'] at hc) <;> (try simp only [hc]))))
          have hlen : (nn (catF (fun i => slotL (len + 1 + i * (d + p) + (kidN T n i).nd) (kidN T n i)) (j + 1) (n.nk - (j + 1))) ++ stk).length + (kidN T n j).nk ≤ 512 := by
            have h1 := nn_len (catF (fun i => slotL (len + 1 + i * (d + p) + (kidN T n i).nd) (kidN T n i)) (j + 1) (n.nk - (j + 1)))
            have h2 := catF_len_le (g := fun i => slotL (len + 1 + i * (d + p) + (kidN T n i).nd) (kidN T n i)) (p := p) (n.nk - (j + 1)) (j + 1) (fun i h1 h2 => by rw [slotL_len, (hk i (by omega)).2.2.2]; exact Nat.le_refl _)
            have h3 : (n.nk - (j + 1)) * p + p ≤ n.nk * p := by rw [← Nat.succ_mul]; exact Nat.mul_le_mul_right _ (by omega)
            rw [List.length_append, hkj.2.2.2]
            omega
          refine (ckids_ok hC hN (len + 1 + j * (d + p)) (by rw [hkj.2.2.1, hkj.2.2.2]; omega) hlen).mono ?_
          rintro _ G' ⟨rfl, hC'⟩
          (repeat' (first
    | simp -implicitDefEqProofs only [WV_seq, WV_cond, WV_block, WV_skip, WV_ret, WV_exit, WV_region, WV_draw, WV_loop, thenQ_normal, thenQ_ret, thenQ_exit, blockQ_normal, blockQ_ret, blockQ_exit, V_nil, V_cons, KV_eq, VL_nil, VL_cons, KL_eq, vcl_zero, vcl_one, vcl_two, isV_same, isV_eq, monoK_eq, dOk, put, gd_none, gd_some, gdst_eq, gdv_some, gdB_true, gdB_false, gdB_undef, ev_const, ev_tmp, lit_i64, lit_i32, lit_bool, lit_pointer, lit_slice, lit_string, CondW_true, CondW_false, GrdV_true, GrdV_false, GrdL_true, GrdL_false, vc_move, vc_assign, vc_load, vc_store, vc_field, vc_indexAddr, vc_index, vc_box, vc_alloc, vc_build, vc_buildSlice, vc_makeSlice, vc_slice, vc_extract, vc_unOp, vc_convert, vc_bin, vc_pick, vc_call, vc_append, vc_len, vc_min, vc_max, vc_copy, vc_clear, pickK_true, pickK_false, stK_eq, not_bool, min_i64, max_i64, min_u16, max_u16, extract_tuple, vc_nil, nilK_ptr, int_add, int_sub, int_mul, int_eql, int_neq, int_lss, int_leq, int_gtr, int_geq, u8_add, u8_sub, u8_mul, u8_eql, u8_neq, u8_lss, u8_leq, u8_gtr, u8_geq, u16_add, u16_sub, u16_mul, u16_eql, u16_neq, u16_lss, u16_leq, u16_gtr, u16_geq, u32_add, u32_sub, u32_mul, u32_eql, u32_neq, u32_lss, u32_leq, u32_gtr, u32_geq, u64_add, u64_sub, u64_mul, u64_eql, u64_neq, u64_lss, u64_leq, u64_gtr, u64_geq, u8_and, u8_or, u8_xor, u8_andNot, u64_and, u64_or, u64_xor, u64_andNot, u8_shl_u8, u8_shl_u16, u8_shl_u64, u32_shl_u8, u32_shl_u16, u32_shl_u64, u64_shl_u8, u64_shl_u16, u64_shl_u64, u8_shr_u8, u8_shr_u16, u8_shr_u64, u64_shr_u8, u64_shr_u16, u64_shr_u64, u16_quo8, u16_rem8, u16_quo64, u16_rem64, u64_quo8, u64_rem8, u64_quo64, u64_rem64, u32_quo8, u32_rem8, u32_quo64, u32_rem64, int_quo2, int_rem2, int_quo8, int_rem8, int_quo64, int_rem64, u64_shrN, u64_shlN, fold64, fold32, i64_shl_u8, i16_eql, i16_neq, i16_lss, i16_geq, Nat.reduceEqDiff, Nat.reduceLT, Nat.reduceAdd, Nat.reduceMul, Nat.reduceSub, ↓reduceIte, if_true, if_false, eq_self, true_and, and_true, Bool.false_eq_true, Bool.not_true, Bool.not_false, reduceCtorEq, upd_get, List.getElem?_toArray, List.getElem?_cons_zero, List.getElem?_cons_succ, Option.bind_some, rdK_some, List.map_toArray, List.map_cons, List.map_nil, rd_upd, rdO_fblk, wrOk_fblk, wrO_fblk, lget_zero, lget_succ, upd_upd, agg_cells, cells_of_list, List.length_cons, List.length_nil, Nat.add_zero, pv_cells, pl_len, pl_0, pl_1, pl_2, pl_3, pl_4, pl_5, pv_fold, pv_eta, ov_eta, opv_eta, ov_cells, ol_len, ov_fold, opv_cells, opl_len, opv_fold, st_pv, st_ov, st_opv, ol_0, ol_1, ol_2, ol_3, ol_4, ol_5, ol_6, ol_7, ol_8, ol_9, opl_0, opl_1, opl_2, opl_3, opl_4, opl_5, opl_6, opl_7, wrsOk_fblk, wrsO_fblk, fblk_all, Nat.reduceLeDiff, Nat.zero_add, rdsK2, rdsK4, rdsK6, rdsK8, rdsK10, wrsK_nil, wrsK_cons, oneCell_u8, oneCell_u16, oneCell_u32, oneCell_u64, oneCell_i16, oneCell_int, oneCell_bool, oneCell_ptr, oneCell_pointer, oneCell_sl, oneCell_slice, oneCell_string, box_eq, List.all_cons, List.all_nil, Bool.and_self, Ex1_eq, Ex1_and, endQ, resH, res_tmp, res_cell, resC_ptr, tupleOf, Fabg.results91, k_u8_0, tn_u8_0, fa_102_3, ld_100, len_100, lenS_100, fa_96_0, ld_29, fa_25_0, ld_22, ix_100_int, ix_100_u8, ix_100_u16, ix_100_i16, ld_23, ix_22_int, ix_22_u8, ix_22_u16, ix_22_i16, fa_102_2, ld_26, len_26, lenS_26, cv_3_5, cv_3_50, cv_5_50, fa_96_1, fa_102_1, ld_5, cv_50_194, call_128, ix_26_int, ix_26_u8, ix_26_u16, ix_26_i16, st_30, call_123, bs_26, st_26, call_88, k_u16_1, call_89, t0, t2, t3, t12, t15, q5]
    | refine W_drawL (id := 2) (by kernel_rfl) [0, 0, 0, 0, 0, 0, 0, 0, 0, 0, 0, 0, 0, 0, 0] (by kernel_rfl) ?_
    | refine W_drawL (id := 3) (by kernel_rfl) [0, 0, 0, 0, 0, 0, 0, 0, 0, 0, 0, 0, 0, 0] (by kernel_rfl) ?_
    | refine W_drawL (id := 5) (by kernel_rfl) [0, 0, 0, 0, 0, 0, 0, 0, 0, 0, 0, 0, 0, 0, 0, 0, 0, 2] (by kernel_rfl) ?_
    | refine W_drawL (id := 6) (by kernel_rfl) [0, 0, 0, 0, 0, 0, 0, 0, 0, 1, 2, 0, 0, 2] (by kernel_rfl) ?_
    | refine W_drawL (id := 15) (by kernel_rfl) [0, 0, 0, 0, 0, 0, 0, 0, 0, 0, 0, 0, 0, 0, 0, 0, 0, 0, 0, 0, 0, 0, 0, 2] (by kernel_rfl) ?_
    | refine Alloc.mono ?_
    | (refine CondW_intro (fun hc => ?_) (fun hc => ?_) <;> (try simp only [Bool.not_eq_true', Bool.not_eq_false'] at hc) <;> (try simp only [hc]))
    | (refine GrdV_intro (fun hc => ?_) (fun hc => ?_) <;> (try simp only [Bool.not_eq_true', Bool.not_eq_false'] at hc) <;> (try simp only [hc]))
    | (refine GrdL_intro (fun hc => ?_) (fun hc => ?_) <;> (try simp only [Bool.not_eq_true', Bool.not_eq_false'] at hc) <;> (try simp only [hc]))))
          refine ⟨j, by omega, j, rfl, by omega, ?_, rfl⟩
          have e : n.nk - j = (n.nk - (j + 1)) + 1 := by omega
          rw [e, catF, nn_append, List.append_assoc]
          exact hC'
      · refine ⟨n.nk, rfl, Nat.le_refl _, ?_, by simp [upd_get, t0], by simp [upd_get, t2], by simp [upd_get, t3], by simp [upd_get, t12], by simp [upd_get]⟩
        rw [Nat.sub_self]
        exact hC
end Eng
end Go.Proofs.Ygcfab
