/-
  Package edit: adopt.
-/
import Derived.Test.YgcfabEw6
set_option linter.unusedSimpArgs false
set_option linter.unusedVariables false
set_option maxRecDepth 100000
namespace Go.Proofs.Ygcfab
namespace Eng
def adoptNo (S : Ed) (op : OpR) : Bool :=
  !(slotB S op.h op.i).2 || (S.A (slotB S op.h op.i).1.toNat != 0 || (((op.x.toNat : Int) == 0) || (!aliveB S (op.x.toNat : Nat) || (((S.O op.x.toNat).up != -1) || (rootN S 40 (op.h.toNat : Nat) == (op.x.toNat : Int))))))
def adP (p : Ptr) (a : UInt16) : Ptr := if wlessB p then { p with at_ := a } else p
def adoptE (S : Ed) (op : OpR) : Bool × Ed :=
  if adoptNo S op = true ∨ 8 < depN S 40 (op.h.toNat : Nat) + hgtN S 40 (op.x.toNat : Nat) S.cnt then (false, S)
  else (true, { S with A := upd S.A (slotB S op.h op.i).1.toNat (pointerL (slotB S op.h op.i).1 (adP (S.O op.x.toNat).p (slotB S op.h op.i).1)), O := upd S.O op.x.toNat ⟨adP (S.O op.x.toNat).p (slotB S op.h op.i).1, Int16.ofInt (op.h.toNat : Int), op.i, (S.O op.x.toNat).elem, (S.O op.x.toNat).dead⟩ })
theorem fblk_inj {n : Nat} {f g : Nat → Value} {e : TypeId} (h : some (fblk n f e) = some (fblk n g e)) : ∀ i, i < n → f i = g i := by
  intro i hi
  have := congrArg (fun o => rdO o i) h
  simp only [rdO_fblk, hi, if_true, Option.some.injEq] at this
  exact this
theorem EdH.setA {H0 G : Heap} {eb : Nat} {S : Ed} (h : EdH H0 G eb S) (hl : 1 ≤ S.len) {ba cap len : Nat} {g : Nat → Value} (h1 : rd G eb 0 = some (sl ba 0 len cap)) (h2 : G ba = some (fblk (cap * 1) g 30)) (i : Nat) (w : UInt64) (hi : i < S.len) :
    EdH H0 (upd G ba (some (fblk (cap * 1) (upd g i (u64 w)) 30))) eb { S with A := upd S.A i w } := by
  obtain ⟨ba', cap', g', a1, a2, a3, a4, a5, a6, a7⟩ := h.openA hl
  rw [a1] at h1
  have e := Option.some.inj h1
  unfold sl at e
  injection e with e1 e2 e3
  injection e1 with e1
  injection e1 with e1 _ _
  subst e1 e3
  have := a7 i w hi
  have hf : fblk (cap' * 1) (upd g' i (u64 w)) 30 = fblk (cap' * 1) (upd g i (u64 w)) 30 := by
    apply fblk_congr
    intro j hj
    by_cases e : j = i
    · subst e; rw [upd_same, upd_same]
    · rw [upd_ne _ _ _ _ e, upd_ne _ _ _ _ e]
      exact fblk_inj (a3.symm.trans h2) j hj
  rw [← hf]
  exact this
theorem ol_ad (x : Ob) (u : Int16) (v : UInt8) (j : Nat) (hj : j < 10) (h7 : ¬ j = 7) (h6 : ¬ j = 6) : lget (ol x) j = lget (ol ⟨x.p, u, v, x.elem, x.dead⟩) j := by
  have : j = 0 ∨ j = 1 ∨ j = 2 ∨ j = 3 ∨ j = 4 ∨ j = 5 ∨ j = 8 ∨ j = 9 := by omega
  rcases this with rfl | rfl | rfl | rfl | rfl | rfl | rfl | rfl
  · rw [ol_0, ol_0]
  · rw [ol_1, ol_1]
  · rw [ol_2, ol_2]
  · rw [ol_3, ol_3]
  · rw [ol_4, ol_4]
  · rw [ol_5, ol_5]
  · rw [ol_8, ol_8]
  · rw [ol_9, ol_9]
theorem ol_ad1 (x : Ob) (a : UInt16) (u : Int16) (v : UInt8) (j : Nat) (hj : j < 10) (h7 : ¬ j = 7) (h6 : ¬ j = 6) (h1 : ¬ j = 1) : lget (ol x) j = lget (ol ⟨{ x.p with at_ := a }, u, v, x.elem, x.dead⟩) j := by
  have : j = 0 ∨ j = 2 ∨ j = 3 ∨ j = 4 ∨ j = 5 ∨ j = 8 ∨ j = 9 := by omega
  rcases this with rfl | rfl | rfl | rfl | rfl | rfl | rfl
  · rw [ol_0, ol_0]
  · rw [ol_2, ol_2]
  · rw [ol_3, ol_3]
  · rw [ol_4, ol_4]
  · rw [ol_5, ol_5]
  · rw [ol_8, ol_8]
  · rw [ol_9, ol_9]
theorem adopt_ok {H0 G : Heap} {eb : Nat} {S : Ed} (hC : EdH H0 G eb S) (op : OpR) (h0 : 1 ≤ S.len) (h1 : S.len ≤ 256) (h2 : S.cnt ≤ 256) (hh : op.h.toNat < S.cnt) (hlv : aliveB S (op.h.toNat : Nat) = true)
    (hr : ∀ k : Nat, aliveB S k = true → Rends S 40 k ∧ Ends S 40 k) :
    Fn Fabg.prog 112 #[ptr eb 0, opv op] G (fun r H' => r = .bool (adoptE S op).1 ∧ EdH H0 H' eb (adoptE S op).2) := by
  refine Fn_of Fabg.func112 rfl Fabg.ntmps112 (by simp) (WV_sound _ _ _ _ ?_)
  rw [argEnv2]
  simp -implicitDefEqProofs only [WV_seq, WV_cond, WV_block, WV_skip, WV_ret, WV_exit, WV_region, WV_draw, WV_loop, thenQ_normal, thenQ_ret, thenQ_exit, blockQ_normal, blockQ_ret, blockQ_exit, V_nil, V_cons, KV_eq, VL_nil, VL_cons, KL_eq, vcl_zero, vcl_one, vcl_two, isV_same, isV_eq, monoK_eq, dOk, put, gd_none, gd_some, gdst_eq, gdv_some, gdB_true, gdB_false, gdB_undef, ev_const, ev_tmp, lit_i64, lit_i32, lit_bool, lit_pointer, lit_slice, lit_string, CondW_true, CondW_false, GrdV_true, GrdV_false, GrdL_true, GrdL_false, vc_move, vc_assign, vc_load, vc_store, vc_field, vc_indexAddr, vc_index, vc_box, vc_alloc, vc_build, vc_buildSlice, vc_makeSlice, vc_slice, vc_extract, vc_unOp, vc_convert, vc_bin, vc_pick, vc_call, vc_append, vc_len, vc_min, vc_max, vc_copy, vc_clear, pickK_true, pickK_false, stK_eq, not_bool, min_i64, max_i64, min_u16, max_u16, extract_tuple, vc_nil, nilK_ptr, int_add, int_sub, int_mul, int_eql, int_neq, int_lss, int_leq, int_gtr, int_geq, u8_add, u8_sub, u8_mul, u8_eql, u8_neq, u8_lss, u8_leq, u8_gtr, u8_geq, u16_add, u16_sub, u16_mul, u16_eql, u16_neq, u16_lss, u16_leq, u16_gtr, u16_geq, u32_add, u32_sub, u32_mul, u32_eql, u32_neq, u32_lss, u32_leq, u32_gtr, u32_geq, u64_add, u64_sub, u64_mul, u64_eql, u64_neq, u64_lss, u64_leq, u64_gtr, u64_geq, u8_and, u8_or, u8_xor, u8_andNot, u64_and, u64_or, u64_xor, u64_andNot, u8_shl_u8, u8_shl_u16, u8_shl_u64, u32_shl_u8, u32_shl_u16, u32_shl_u64, u64_shl_u8, u64_shl_u16, u64_shl_u64, u8_shr_u8, u8_shr_u16, u8_shr_u64, u64_shr_u8, u64_shr_u16, u64_shr_u64, u16_quo8, u16_rem8, u16_quo64, u16_rem64, u64_quo8, u64_rem8, u64_quo64, u64_rem64, u32_quo8, u32_rem8, u32_quo64, u32_rem64, int_quo2, int_rem2, int_quo8, int_rem8, int_quo64, int_rem64, u64_shrN, u64_shlN, fold64, fold32, i64_shl_u8, i16_eql, i16_neq, i16_lss, i16_geq, Nat.reduceEqDiff, Nat.reduceLT, Nat.reduceAdd, Nat.reduceMul, Nat.reduceSub, ↓reduceIte, if_true, if_false, eq_self, true_and, and_true, Bool.false_eq_true, Bool.not_true, Bool.not_false, reduceCtorEq, upd_get, List.getElem?_toArray, List.getElem?_cons_zero, List.getElem?_cons_succ, Option.bind_some, rdK_some, List.map_toArray, List.map_cons, List.map_nil, rd_upd, rdO_fblk, wrOk_fblk, wrO_fblk, lget_zero, lget_succ, upd_upd, agg_cells, cells_of_list, List.length_cons, List.length_nil, Nat.add_zero, pv_cells, pl_len, pl_0, pl_1, pl_2, pl_3, pl_4, pl_5, pv_fold, pv_eta, ov_eta, opv_eta, ov_cells, ol_len, ov_fold, opv_cells, opl_len, opv_fold, st_pv, st_ov, st_opv, ol_0, ol_1, ol_2, ol_3, ol_4, ol_5, ol_6, ol_7, ol_8, ol_9, opl_0, opl_1, opl_2, opl_3, opl_4, opl_5, opl_6, opl_7, wrsOk_fblk, wrsO_fblk, fblk_all, Nat.reduceLeDiff, Nat.zero_add, rdsK2, rdsK4, rdsK6, rdsK8, rdsK10, wrsK_nil, wrsK_cons, oneCell_u8, oneCell_u16, oneCell_u32, oneCell_u64, oneCell_i16, oneCell_int, oneCell_bool, oneCell_ptr, oneCell_pointer, oneCell_sl, oneCell_slice, oneCell_string, box_eq, List.all_cons, List.all_nil, Bool.and_self, Ex1_eq, Ex1_and, endQ, resH, res_tmp, res_cell, resC_ptr, tupleOf, Fabg.results112, fa_52_1, ld_5, fa_52_2, call_110, fa_52_3, cv_5_3, fa_57_0, ld_26, ix_26_int, ix_26_u8, ix_26_u16, ix_26_i16, ld_30, k_u64_0, tn_u64_0, call_102, fa_57_1, ld_55, ix_55_int, ix_55_u8, ix_55_u16, ix_55_i16, fa_62_1, ld_23, k_i16_m1, call_156, call_157, call_158, cv_5_23, st_23, fa_62_2, st_5, fa_62_0, ldN_60, call_111, fa_60_1, st_50, call_121, st_30, opv_cells, opl_len]
  refine ⟨fun b3 hb3 => ?_⟩
  have hC1 := hC.rebase (.inr hb3) (fblk 8 (lget (opl op)) 52)
  have hH0 : Le H0 (upd H0 b3 (some (fblk 8 (lget (opl op)) 52))) := (Le.refl H0).fresh (le_none hC.le0 hb3) _
  have i3 : upd H0 b3 (some (fblk 8 (lget (opl op)) 52)) b3 = some (fblk 8 (lget (opl op)) 52) := upd_same _ _ _
  generalize upd H0 b3 (some (fblk 8 (lget (opl op)) 52)) = H1 at *
  generalize upd G b3 (some (fblk 8 (lget (opl op)) 52)) = G1 at *
  clear hC hb3
  obtain ⟨o0, o1, o2, o3, o4, o5, o6, o7⟩ := opAt_of (hC1.le0 _ _ i3)
  obtain ⟨aA, cA, aO, cO, hE⟩ := hC1.rdr (by omega) (by omega)
  have cs := slot_ok hE op.h op.i hh
  have cd := depth_ok hE 40 (by omega) (op.h.toNat : Int) (hr _ hlv).2
  have cr := root_ok hE 40 (op.h.toNat : Int) (hr _ hlv).1
  have ch := height_ok hE 40 (by omega) (op.x.toNat : Int) hr
  have ca := alive_ok hE (op.x.toNat : Nat)
  have hlt := slotB_lt S op.h op.i
  have ea : adoptNo S op = (!(slotB S op.h op.i).2 || (S.A (slotB S op.h op.i).1.toNat != 0 || (((op.x.toNat : Int) == 0) || (!aliveB S (op.x.toNat : Nat) || (((S.O op.x.toNat).up != -1) || (rootN S 40 (op.h.toNat : Nat) == (op.x.toNat : Int))))))) := rfl
  have em : adoptE S op = if adoptNo S op = true ∨ 8 < depN S 40 (op.h.toNat : Nat) + hgtN S 40 (op.x.toNat : Nat) S.cnt then (false, S)
    else (true, { S with A := upd S.A (slotB S op.h op.i).1.toNat (pointerL (slotB S op.h op.i).1 (adP (S.O op.x.toNat).p (slotB S op.h op.i).1)), O := upd S.O op.x.toNat ⟨adP (S.O op.x.toNat).p (slotB S op.h op.i).1, Int16.ofInt (op.h.toNat : Int), op.i, (S.O op.x.toNat).elem, (S.O op.x.toNat).dead⟩ }) := rfl
  have l1 := depN_le S 40 (op.h.toNat : Nat)
  have l2 := hgtN_le S 40 (op.x.toNat : Nat) S.cnt
  generalize depN S 40 (op.h.toNat : Nat) = dd at *
  generalize hgtN S 40 (op.x.toNat : Nat) S.cnt = hg at *
  generalize rootN S 40 (op.h.toNat : Nat) = rr at *
  generalize slotB S op.h op.i = s at *
  obtain ⟨at_, ok⟩ := s
  simp only [] at cs hlt em ea
  have bad : adoptNo S op = true → ∃ H', Le H' G1 ∧ Value.bool false = Value.bool (adoptE S op).1 ∧ EdH H0 H' eb (adoptE S op).2 := by
    intro h
    rw [em, if_pos (.inl h)]
    exact ⟨_, Le.refl _, rfl, hC1.weaken hH0⟩
  cases ok with
  | false =>
    (repeat' (first
    | simp -implicitDefEqProofs only [WV_seq, WV_cond, WV_block, WV_skip, WV_ret, WV_exit, WV_region, WV_draw, WV_loop, thenQ_normal, thenQ_ret, thenQ_exit, blockQ_normal, blockQ_ret, blockQ_exit, V_nil, V_cons, KV_eq, VL_nil, VL_cons, KL_eq, vcl_zero, vcl_one, vcl_two, isV_same, isV_eq, monoK_eq, dOk, put, gd_none, gd_some, gdst_eq, gdv_some, gdB_true, gdB_false, gdB_undef, ev_const, ev_tmp, lit_i64, lit_i32, lit_bool, lit_pointer, lit_slice, lit_string, CondW_true, CondW_false, GrdV_true, GrdV_false, GrdL_true, GrdL_false, vc_move, vc_assign, vc_load, vc_store, vc_field, vc_indexAddr, vc_index, vc_box, vc_alloc, vc_build, vc_buildSlice, vc_makeSlice, vc_slice, vc_extract, vc_unOp, vc_convert, vc_bin, vc_pick, vc_call, vc_append, vc_len, vc_min, vc_max, vc_copy, vc_clear, pickK_true, pickK_false, stK_eq, not_bool, min_i64, max_i64, min_u16, max_u16, extract_tuple, vc_nil, nilK_ptr, int_add, int_sub, int_mul, int_eql, int_neq, int_lss, int_leq, int_gtr, int_geq, u8_add, u8_sub, u8_mul, u8_eql, u8_neq, u8_lss, u8_leq, u8_gtr, u8_geq, u16_add, u16_sub, u16_mul, u16_eql, u16_neq, u16_lss, u16_leq, u16_gtr, u16_geq, u32_add, u32_sub, u32_mul, u32_eql, u32_neq, u32_lss, u32_leq, u32_gtr, u32_geq, u64_add, u64_sub, u64_mul, u64_eql, u64_neq, u64_lss, u64_leq, u64_gtr, u64_geq, u8_and, u8_or, u8_xor, u8_andNot, u64_and, u64_or, u64_xor, u64_andNot, u8_shl_u8, u8_shl_u16, u8_shl_u64, u32_shl_u8, u32_shl_u16, u32_shl_u64, u64_shl_u8, u64_shl_u16, u64_shl_u64, u8_shr_u8, u8_shr_u16, u8_shr_u64, u64_shr_u8, u64_shr_u16, u64_shr_u64, u16_quo8, u16_rem8, u16_quo64, u16_rem64, u64_quo8, u64_rem8, u64_quo64, u64_rem64, u32_quo8, u32_rem8, u32_quo64, u32_rem64, int_quo2, int_rem2, int_quo8, int_rem8, int_quo64, int_rem64, u64_shrN, u64_shlN, fold64, fold32, i64_shl_u8, i16_eql, i16_neq, i16_lss, i16_geq, Nat.reduceEqDiff, Nat.reduceLT, Nat.reduceAdd, Nat.reduceMul, Nat.reduceSub, ↓reduceIte, if_true, if_false, eq_self, true_and, and_true, Bool.false_eq_true, Bool.not_true, Bool.not_false, reduceCtorEq, upd_get, List.getElem?_toArray, List.getElem?_cons_zero, List.getElem?_cons_succ, Option.bind_some, rdK_some, List.map_toArray, List.map_cons, List.map_nil, rd_upd, rdO_fblk, wrOk_fblk, wrO_fblk, lget_zero, lget_succ, upd_upd, agg_cells, cells_of_list, List.length_cons, List.length_nil, Nat.add_zero, pv_cells, pl_len, pl_0, pl_1, pl_2, pl_3, pl_4, pl_5, pv_fold, pv_eta, ov_eta, opv_eta, ov_cells, ol_len, ov_fold, opv_cells, opl_len, opv_fold, st_pv, st_ov, st_opv, ol_0, ol_1, ol_2, ol_3, ol_4, ol_5, ol_6, ol_7, ol_8, ol_9, opl_0, opl_1, opl_2, opl_3, opl_4, opl_5, opl_6, opl_7, wrsOk_fblk, wrsO_fblk, fblk_all, Nat.reduceLeDiff, Nat.zero_add, rdsK2, rdsK4, rdsK6, rdsK8, rdsK10, wrsK_nil, wrsK_cons, oneCell_u8, oneCell_u16, oneCell_u32, oneCell_u64, oneCell_i16, oneCell_int, oneCell_bool, oneCell_ptr, oneCell_pointer, oneCell_sl, oneCell_slice, oneCell_string, box_eq, List.all_cons, List.all_nil, Bool.and_self, Ex1_eq, Ex1_and, endQ, resH, res_tmp, res_cell, resC_ptr, tupleOf, Fabg.results112, fa_52_1, ld_5, fa_52_2, call_110, fa_52_3, cv_5_3, fa_57_0, ld_26, ix_26_int, ix_26_u8, ix_26_u16, ix_26_i16, ld_30, k_u64_0, tn_u64_0, call_102, fa_57_1, ld_55, ix_55_int, ix_55_u8, ix_55_u16, ix_55_i16, fa_62_1, ld_23, k_i16_m1, call_156, call_157, call_158, cv_5_23, st_23, fa_62_2, st_5, fa_62_0, ldN_60, call_111, fa_60_1, st_50, call_121, st_30, o0, o1, o2, o3]
    | refine (cs).use ?_
    | refine (cs).useQ ?_
    | refine W_drawL (id := 11) (by kernel_rfl) [0, 0, 0, 0, 0, 0, 0, 0, 0, 0, 0, 0, 2] (by kernel_rfl) ?_
    | refine Alloc.mono ?_
    | (refine CondW_intro (fun hc => ?_) (fun hc => ?_) <;> (try simp only [Bool.not_eq_true', Bool.not_eq_false'] at hc) <;> (try simp only [hc]))
    | (refine GrdV_intro (fun hc => ?_) (fun hc => ?_) <;> (try simp only [Bool.not_eq_true', Bool.not_eq_false'] at hc) <;> (try simp only [hc]))
    | (refine GrdL_intro (fun hc => ?_) (fun hc => ?_) <;> (try simp only [Bool.not_eq_true', Bool.not_eq_false'] at hc) <;> (try simp only [hc]))))
    exact bad (by rw [ea]; rfl)
  | true =>
  have hat := hlt rfl
  obtain ⟨ba, cap, gA, a1, a2, a3, a4, a5, a6, a7⟩ := hC1.openA h0
  have a4' := a4 _ hat
  have q3' : at_.toNat < cap * 1 := by omega
  have q2 : (at_.toNat < S.len) = True := eq_true hat
  have q3 : (at_.toNat < cap * 1) = True := eq_true q3'
  cases d1 : (S.A at_.toNat != 0)
  rotate_left
  · (repeat' (first
    | simp -implicitDefEqProofs only [WV_seq, WV_cond, WV_block, WV_skip, WV_ret, WV_exit, WV_region, WV_draw, WV_loop, thenQ_normal, thenQ_ret, thenQ_exit, blockQ_normal, blockQ_ret, blockQ_exit, V_nil, V_cons, KV_eq, VL_nil, VL_cons, KL_eq, vcl_zero, vcl_one, vcl_two, isV_same, isV_eq, monoK_eq, dOk, put, gd_none, gd_some, gdst_eq, gdv_some, gdB_true, gdB_false, gdB_undef, ev_const, ev_tmp, lit_i64, lit_i32, lit_bool, lit_pointer, lit_slice, lit_string, CondW_true, CondW_false, GrdV_true, GrdV_false, GrdL_true, GrdL_false, vc_move, vc_assign, vc_load, vc_store, vc_field, vc_indexAddr, vc_index, vc_box, vc_alloc, vc_build, vc_buildSlice, vc_makeSlice, vc_slice, vc_extract, vc_unOp, vc_convert, vc_bin, vc_pick, vc_call, vc_append, vc_len, vc_min, vc_max, vc_copy, vc_clear, pickK_true, pickK_false, stK_eq, not_bool, min_i64, max_i64, min_u16, max_u16, extract_tuple, vc_nil, nilK_ptr, int_add, int_sub, int_mul, int_eql, int_neq, int_lss, int_leq, int_gtr, int_geq, u8_add, u8_sub, u8_mul, u8_eql, u8_neq, u8_lss, u8_leq, u8_gtr, u8_geq, u16_add, u16_sub, u16_mul, u16_eql, u16_neq, u16_lss, u16_leq, u16_gtr, u16_geq, u32_add, u32_sub, u32_mul, u32_eql, u32_neq, u32_lss, u32_leq, u32_gtr, u32_geq, u64_add, u64_sub, u64_mul, u64_eql, u64_neq, u64_lss, u64_leq, u64_gtr, u64_geq, u8_and, u8_or, u8_xor, u8_andNot, u64_and, u64_or, u64_xor, u64_andNot, u8_shl_u8, u8_shl_u16, u8_shl_u64, u32_shl_u8, u32_shl_u16, u32_shl_u64, u64_shl_u8, u64_shl_u16, u64_shl_u64, u8_shr_u8, u8_shr_u16, u8_shr_u64, u64_shr_u8, u64_shr_u16, u64_shr_u64, u16_quo8, u16_rem8, u16_quo64, u16_rem64, u64_quo8, u64_rem8, u64_quo64, u64_rem64, u32_quo8, u32_rem8, u32_quo64, u32_rem64, int_quo2, int_rem2, int_quo8, int_rem8, int_quo64, int_rem64, u64_shrN, u64_shlN, fold64, fold32, i64_shl_u8, i16_eql, i16_neq, i16_lss, i16_geq, Nat.reduceEqDiff, Nat.reduceLT, Nat.reduceAdd, Nat.reduceMul, Nat.reduceSub, ↓reduceIte, if_true, if_false, eq_self, true_and, and_true, Bool.false_eq_true, Bool.not_true, Bool.not_false, reduceCtorEq, upd_get, List.getElem?_toArray, List.getElem?_cons_zero, List.getElem?_cons_succ, Option.bind_some, rdK_some, List.map_toArray, List.map_cons, List.map_nil, rd_upd, rdO_fblk, wrOk_fblk, wrO_fblk, lget_zero, lget_succ, upd_upd, agg_cells, cells_of_list, List.length_cons, List.length_nil, Nat.add_zero, pv_cells, pl_len, pl_0, pl_1, pl_2, pl_3, pl_4, pl_5, pv_fold, pv_eta, ov_eta, opv_eta, ov_cells, ol_len, ov_fold, opv_cells, opl_len, opv_fold, st_pv, st_ov, st_opv, ol_0, ol_1, ol_2, ol_3, ol_4, ol_5, ol_6, ol_7, ol_8, ol_9, opl_0, opl_1, opl_2, opl_3, opl_4, opl_5, opl_6, opl_7, wrsOk_fblk, wrsO_fblk, fblk_all, Nat.reduceLeDiff, Nat.zero_add, rdsK2, rdsK4, rdsK6, rdsK8, rdsK10, wrsK_nil, wrsK_cons, oneCell_u8, oneCell_u16, oneCell_u32, oneCell_u64, oneCell_i16, oneCell_int, oneCell_bool, oneCell_ptr, oneCell_pointer, oneCell_sl, oneCell_slice, oneCell_string, box_eq, List.all_cons, List.all_nil, Bool.and_self, Ex1_eq, Ex1_and, endQ, resH, res_tmp, res_cell, resC_ptr, tupleOf, Fabg.results112, fa_52_1, ld_5, fa_52_2, call_110, fa_52_3, cv_5_3, fa_57_0, ld_26, ix_26_int, ix_26_u8, ix_26_u16, ix_26_i16, ld_30, k_u64_0, tn_u64_0, call_102, fa_57_1, ld_55, ix_55_int, ix_55_u8, ix_55_u16, ix_55_i16, fa_62_1, ld_23, k_i16_m1, call_156, call_157, call_158, cv_5_23, st_23, fa_62_2, st_5, fa_62_0, ldN_60, call_111, fa_60_1, st_50, call_121, st_30, o0, o1, o2, o3, a1, a4', q2, d1]
    | refine (cs).use ?_
    | refine (cs).useQ ?_
    | refine W_drawL (id := 11) (by kernel_rfl) [0, 0, 0, 0, 0, 0, 0, 0, 0, 0, 0, 0, 2] (by kernel_rfl) ?_
    | refine Alloc.mono ?_
    | (refine CondW_intro (fun hc => ?_) (fun hc => ?_) <;> (try simp only [Bool.not_eq_true', Bool.not_eq_false'] at hc) <;> (try simp only [hc]))
    | (refine GrdV_intro (fun hc => ?_) (fun hc => ?_) <;> (try simp only [Bool.not_eq_true', Bool.not_eq_false'] at hc) <;> (try simp only [hc]))
    | (refine GrdL_intro (fun hc => ?_) (fun hc => ?_) <;> (try simp only [Bool.not_eq_true', Bool.not_eq_false'] at hc) <;> (try simp only [hc]))))
    exact bad (by rw [ea, d1]; rfl)
  cases d2 : ((op.x.toNat : Int) == 0)
  rotate_left
  · (repeat' (first
    | simp -implicitDefEqProofs only [WV_seq, WV_cond, WV_block, WV_skip, WV_ret, WV_exit, WV_region, WV_draw, WV_loop, thenQ_normal, thenQ_ret, thenQ_exit, blockQ_normal, blockQ_ret, blockQ_exit, V_nil, V_cons, KV_eq, VL_nil, VL_cons, KL_eq, vcl_zero, vcl_one, vcl_two, isV_same, isV_eq, monoK_eq, dOk, put, gd_none, gd_some, gdst_eq, gdv_some, gdB_true, gdB_false, gdB_undef, ev_const, ev_tmp, lit_i64, lit_i32, lit_bool, lit_pointer, lit_slice, lit_string, CondW_true, CondW_false, GrdV_true, GrdV_false, GrdL_true, GrdL_false, vc_move, vc_assign, vc_load, vc_store, vc_field, vc_indexAddr, vc_index, vc_box, vc_alloc, vc_build, vc_buildSlice, vc_makeSlice, vc_slice, vc_extract, vc_unOp, vc_convert, vc_bin, vc_pick, vc_call, vc_append, vc_len, vc_min, vc_max, vc_copy, vc_clear, pickK_true, pickK_false, stK_eq, not_bool, min_i64, max_i64, min_u16, max_u16, extract_tuple, vc_nil, nilK_ptr, int_add, int_sub, int_mul, int_eql, int_neq, int_lss, int_leq, int_gtr, int_geq, u8_add, u8_sub, u8_mul, u8_eql, u8_neq, u8_lss, u8_leq, u8_gtr, u8_geq, u16_add, u16_sub, u16_mul, u16_eql, u16_neq, u16_lss, u16_leq, u16_gtr, u16_geq, u32_add, u32_sub, u32_mul, u32_eql, u32_neq, u32_lss, u32_leq, u32_gtr, u32_geq, u64_add, u64_sub, u64_mul, u64_eql, u64_neq, u64_lss, u64_leq, u64_gtr, u64_geq, u8_and, u8_or, u8_xor, u8_andNot, u64_and, u64_or, u64_xor, u64_andNot, u8_shl_u8, u8_shl_u16, u8_shl_u64, u32_shl_u8, u32_shl_u16, u32_shl_u64, u64_shl_u8, u64_shl_u16, u64_shl_u64, u8_shr_u8, u8_shr_u16, u8_shr_u64, u64_shr_u8, u64_shr_u16, u64_shr_u64, u16_quo8, u16_rem8, u16_quo64, u16_rem64, u64_quo8, u64_rem8, u64_quo64, u64_rem64, u32_quo8, u32_rem8, u32_quo64, u32_rem64, int_quo2, int_rem2, int_quo8, int_rem8, int_quo64, int_rem64, u64_shrN, u64_shlN, fold64, fold32, i64_shl_u8, i16_eql, i16_neq, i16_lss, i16_geq, Nat.reduceEqDiff, Nat.reduceLT, Nat.reduceAdd, Nat.reduceMul, Nat.reduceSub, ↓reduceIte, if_true, if_false, eq_self, true_and, and_true, Bool.false_eq_true, Bool.not_true, Bool.not_false, reduceCtorEq, upd_get, List.getElem?_toArray, List.getElem?_cons_zero, List.getElem?_cons_succ, Option.bind_some, rdK_some, List.map_toArray, List.map_cons, List.map_nil, rd_upd, rdO_fblk, wrOk_fblk, wrO_fblk, lget_zero, lget_succ, upd_upd, agg_cells, cells_of_list, List.length_cons, List.length_nil, Nat.add_zero, pv_cells, pl_len, pl_0, pl_1, pl_2, pl_3, pl_4, pl_5, pv_fold, pv_eta, ov_eta, opv_eta, ov_cells, ol_len, ov_fold, opv_cells, opl_len, opv_fold, st_pv, st_ov, st_opv, ol_0, ol_1, ol_2, ol_3, ol_4, ol_5, ol_6, ol_7, ol_8, ol_9, opl_0, opl_1, opl_2, opl_3, opl_4, opl_5, opl_6, opl_7, wrsOk_fblk, wrsO_fblk, fblk_all, Nat.reduceLeDiff, Nat.zero_add, rdsK2, rdsK4, rdsK6, rdsK8, rdsK10, wrsK_nil, wrsK_cons, oneCell_u8, oneCell_u16, oneCell_u32, oneCell_u64, oneCell_i16, oneCell_int, oneCell_bool, oneCell_ptr, oneCell_pointer, oneCell_sl, oneCell_slice, oneCell_string, box_eq, List.all_cons, List.all_nil, Bool.and_self, Ex1_eq, Ex1_and, endQ, resH, res_tmp, res_cell, resC_ptr, tupleOf, Fabg.results112, fa_52_1, ld_5, fa_52_2, call_110, fa_52_3, cv_5_3, fa_57_0, ld_26, ix_26_int, ix_26_u8, ix_26_u16, ix_26_i16, ld_30, k_u64_0, tn_u64_0, call_102, fa_57_1, ld_55, ix_55_int, ix_55_u8, ix_55_u16, ix_55_i16, fa_62_1, ld_23, k_i16_m1, call_156, call_157, call_158, cv_5_23, st_23, fa_62_2, st_5, fa_62_0, ldN_60, call_111, fa_60_1, st_50, call_121, st_30, o0, o1, o2, o3, a1, a4', q2, d1, d2]
    | refine (cs).use ?_
    | refine (cs).useQ ?_
    | refine W_drawL (id := 11) (by kernel_rfl) [0, 0, 0, 0, 0, 0, 0, 0, 0, 0, 0, 0, 2] (by kernel_rfl) ?_
    | refine Alloc.mono ?_
    | (refine CondW_intro (fun hc => ?_) (fun hc => ?_) <;> (try simp only [Bool.not_eq_true', Bool.not_eq_false'] at hc) <;> (try simp only [hc]))
    | (refine GrdV_intro (fun hc => ?_) (fun hc => ?_) <;> (try simp only [Bool.not_eq_true', Bool.not_eq_false'] at hc) <;> (try simp only [hc]))
    | (refine GrdL_intro (fun hc => ?_) (fun hc => ?_) <;> (try simp only [Bool.not_eq_true', Bool.not_eq_false'] at hc) <;> (try simp only [hc]))))
    exact bad (by rw [ea, d1, d2]; rfl)
  cases d3 : aliveB S (op.x.toNat : Nat)
  · rw [d3] at ca
    (repeat' (first
    | simp -implicitDefEqProofs only [WV_seq, WV_cond, WV_block, WV_skip, WV_ret, WV_exit, WV_region, WV_draw, WV_loop, thenQ_normal, thenQ_ret, thenQ_exit, blockQ_normal, blockQ_ret, blockQ_exit, V_nil, V_cons, KV_eq, VL_nil, VL_cons, KL_eq, vcl_zero, vcl_one, vcl_two, isV_same, isV_eq, monoK_eq, dOk, put, gd_none, gd_some, gdst_eq, gdv_some, gdB_true, gdB_false, gdB_undef, ev_const, ev_tmp, lit_i64, lit_i32, lit_bool, lit_pointer, lit_slice, lit_string, CondW_true, CondW_false, GrdV_true, GrdV_false, GrdL_true, GrdL_false, vc_move, vc_assign, vc_load, vc_store, vc_field, vc_indexAddr, vc_index, vc_box, vc_alloc, vc_build, vc_buildSlice, vc_makeSlice, vc_slice, vc_extract, vc_unOp, vc_convert, vc_bin, vc_pick, vc_call, vc_append, vc_len, vc_min, vc_max, vc_copy, vc_clear, pickK_true, pickK_false, stK_eq, not_bool, min_i64, max_i64, min_u16, max_u16, extract_tuple, vc_nil, nilK_ptr, int_add, int_sub, int_mul, int_eql, int_neq, int_lss, int_leq, int_gtr, int_geq, u8_add, u8_sub, u8_mul, u8_eql, u8_neq, u8_lss, u8_leq, u8_gtr, u8_geq, u16_add, u16_sub, u16_mul, u16_eql, u16_neq, u16_lss, u16_leq, u16_gtr, u16_geq, u32_add, u32_sub, u32_mul, u32_eql, u32_neq, u32_lss, u32_leq, u32_gtr, u32_geq, u64_add, u64_sub, u64_mul, u64_eql, u64_neq, u64_lss, u64_leq, u64_gtr, u64_geq, u8_and, u8_or, u8_xor, u8_andNot, u64_and, u64_or, u64_xor, u64_andNot, u8_shl_u8, u8_shl_u16, u8_shl_u64, u32_shl_u8, u32_shl_u16, u32_shl_u64, u64_shl_u8, u64_shl_u16, u64_shl_u64, u8_shr_u8, u8_shr_u16, u8_shr_u64, u64_shr_u8, u64_shr_u16, u64_shr_u64, u16_quo8, u16_rem8, u16_quo64, u16_rem64, u64_quo8, u64_rem8, u64_quo64, u64_rem64, u32_quo8, u32_rem8, u32_quo64, u32_rem64, int_quo2, int_rem2, int_quo8, int_rem8, int_quo64, int_rem64, u64_shrN, u64_shlN, fold64, fold32, i64_shl_u8, i16_eql, i16_neq, i16_lss, i16_geq, Nat.reduceEqDiff, Nat.reduceLT, Nat.reduceAdd, Nat.reduceMul, Nat.reduceSub, ↓reduceIte, if_true, if_false, eq_self, true_and, and_true, Bool.false_eq_true, Bool.not_true, Bool.not_false, reduceCtorEq, upd_get, List.getElem?_toArray, List.getElem?_cons_zero, List.getElem?_cons_succ, Option.bind_some, rdK_some, List.map_toArray, List.map_cons, List.map_nil, rd_upd, rdO_fblk, wrOk_fblk, wrO_fblk, lget_zero, lget_succ, upd_upd, agg_cells, cells_of_list, List.length_cons, List.length_nil, Nat.add_zero, pv_cells, pl_len, pl_0, pl_1, pl_2, pl_3, pl_4, pl_5, pv_fold, pv_eta, ov_eta, opv_eta, ov_cells, ol_len, ov_fold, opv_cells, opl_len, opv_fold, st_pv, st_ov, st_opv, ol_0, ol_1, ol_2, ol_3, ol_4, ol_5, ol_6, ol_7, ol_8, ol_9, opl_0, opl_1, opl_2, opl_3, opl_4, opl_5, opl_6, opl_7, wrsOk_fblk, wrsO_fblk, fblk_all, Nat.reduceLeDiff, Nat.zero_add, rdsK2, rdsK4, rdsK6, rdsK8, rdsK10, wrsK_nil, wrsK_cons, oneCell_u8, oneCell_u16, oneCell_u32, oneCell_u64, oneCell_i16, oneCell_int, oneCell_bool, oneCell_ptr, oneCell_pointer, oneCell_sl, oneCell_slice, oneCell_string, box_eq, List.all_cons, List.all_nil, Bool.and_self, Ex1_eq, Ex1_and, endQ, resH, res_tmp, res_cell, resC_ptr, tupleOf, Fabg.results112, fa_52_1, ld_5, fa_52_2, call_110, fa_52_3, cv_5_3, fa_57_0, ld_26, ix_26_int, ix_26_u8, ix_26_u16, ix_26_i16, ld_30, k_u64_0, tn_u64_0, call_102, fa_57_1, ld_55, ix_55_int, ix_55_u8, ix_55_u16, ix_55_i16, fa_62_1, ld_23, k_i16_m1, call_156, call_157, call_158, cv_5_23, st_23, fa_62_2, st_5, fa_62_0, ldN_60, call_111, fa_60_1, st_50, call_121, st_30, o0, o1, o2, o3, a1, a4', q2, d1, d2]
    | refine (cs).use ?_
    | refine (cs).useQ ?_
    | refine (ca).use ?_
    | refine (ca).useQ ?_
    | refine W_drawL (id := 11) (by kernel_rfl) [0, 0, 0, 0, 0, 0, 0, 0, 0, 0, 0, 0, 2] (by kernel_rfl) ?_
    | refine Alloc.mono ?_
    | (refine CondW_intro (fun hc => ?_) (fun hc => ?_) <;> (try simp only [Bool.not_eq_true', Bool.not_eq_false'] at hc) <;> (try simp only [hc]))
    | (refine GrdV_intro (fun hc => ?_) (fun hc => ?_) <;> (try simp only [Bool.not_eq_true', Bool.not_eq_false'] at hc) <;> (try simp only [hc]))
    | (refine GrdL_intro (fun hc => ?_) (fun hc => ?_) <;> (try simp only [Bool.not_eq_true', Bool.not_eq_false'] at hc) <;> (try simp only [hc]))))
    exact bad (by rw [ea, d1, d2, d3]; rfl)
  rw [d3] at ca
  have hx := (aliveB_iff S _).1 d3
  have hxc : op.x.toNat < S.cnt := by omega
  obtain ⟨bo, capO, gO, b1, b2, b3', b4, b5, b6, b7, b8⟩ := hC1.openO (by omega)
  have hb7a := b7 op.x.toNat ⟨(S.O op.x.toNat).p, Int16.ofInt (op.h.toNat : Int), op.i, (S.O op.x.toNat).elem, (S.O op.x.toNat).dead⟩ (upd (upd gO (op.x.toNat * 10 + 6) (i16 (Int16.ofInt (op.h.toNat : Int)))) (op.x.toNat * 10 + 7) (u8 op.i)) hxc (fun c hc => by rw [upd_ne _ _ _ _ (by omega), upd_ne _ _ _ _ (by omega)]) (by
    intro j hj
    by_cases e7 : j = 7
    · subst e7; rw [upd_same, ol_7]
    rw [upd_ne _ _ _ _ (by omega)]
    by_cases e6 : j = 6
    · subst e6; rw [upd_same, ol_6]
    rw [upd_ne _ _ _ _ (by omega), b8 _ _ hxc hj]
    exact ol_ad _ _ _ _ hj e7 e6)
  have hb7b := b7 op.x.toNat ⟨{ (S.O op.x.toNat).p with at_ := at_ }, Int16.ofInt (op.h.toNat : Int), op.i, (S.O op.x.toNat).elem, (S.O op.x.toNat).dead⟩ (upd (upd (upd gO (op.x.toNat * 10 + 6) (i16 (Int16.ofInt (op.h.toNat : Int)))) (op.x.toNat * 10 + 7) (u8 op.i)) (op.x.toNat * 10 + 1) (u16 at_)) hxc (fun c hc => by rw [upd_ne _ _ _ _ (by omega), upd_ne _ _ _ _ (by omega), upd_ne _ _ _ _ (by omega)]) (by
    intro j hj
    by_cases e1 : j = 1
    · subst e1; rw [upd_same, ol_1]
    rw [upd_ne _ _ _ _ (by omega)]
    by_cases e7 : j = 7
    · subst e7; rw [upd_same, ol_7]
    rw [upd_ne _ _ _ _ (by omega)]
    by_cases e6 : j = 6
    · subst e6; rw [upd_same, ol_6]
    rw [upd_ne _ _ _ _ (by omega), b8 _ _ hxc hj]
    exact ol_ad1 _ _ _ _ _ hj e7 e6 e1)
  have hOx := b4 _ hxc
  have hO6 := hOx.r6
  have q4 : ((op.x.toNat : Int) < (S.cnt : Int)) = True := eq_true (by omega)
  cases d4 : ((S.O op.x.toNat).up != -1)
  rotate_left
  · (repeat' (first
    | simp -implicitDefEqProofs only [WV_seq, WV_cond, WV_block, WV_skip, WV_ret, WV_exit, WV_region, WV_draw, WV_loop, thenQ_normal, thenQ_ret, thenQ_exit, blockQ_normal, blockQ_ret, blockQ_exit, V_nil, V_cons, KV_eq, VL_nil, VL_cons, KL_eq, vcl_zero, vcl_one, vcl_two, isV_same, isV_eq, monoK_eq, dOk, put, gd_none, gd_some, gdst_eq, gdv_some, gdB_true, gdB_false, gdB_undef, ev_const, ev_tmp, lit_i64, lit_i32, lit_bool, lit_pointer, lit_slice, lit_string, CondW_true, CondW_false, GrdV_true, GrdV_false, GrdL_true, GrdL_false, vc_move, vc_assign, vc_load, vc_store, vc_field, vc_indexAddr, vc_index, vc_box, vc_alloc, vc_build, vc_buildSlice, vc_makeSlice, vc_slice, vc_extract, vc_unOp, vc_convert, vc_bin, vc_pick, vc_call, vc_append, vc_len, vc_min, vc_max, vc_copy, vc_clear, pickK_true, pickK_false, stK_eq, not_bool, min_i64, max_i64, min_u16, max_u16, extract_tuple, vc_nil, nilK_ptr, int_add, int_sub, int_mul, int_eql, int_neq, int_lss, int_leq, int_gtr, int_geq, u8_add, u8_sub, u8_mul, u8_eql, u8_neq, u8_lss, u8_leq, u8_gtr, u8_geq, u16_add, u16_sub, u16_mul, u16_eql, u16_neq, u16_lss, u16_leq, u16_gtr, u16_geq, u32_add, u32_sub, u32_mul, u32_eql, u32_neq, u32_lss, u32_leq, u32_gtr, u32_geq, u64_add, u64_sub, u64_mul, u64_eql, u64_neq, u64_lss, u64_leq, u64_gtr, u64_geq, u8_and, u8_or, u8_xor, u8_andNot, u64_and, u64_or, u64_xor, u64_andNot, u8_shl_u8, u8_shl_u16, u8_shl_u64, u32_shl_u8, u32_shl_u16, u32_shl_u64, u64_shl_u8, u64_shl_u16, u64_shl_u64, u8_shr_u8, u8_shr_u16, u8_shr_u64, u64_shr_u8, u64_shr_u16, u64_shr_u64, u16_quo8, u16_rem8, u16_quo64, u16_rem64, u64_quo8, u64_rem8, u64_quo64, u64_rem64, u32_quo8, u32_rem8, u32_quo64, u32_rem64, int_quo2, int_rem2, int_quo8, int_rem8, int_quo64, int_rem64, u64_shrN, u64_shlN, fold64, fold32, i64_shl_u8, i16_eql, i16_neq, i16_lss, i16_geq, Nat.reduceEqDiff, Nat.reduceLT, Nat.reduceAdd, Nat.reduceMul, Nat.reduceSub, ↓reduceIte, if_true, if_false, eq_self, true_and, and_true, Bool.false_eq_true, Bool.not_true, Bool.not_false, reduceCtorEq, upd_get, List.getElem?_toArray, List.getElem?_cons_zero, List.getElem?_cons_succ, Option.bind_some, rdK_some, List.map_toArray, List.map_cons, List.map_nil, rd_upd, rdO_fblk, wrOk_fblk, wrO_fblk, lget_zero, lget_succ, upd_upd, agg_cells, cells_of_list, List.length_cons, List.length_nil, Nat.add_zero, pv_cells, pl_len, pl_0, pl_1, pl_2, pl_3, pl_4, pl_5, pv_fold, pv_eta, ov_eta, opv_eta, ov_cells, ol_len, ov_fold, opv_cells, opl_len, opv_fold, st_pv, st_ov, st_opv, ol_0, ol_1, ol_2, ol_3, ol_4, ol_5, ol_6, ol_7, ol_8, ol_9, opl_0, opl_1, opl_2, opl_3, opl_4, opl_5, opl_6, opl_7, wrsOk_fblk, wrsO_fblk, fblk_all, Nat.reduceLeDiff, Nat.zero_add, rdsK2, rdsK4, rdsK6, rdsK8, rdsK10, wrsK_nil, wrsK_cons, oneCell_u8, oneCell_u16, oneCell_u32, oneCell_u64, oneCell_i16, oneCell_int, oneCell_bool, oneCell_ptr, oneCell_pointer, oneCell_sl, oneCell_slice, oneCell_string, box_eq, List.all_cons, List.all_nil, Bool.and_self, Ex1_eq, Ex1_and, endQ, resH, res_tmp, res_cell, resC_ptr, tupleOf, Fabg.results112, fa_52_1, ld_5, fa_52_2, call_110, fa_52_3, cv_5_3, fa_57_0, ld_26, ix_26_int, ix_26_u8, ix_26_u16, ix_26_i16, ld_30, k_u64_0, tn_u64_0, call_102, fa_57_1, ld_55, ix_55_int, ix_55_u8, ix_55_u16, ix_55_i16, fa_62_1, ld_23, k_i16_m1, call_156, call_157, call_158, cv_5_23, st_23, fa_62_2, st_5, fa_62_0, ldN_60, call_111, fa_60_1, st_50, call_121, st_30, o0, o1, o2, o3, a1, a4', q2, q4, b1, hO6, d1, d2, d4, decide_true, Int.natCast_nonneg, Int.toNat_natCast]
    | refine (cs).use ?_
    | refine (cs).useQ ?_
    | refine (ca).use ?_
    | refine (ca).useQ ?_
    | refine W_drawL (id := 11) (by kernel_rfl) [0, 0, 0, 0, 0, 0, 0, 0, 0, 0, 0, 0, 2] (by kernel_rfl) ?_
    | refine Alloc.mono ?_
    | (refine CondW_intro (fun hc => ?_) (fun hc => ?_) <;> (try simp only [Bool.not_eq_true', Bool.not_eq_false'] at hc) <;> (try simp only [hc]))
    | (refine GrdV_intro (fun hc => ?_) (fun hc => ?_) <;> (try simp only [Bool.not_eq_true', Bool.not_eq_false'] at hc) <;> (try simp only [hc]))
    | (refine GrdL_intro (fun hc => ?_) (fun hc => ?_) <;> (try simp only [Bool.not_eq_true', Bool.not_eq_false'] at hc) <;> (try simp only [hc]))))
    exact bad (by rw [ea, d1, d2, d3, d4]; rfl)
  cases d5 : (rr == (op.x.toNat : Int))
  rotate_left
  · (repeat' (first
    | simp -implicitDefEqProofs only [WV_seq, WV_cond, WV_block, WV_skip, WV_ret, WV_exit, WV_region, WV_draw, WV_loop, thenQ_normal, thenQ_ret, thenQ_exit, blockQ_normal, blockQ_ret, blockQ_exit, V_nil, V_cons, KV_eq, VL_nil, VL_cons, KL_eq, vcl_zero, vcl_one, vcl_two, isV_same, isV_eq, monoK_eq, dOk, put, gd_none, gd_some, gdst_eq, gdv_some, gdB_true, gdB_false, gdB_undef, ev_const, ev_tmp, lit_i64, lit_i32, lit_bool, lit_pointer, lit_slice, lit_string, CondW_true, CondW_false, GrdV_true, GrdV_false, GrdL_true, GrdL_false, vc_move, vc_assign, vc_load, vc_store, vc_field, vc_indexAddr, vc_index, vc_box, vc_alloc, vc_build, vc_buildSlice, vc_makeSlice, vc_slice, vc_extract, vc_unOp, vc_convert, vc_bin, vc_pick, vc_call, vc_append, vc_len, vc_min, vc_max, vc_copy, vc_clear, pickK_true, pickK_false, stK_eq, not_bool, min_i64, max_i64, min_u16, max_u16, extract_tuple, vc_nil, nilK_ptr, int_add, int_sub, int_mul, int_eql, int_neq, int_lss, int_leq, int_gtr, int_geq, u8_add, u8_sub, u8_mul, u8_eql, u8_neq, u8_lss, u8_leq, u8_gtr, u8_geq, u16_add, u16_sub, u16_mul, u16_eql, u16_neq, u16_lss, u16_leq, u16_gtr, u16_geq, u32_add, u32_sub, u32_mul, u32_eql, u32_neq, u32_lss, u32_leq, u32_gtr, u32_geq, u64_add, u64_sub, u64_mul, u64_eql, u64_neq, u64_lss, u64_leq, u64_gtr, u64_geq, u8_and, u8_or, u8_xor, u8_andNot, u64_and, u64_or, u64_xor, u64_andNot, u8_shl_u8, u8_shl_u16, u8_shl_u64, u32_shl_u8, u32_shl_u16, u32_shl_u64, u64_shl_u8, u64_shl_u16, u64_shl_u64, u8_shr_u8, u8_shr_u16, u8_shr_u64, u64_shr_u8, u64_shr_u16, u64_shr_u64, u16_quo8, u16_rem8, u16_quo64, u16_rem64, u64_quo8, u64_rem8, u64_quo64, u64_rem64, u32_quo8, u32_rem8, u32_quo64, u32_rem64, int_quo2, int_rem2, int_quo8, int_rem8, int_quo64, int_rem64, u64_shrN, u64_shlN, fold64, fold32, i64_shl_u8, i16_eql, i16_neq, i16_lss, i16_geq, Nat.reduceEqDiff, Nat.reduceLT, Nat.reduceAdd, Nat.reduceMul, Nat.reduceSub, ↓reduceIte, if_true, if_false, eq_self, true_and, and_true, Bool.false_eq_true, Bool.not_true, Bool.not_false, reduceCtorEq, upd_get, List.getElem?_toArray, List.getElem?_cons_zero, List.getElem?_cons_succ, Option.bind_some, rdK_some, List.map_toArray, List.map_cons, List.map_nil, rd_upd, rdO_fblk, wrOk_fblk, wrO_fblk, lget_zero, lget_succ, upd_upd, agg_cells, cells_of_list, List.length_cons, List.length_nil, Nat.add_zero, pv_cells, pl_len, pl_0, pl_1, pl_2, pl_3, pl_4, pl_5, pv_fold, pv_eta, ov_eta, opv_eta, ov_cells, ol_len, ov_fold, opv_cells, opl_len, opv_fold, st_pv, st_ov, st_opv, ol_0, ol_1, ol_2, ol_3, ol_4, ol_5, ol_6, ol_7, ol_8, ol_9, opl_0, opl_1, opl_2, opl_3, opl_4, opl_5, opl_6, opl_7, wrsOk_fblk, wrsO_fblk, fblk_all, Nat.reduceLeDiff, Nat.zero_add, rdsK2, rdsK4, rdsK6, rdsK8, rdsK10, wrsK_nil, wrsK_cons, oneCell_u8, oneCell_u16, oneCell_u32, oneCell_u64, oneCell_i16, oneCell_int, oneCell_bool, oneCell_ptr, oneCell_pointer, oneCell_sl, oneCell_slice, oneCell_string, box_eq, List.all_cons, List.all_nil, Bool.and_self, Ex1_eq, Ex1_and, endQ, resH, res_tmp, res_cell, resC_ptr, tupleOf, Fabg.results112, fa_52_1, ld_5, fa_52_2, call_110, fa_52_3, cv_5_3, fa_57_0, ld_26, ix_26_int, ix_26_u8, ix_26_u16, ix_26_i16, ld_30, k_u64_0, tn_u64_0, call_102, fa_57_1, ld_55, ix_55_int, ix_55_u8, ix_55_u16, ix_55_i16, fa_62_1, ld_23, k_i16_m1, call_156, call_157, call_158, cv_5_23, st_23, fa_62_2, st_5, fa_62_0, ldN_60, call_111, fa_60_1, st_50, call_121, st_30, o0, o1, o2, o3, a1, a4', q2, q4, b1, hO6, d1, d2, d4, d5, decide_true, Int.natCast_nonneg, Int.toNat_natCast]
    | refine (cs).use ?_
    | refine (cs).useQ ?_
    | refine (ca).use ?_
    | refine (ca).useQ ?_
    | refine (cr).use ?_
    | refine (cr).useQ ?_
    | refine W_drawL (id := 11) (by kernel_rfl) [0, 0, 0, 0, 0, 0, 0, 0, 0, 0, 0, 0, 2] (by kernel_rfl) ?_
    | refine Alloc.mono ?_
    | (refine CondW_intro (fun hc => ?_) (fun hc => ?_) <;> (try simp only [Bool.not_eq_true', Bool.not_eq_false'] at hc) <;> (try simp only [hc]))
    | (refine GrdV_intro (fun hc => ?_) (fun hc => ?_) <;> (try simp only [Bool.not_eq_true', Bool.not_eq_false'] at hc) <;> (try simp only [hc]))
    | (refine GrdL_intro (fun hc => ?_) (fun hc => ?_) <;> (try simp only [Bool.not_eq_true', Bool.not_eq_false'] at hc) <;> (try simp only [hc]))))
    exact bad (by rw [ea, d1, d2, d3, d4, d5]; rfl)
  have no : adoptNo S op = false := by rw [ea, d1, d2, d3, d4, d5]; rfl
  have q5 : w64 ((dd : Int) + (hg : Int)) = ((dd + hg : Nat) : Int) := by rw [w64_id] <;> omega
  by_cases d6 : 8 < dd + hg
  · have q6 : decide (((dd + hg : Nat) : Int) > 8) = true := decide_eq_true (by omega)
    (repeat' (first
    | simp -implicitDefEqProofs only [WV_seq, WV_cond, WV_block, WV_skip, WV_ret, WV_exit, WV_region, WV_draw, WV_loop, thenQ_normal, thenQ_ret, thenQ_exit, blockQ_normal, blockQ_ret, blockQ_exit, V_nil, V_cons, KV_eq, VL_nil, VL_cons, KL_eq, vcl_zero, vcl_one, vcl_two, isV_same, isV_eq, monoK_eq, dOk, put, gd_none, gd_some, gdst_eq, gdv_some, gdB_true, gdB_false, gdB_undef, ev_const, ev_tmp, lit_i64, lit_i32, lit_bool, lit_pointer, lit_slice, lit_string, CondW_true, CondW_false, GrdV_true, GrdV_false, GrdL_true, GrdL_false, vc_move, vc_assign, vc_load, vc_store, vc_field, vc_indexAddr, vc_index, vc_box, vc_alloc, vc_build, vc_buildSlice, vc_makeSlice, vc_slice, vc_extract, vc_unOp, vc_convert, vc_bin, vc_pick, vc_call, vc_append, vc_len, vc_min, vc_max, vc_copy, vc_clear, pickK_true, pickK_false, stK_eq, not_bool, min_i64, max_i64, min_u16, max_u16, extract_tuple, vc_nil, nilK_ptr, int_add, int_sub, int_mul, int_eql, int_neq, int_lss, int_leq, int_gtr, int_geq, u8_add, u8_sub, u8_mul, u8_eql, u8_neq, u8_lss, u8_leq, u8_gtr, u8_geq, u16_add, u16_sub, u16_mul, u16_eql, u16_neq, u16_lss, u16_leq, u16_gtr, u16_geq, u32_add, u32_sub, u32_mul, u32_eql, u32_neq, u32_lss, u32_leq, u32_gtr, u32_geq, u64_add, u64_sub, u64_mul, u64_eql, u64_neq, u64_lss, u64_leq, u64_gtr, u64_geq, u8_and, u8_or, u8_xor, u8_andNot, u64_and, u64_or, u64_xor, u64_andNot, u8_shl_u8, u8_shl_u16, u8_shl_u64, u32_shl_u8, u32_shl_u16, u32_shl_u64, u64_shl_u8, u64_shl_u16, u64_shl_u64, u8_shr_u8, u8_shr_u16, u8_shr_u64, u64_shr_u8, u64_shr_u16, u64_shr_u64, u16_quo8, u16_rem8, u16_quo64, u16_rem64, u64_quo8, u64_rem8, u64_quo64, u64_rem64, u32_quo8, u32_rem8, u32_quo64, u32_rem64, int_quo2, int_rem2, int_quo8, int_rem8, int_quo64, int_rem64, u64_shrN, u64_shlN, fold64, fold32, i64_shl_u8, i16_eql, i16_neq, i16_lss, i16_geq, Nat.reduceEqDiff, Nat.reduceLT, Nat.reduceAdd, Nat.reduceMul, Nat.reduceSub, ↓reduceIte, if_true, if_false, eq_self, true_and, and_true, Bool.false_eq_true, Bool.not_true, Bool.not_false, reduceCtorEq, upd_get, List.getElem?_toArray, List.getElem?_cons_zero, List.getElem?_cons_succ, Option.bind_some, rdK_some, List.map_toArray, List.map_cons, List.map_nil, rd_upd, rdO_fblk, wrOk_fblk, wrO_fblk, lget_zero, lget_succ, upd_upd, agg_cells, cells_of_list, List.length_cons, List.length_nil, Nat.add_zero, pv_cells, pl_len, pl_0, pl_1, pl_2, pl_3, pl_4, pl_5, pv_fold, pv_eta, ov_eta, opv_eta, ov_cells, ol_len, ov_fold, opv_cells, opl_len, opv_fold, st_pv, st_ov, st_opv, ol_0, ol_1, ol_2, ol_3, ol_4, ol_5, ol_6, ol_7, ol_8, ol_9, opl_0, opl_1, opl_2, opl_3, opl_4, opl_5, opl_6, opl_7, wrsOk_fblk, wrsO_fblk, fblk_all, Nat.reduceLeDiff, Nat.zero_add, rdsK2, rdsK4, rdsK6, rdsK8, rdsK10, wrsK_nil, wrsK_cons, oneCell_u8, oneCell_u16, oneCell_u32, oneCell_u64, oneCell_i16, oneCell_int, oneCell_bool, oneCell_ptr, oneCell_pointer, oneCell_sl, oneCell_slice, oneCell_string, box_eq, List.all_cons, List.all_nil, Bool.and_self, Ex1_eq, Ex1_and, endQ, resH, res_tmp, res_cell, resC_ptr, tupleOf, Fabg.results112, fa_52_1, ld_5, fa_52_2, call_110, fa_52_3, cv_5_3, fa_57_0, ld_26, ix_26_int, ix_26_u8, ix_26_u16, ix_26_i16, ld_30, k_u64_0, tn_u64_0, call_102, fa_57_1, ld_55, ix_55_int, ix_55_u8, ix_55_u16, ix_55_i16, fa_62_1, ld_23, k_i16_m1, call_156, call_157, call_158, cv_5_23, st_23, fa_62_2, st_5, fa_62_0, ldN_60, call_111, fa_60_1, st_50, call_121, st_30, o0, o1, o2, o3, a1, a4', q2, q4, q5, q6, b1, hO6, d1, d2, d4, d5, decide_true, Int.natCast_nonneg, Int.toNat_natCast]
    | refine (cs).use ?_
    | refine (cs).useQ ?_
    | refine (ca).use ?_
    | refine (ca).useQ ?_
    | refine (cr).use ?_
    | refine (cr).useQ ?_
    | refine (cd).use ?_
    | refine (cd).useQ ?_
    | refine (ch).use ?_
    | refine (ch).useQ ?_
    | refine W_drawL (id := 11) (by kernel_rfl) [0, 0, 0, 0, 0, 0, 0, 0, 0, 0, 0, 0, 2] (by kernel_rfl) ?_
    | refine Alloc.mono ?_
    | (refine CondW_intro (fun hc => ?_) (fun hc => ?_) <;> (try simp only [Bool.not_eq_true', Bool.not_eq_false'] at hc) <;> (try simp only [hc]))
    | (refine GrdV_intro (fun hc => ?_) (fun hc => ?_) <;> (try simp only [Bool.not_eq_true', Bool.not_eq_false'] at hc) <;> (try simp only [hc]))
    | (refine GrdL_intro (fun hc => ?_) (fun hc => ?_) <;> (try simp only [Bool.not_eq_true', Bool.not_eq_false'] at hc) <;> (try simp only [hc]))))
    rw [em, if_pos (.inr d6)]
    exact ⟨_, Le.refl _, rfl, hC1.weaken hH0⟩
  have q6 : decide (((dd + hg : Nat) : Int) > 8) = false := decide_eq_false (by omega)
  rw [if_neg (by rintro (h | h); rw [no] at h; cases h; exact d6 h)] at em
  have z3 : b3 ≠ bo := fun e => by rw [← e, i3] at b6; cases b6
  have hqc := fun o H k => QC_rd bo b3 o H k z3
  have u6 : (op.x.toNat * 10 + 6 < capO * 10) = True := eq_true (by omega)
  have u7 : (op.x.toNat * 10 + 7 < capO * 10) = True := eq_true (by omega)
  (repeat' (first
    | simp -implicitDefEqProofs only [WV_seq, WV_cond, WV_block, WV_skip, WV_ret, WV_exit, WV_region, WV_draw, WV_loop, thenQ_normal, thenQ_ret, thenQ_exit, blockQ_normal, blockQ_ret, blockQ_exit, V_nil, V_cons, KV_eq, VL_nil, VL_cons, KL_eq, vcl_zero, vcl_one, vcl_two, isV_same, isV_eq, monoK_eq, dOk, put, gd_none, gd_some, gdst_eq, gdv_some, gdB_true, gdB_false, gdB_undef, ev_const, ev_tmp, lit_i64, lit_i32, lit_bool, lit_pointer, lit_slice, lit_string, CondW_true, CondW_false, GrdV_true, GrdV_false, GrdL_true, GrdL_false, vc_move, vc_assign, vc_load, vc_store, vc_field, vc_indexAddr, vc_index, vc_box, vc_alloc, vc_build, vc_buildSlice, vc_makeSlice, vc_slice, vc_extract, vc_unOp, vc_convert, vc_bin, vc_pick, vc_call, vc_append, vc_len, vc_min, vc_max, vc_copy, vc_clear, pickK_true, pickK_false, stK_eq, not_bool, min_i64, max_i64, min_u16, max_u16, extract_tuple, vc_nil, nilK_ptr, int_add, int_sub, int_mul, int_eql, int_neq, int_lss, int_leq, int_gtr, int_geq, u8_add, u8_sub, u8_mul, u8_eql, u8_neq, u8_lss, u8_leq, u8_gtr, u8_geq, u16_add, u16_sub, u16_mul, u16_eql, u16_neq, u16_lss, u16_leq, u16_gtr, u16_geq, u32_add, u32_sub, u32_mul, u32_eql, u32_neq, u32_lss, u32_leq, u32_gtr, u32_geq, u64_add, u64_sub, u64_mul, u64_eql, u64_neq, u64_lss, u64_leq, u64_gtr, u64_geq, u8_and, u8_or, u8_xor, u8_andNot, u64_and, u64_or, u64_xor, u64_andNot, u8_shl_u8, u8_shl_u16, u8_shl_u64, u32_shl_u8, u32_shl_u16, u32_shl_u64, u64_shl_u8, u64_shl_u16, u64_shl_u64, u8_shr_u8, u8_shr_u16, u8_shr_u64, u64_shr_u8, u64_shr_u16, u64_shr_u64, u16_quo8, u16_rem8, u16_quo64, u16_rem64, u64_quo8, u64_rem8, u64_quo64, u64_rem64, u32_quo8, u32_rem8, u32_quo64, u32_rem64, int_quo2, int_rem2, int_quo8, int_rem8, int_quo64, int_rem64, u64_shrN, u64_shlN, fold64, fold32, i64_shl_u8, i16_eql, i16_neq, i16_lss, i16_geq, Nat.reduceEqDiff, Nat.reduceLT, Nat.reduceAdd, Nat.reduceMul, Nat.reduceSub, ↓reduceIte, if_true, if_false, eq_self, true_and, and_true, Bool.false_eq_true, Bool.not_true, Bool.not_false, reduceCtorEq, upd_get, List.getElem?_toArray, List.getElem?_cons_zero, List.getElem?_cons_succ, Option.bind_some, rdK_some, List.map_toArray, List.map_cons, List.map_nil, rd_upd, rdO_fblk, wrOk_fblk, wrO_fblk, lget_zero, lget_succ, upd_upd, agg_cells, cells_of_list, List.length_cons, List.length_nil, Nat.add_zero, pv_cells, pl_len, pl_0, pl_1, pl_2, pl_3, pl_4, pl_5, pv_fold, pv_eta, ov_eta, opv_eta, ov_cells, ol_len, ov_fold, opv_cells, opl_len, opv_fold, st_pv, st_ov, st_opv, ol_0, ol_1, ol_2, ol_3, ol_4, ol_5, ol_6, ol_7, ol_8, ol_9, opl_0, opl_1, opl_2, opl_3, opl_4, opl_5, opl_6, opl_7, wrsOk_fblk, wrsO_fblk, fblk_all, Nat.reduceLeDiff, Nat.zero_add, rdsK2, rdsK4, rdsK6, rdsK8, rdsK10, wrsK_nil, wrsK_cons, oneCell_u8, oneCell_u16, oneCell_u32, oneCell_u64, oneCell_i16, oneCell_int, oneCell_bool, oneCell_ptr, oneCell_pointer, oneCell_sl, oneCell_slice, oneCell_string, box_eq, List.all_cons, List.all_nil, Bool.and_self, Ex1_eq, Ex1_and, endQ, resH, res_tmp, res_cell, resC_ptr, tupleOf, Fabg.results112, fa_52_1, ld_5, fa_52_2, call_110, fa_52_3, cv_5_3, fa_57_0, ld_26, ix_26_int, ix_26_u8, ix_26_u16, ix_26_i16, ld_30, k_u64_0, tn_u64_0, call_102, fa_57_1, ld_55, ix_55_int, ix_55_u8, ix_55_u16, ix_55_i16, fa_62_1, ld_23, k_i16_m1, call_156, call_157, call_158, cv_5_23, st_23, fa_62_2, st_5, fa_62_0, ldN_60, call_111, fa_60_1, st_50, call_121, st_30, VC_nil, VC_cons, KC_eq, GrdC_true, vcmC_zero, vcmC_one, vcmC_two, QC_const, QC_and, CB_upd, monoC_eq, hqc, o0, o1, o2, o3, a1, a4', q2, q4, q5, q6, b1, b3', z3, Ne.symm z3, u6, u7, hO6, d1, d2, d4, d5, decide_true, Int.natCast_nonneg, Int.toNat_natCast]
    | refine (cs).use ?_
    | refine (cs).useQ ?_
    | refine (ca).use ?_
    | refine (ca).useQ ?_
    | refine (cr).use ?_
    | refine (cr).useQ ?_
    | refine (cd).use ?_
    | refine (cd).useQ ?_
    | refine (ch).use ?_
    | refine (ch).useQ ?_
    | refine W_drawC bo (id := 8) (by kernel_rfl) [0, 0, 0, 0, 0, 0, 0, 0, 0, 1, 0, 0, 2] (by kernel_rfl) ?_
    | refine W_drawL (id := 11) (by kernel_rfl) [0, 0, 0, 0, 0, 0, 0, 0, 0, 0, 0, 0, 2] (by kernel_rfl) ?_
    | refine Alloc.mono ?_
    | (refine CondW_intro (fun hc => ?_) (fun hc => ?_) <;> (try simp only [Bool.not_eq_true', Bool.not_eq_false'] at hc) <;> (try simp only [hc]))
    | (refine GrdV_intro (fun hc => ?_) (fun hc => ?_) <;> (try simp only [Bool.not_eq_true', Bool.not_eq_false'] at hc) <;> (try simp only [hc]))
    | (refine GrdL_intro (fun hc => ?_) (fun hc => ?_) <;> (try simp only [Bool.not_eq_true', Bool.not_eq_false'] at hc) <;> (try simp only [hc]))))
  have sf : ∀ k : Nat, (op.x.toNat * 10 = op.x.toNat * 10 + (k + 1)) = False := fun k => eq_false (by omega)
  have v0 : (op.x.toNat * 10 < capO * 10) = True := eq_true (by omega)
  have v1 : (op.x.toNat * 10 + 1 < capO * 10) = True := eq_true (by omega)
  have v2 : (op.x.toNat * 10 + 2 < capO * 10) = True := eq_true (by omega)
  have v3 : (op.x.toNat * 10 + 3 < capO * 10) = True := eq_true (by omega)
  have v4 : (op.x.toNat * 10 + 4 < capO * 10) = True := eq_true (by omega)
  have v5 : (op.x.toNat * 10 + 5 < capO * 10) = True := eq_true (by omega)
  have w0 : gO (op.x.toNat * 10) = u8 (S.O op.x.toNat).p.kind := b8 _ 0 hxc (by omega)
  have w1 : gO (op.x.toNat * 10 + 1) = u16 (S.O op.x.toNat).p.at_ := b8 _ 1 hxc (by omega)
  have w2 : gO (op.x.toNat * 10 + 2) = u8 (S.O op.x.toNat).p.data := b8 _ 2 hxc (by omega)
  have w3 : gO (op.x.toNat * 10 + 3) = u8 (S.O op.x.toNat).p.ptrs := b8 _ 3 hxc (by omega)
  have w4 : gO (op.x.toNat * 10 + 4) = u8 (S.O op.x.toNat).p.code := b8 _ 4 hxc (by omega)
  have w5 : gO (op.x.toNat * 10 + 5) = u16 (S.O op.x.toNat).p.count := b8 _ 5 hxc (by omega)
  have cw : ∀ G, Fn Fabg.prog 111 #[pv (S.O op.x.toNat).p] G (fun r H' => r = .bool (wlessB (S.O op.x.toNat).p) ∧ H' = G) := fun G => wordless_ok _ G
  have zo : ba ≠ bo := by
    rintro rfl
    have h := Option.some.inj (a3.symm.trans b3')
    unfold fblk at h
    injection h with _ h2
    exact absurd h2 (by decide)
  have hb1 : rd G1 eb 1 = some (sl bo 0 S.cnt capO) := b1
  cases d7 : wlessB (S.O op.x.toNat).p
  focus
    have eP : adP (S.O op.x.toNat).p at_ = (S.O op.x.toNat).p := by unfold adP; rw [d7]; rfl
    rw [eP] at em
    (repeat' (first
    | simp -implicitDefEqProofs only [WV_seq, WV_cond, WV_block, WV_skip, WV_ret, WV_exit, WV_region, WV_draw, WV_loop, thenQ_normal, thenQ_ret, thenQ_exit, blockQ_normal, blockQ_ret, blockQ_exit, V_nil, V_cons, KV_eq, VL_nil, VL_cons, KL_eq, vcl_zero, vcl_one, vcl_two, isV_same, isV_eq, monoK_eq, dOk, put, gd_none, gd_some, gdst_eq, gdv_some, gdB_true, gdB_false, gdB_undef, ev_const, ev_tmp, lit_i64, lit_i32, lit_bool, lit_pointer, lit_slice, lit_string, CondW_true, CondW_false, GrdV_true, GrdV_false, GrdL_true, GrdL_false, vc_move, vc_assign, vc_load, vc_store, vc_field, vc_indexAddr, vc_index, vc_box, vc_alloc, vc_build, vc_buildSlice, vc_makeSlice, vc_slice, vc_extract, vc_unOp, vc_convert, vc_bin, vc_pick, vc_call, vc_append, vc_len, vc_min, vc_max, vc_copy, vc_clear, pickK_true, pickK_false, stK_eq, not_bool, min_i64, max_i64, min_u16, max_u16, extract_tuple, vc_nil, nilK_ptr, int_add, int_sub, int_mul, int_eql, int_neq, int_lss, int_leq, int_gtr, int_geq, u8_add, u8_sub, u8_mul, u8_eql, u8_neq, u8_lss, u8_leq, u8_gtr, u8_geq, u16_add, u16_sub, u16_mul, u16_eql, u16_neq, u16_lss, u16_leq, u16_gtr, u16_geq, u32_add, u32_sub, u32_mul, u32_eql, u32_neq, u32_lss, u32_leq, u32_gtr, u32_geq, u64_add, u64_sub, u64_mul, u64_eql, u64_neq, u64_lss, u64_leq, u64_gtr, u64_geq, u8_and, u8_or, u8_xor, u8_andNot, u64_and, u64_or, u64_xor, u64_andNot, u8_shl_u8, u8_shl_u16, u8_shl_u64, u32_shl_u8, u32_shl_u16, u32_shl_u64, u64_shl_u8, u64_shl_u16, u64_shl_u64, u8_shr_u8, u8_shr_u16, u8_shr_u64, u64_shr_u8, u64_shr_u16, u64_shr_u64, u16_quo8, u16_rem8, u16_quo64, u16_rem64, u64_quo8, u64_rem8, u64_quo64, u64_rem64, u32_quo8, u32_rem8, u32_quo64, u32_rem64, int_quo2, int_rem2, int_quo8, int_rem8, int_quo64, int_rem64, u64_shrN, u64_shlN, fold64, fold32, i64_shl_u8, i16_eql, i16_neq, i16_lss, i16_geq, Nat.reduceEqDiff, Nat.reduceLT, Nat.reduceAdd, Nat.reduceMul, Nat.reduceSub, ↓reduceIte, if_true, if_false, eq_self, true_and, and_true, Bool.false_eq_true, Bool.not_true, Bool.not_false, reduceCtorEq, upd_get, List.getElem?_toArray, List.getElem?_cons_zero, List.getElem?_cons_succ, Option.bind_some, rdK_some, List.map_toArray, List.map_cons, List.map_nil, rd_upd, rdO_fblk, wrOk_fblk, wrO_fblk, lget_zero, lget_succ, upd_upd, agg_cells, cells_of_list, List.length_cons, List.length_nil, Nat.add_zero, pv_cells, pl_len, pl_0, pl_1, pl_2, pl_3, pl_4, pl_5, pv_fold, pv_eta, ov_eta, opv_eta, ov_cells, ol_len, ov_fold, opv_cells, opl_len, opv_fold, st_pv, st_ov, st_opv, ol_0, ol_1, ol_2, ol_3, ol_4, ol_5, ol_6, ol_7, ol_8, ol_9, opl_0, opl_1, opl_2, opl_3, opl_4, opl_5, opl_6, opl_7, wrsOk_fblk, wrsO_fblk, fblk_all, Nat.reduceLeDiff, Nat.zero_add, rdsK2, rdsK4, rdsK6, rdsK8, rdsK10, wrsK_nil, wrsK_cons, oneCell_u8, oneCell_u16, oneCell_u32, oneCell_u64, oneCell_i16, oneCell_int, oneCell_bool, oneCell_ptr, oneCell_pointer, oneCell_sl, oneCell_slice, oneCell_string, box_eq, List.all_cons, List.all_nil, Bool.and_self, Ex1_eq, Ex1_and, endQ, resH, res_tmp, res_cell, resC_ptr, tupleOf, Fabg.results112, fa_52_1, ld_5, fa_52_2, call_110, fa_52_3, cv_5_3, fa_57_0, ld_26, ix_26_int, ix_26_u8, ix_26_u16, ix_26_i16, ld_30, k_u64_0, tn_u64_0, call_102, fa_57_1, ld_55, ix_55_int, ix_55_u8, ix_55_u16, ix_55_i16, fa_62_1, ld_23, k_i16_m1, call_156, call_157, call_158, cv_5_23, st_23, fa_62_2, st_5, fa_62_0, ldN_60, call_111, fa_60_1, st_50, call_121, st_30, sf, v0, v1, v2, v3, v4, v5, w0, w1, w2, w3, w4, w5, d7, a1, a3, q2, q3, zo, Ne.symm zo, b5, Ne.symm b5, upd_same]
    | refine (wordless_ok _ _).use ?_
    | refine (wordless_ok _ _).useQ ?_
    | refine (pointer_ok _ _ _).use ?_
    | refine (pointer_ok _ _ _).useQ ?_
    | refine W_drawL (id := 11) (by kernel_rfl) [0, 0, 0, 0, 0, 0, 0, 0, 0, 0, 0, 0, 2] (by kernel_rfl) ?_
    | refine Alloc.mono ?_
    | (refine CondW_intro (fun hc => ?_) (fun hc => ?_) <;> (try simp only [Bool.not_eq_true', Bool.not_eq_false'] at hc) <;> (try simp only [hc]))
    | (refine GrdV_intro (fun hc => ?_) (fun hc => ?_) <;> (try simp only [Bool.not_eq_true', Bool.not_eq_false'] at hc) <;> (try simp only [hc]))
    | (refine GrdL_intro (fun hc => ?_) (fun hc => ?_) <;> (try simp only [Bool.not_eq_true', Bool.not_eq_false'] at hc) <;> (try simp only [hc]))))
    have hfin := hb7a.setA h0 (ba := ba) (cap := cap) (len := S.len) (g := gA) (by rw [rd_upd, if_neg (Ne.symm b5)]; exact a1) (by rw [upd_ne _ _ _ _ zo]; exact a3) at_.toNat (pointerL at_ (S.O op.x.toNat).p) hat
    rw [em]
    exact ⟨_, Le.refl _, rfl, hfin.weaken hH0⟩
  rotate_left
  focus
    have eP : adP (S.O op.x.toNat).p at_ = { (S.O op.x.toNat).p with at_ := at_ } := by unfold adP; rw [d7]; rfl
    rw [eP] at em
    have sf1 : ∀ k : Nat, (op.x.toNat * 10 + (k + 1) = op.x.toNat * 10) = False := fun k => eq_false (by omega)
    (repeat' (first
    | simp -implicitDefEqProofs only [WV_seq, WV_cond, WV_block, WV_skip, WV_ret, WV_exit, WV_region, WV_draw, WV_loop, thenQ_normal, thenQ_ret, thenQ_exit, blockQ_normal, blockQ_ret, blockQ_exit, V_nil, V_cons, KV_eq, VL_nil, VL_cons, KL_eq, vcl_zero, vcl_one, vcl_two, isV_same, isV_eq, monoK_eq, dOk, put, gd_none, gd_some, gdst_eq, gdv_some, gdB_true, gdB_false, gdB_undef, ev_const, ev_tmp, lit_i64, lit_i32, lit_bool, lit_pointer, lit_slice, lit_string, CondW_true, CondW_false, GrdV_true, GrdV_false, GrdL_true, GrdL_false, vc_move, vc_assign, vc_load, vc_store, vc_field, vc_indexAddr, vc_index, vc_box, vc_alloc, vc_build, vc_buildSlice, vc_makeSlice, vc_slice, vc_extract, vc_unOp, vc_convert, vc_bin, vc_pick, vc_call, vc_append, vc_len, vc_min, vc_max, vc_copy, vc_clear, pickK_true, pickK_false, stK_eq, not_bool, min_i64, max_i64, min_u16, max_u16, extract_tuple, vc_nil, nilK_ptr, int_add, int_sub, int_mul, int_eql, int_neq, int_lss, int_leq, int_gtr, int_geq, u8_add, u8_sub, u8_mul, u8_eql, u8_neq, u8_lss, u8_leq, u8_gtr, u8_geq, u16_add, u16_sub, u16_mul, u16_eql, u16_neq, u16_lss, u16_leq, u16_gtr, u16_geq, u32_add, u32_sub, u32_mul, u32_eql, u32_neq, u32_lss, u32_leq, u32_gtr, u32_geq, u64_add, u64_sub, u64_mul, u64_eql, u64_neq, u64_lss, u64_leq, u64_gtr, u64_geq, u8_and, u8_or, u8_xor, u8_andNot, u64_and, u64_or, u64_xor, u64_andNot, u8_shl_u8, u8_shl_u16, u8_shl_u64, u32_shl_u8, u32_shl_u16, u32_shl_u64, u64_shl_u8, u64_shl_u16, u64_shl_u64, u8_shr_u8, u8_shr_u16, u8_shr_u64, u64_shr_u8, u64_shr_u16, u64_shr_u64, u16_quo8, u16_rem8, u16_quo64, u16_rem64, u64_quo8, u64_rem8, u64_quo64, u64_rem64, u32_quo8, u32_rem8, u32_quo64, u32_rem64, int_quo2, int_rem2, int_quo8, int_rem8, int_quo64, int_rem64, u64_shrN, u64_shlN, fold64, fold32, i64_shl_u8, i16_eql, i16_neq, i16_lss, i16_geq, Nat.reduceEqDiff, Nat.reduceLT, Nat.reduceAdd, Nat.reduceMul, Nat.reduceSub, ↓reduceIte, if_true, if_false, eq_self, true_and, and_true, Bool.false_eq_true, Bool.not_true, Bool.not_false, reduceCtorEq, upd_get, List.getElem?_toArray, List.getElem?_cons_zero, List.getElem?_cons_succ, Option.bind_some, rdK_some, List.map_toArray, List.map_cons, List.map_nil, rd_upd, rdO_fblk, wrOk_fblk, wrO_fblk, lget_zero, lget_succ, upd_upd, agg_cells, cells_of_list, List.length_cons, List.length_nil, Nat.add_zero, pv_cells, pl_len, pl_0, pl_1, pl_2, pl_3, pl_4, pl_5, pv_fold, pv_eta, ov_eta, opv_eta, ov_cells, ol_len, ov_fold, opv_cells, opl_len, opv_fold, st_pv, st_ov, st_opv, ol_0, ol_1, ol_2, ol_3, ol_4, ol_5, ol_6, ol_7, ol_8, ol_9, opl_0, opl_1, opl_2, opl_3, opl_4, opl_5, opl_6, opl_7, wrsOk_fblk, wrsO_fblk, fblk_all, Nat.reduceLeDiff, Nat.zero_add, rdsK2, rdsK4, rdsK6, rdsK8, rdsK10, wrsK_nil, wrsK_cons, oneCell_u8, oneCell_u16, oneCell_u32, oneCell_u64, oneCell_i16, oneCell_int, oneCell_bool, oneCell_ptr, oneCell_pointer, oneCell_sl, oneCell_slice, oneCell_string, box_eq, List.all_cons, List.all_nil, Bool.and_self, Ex1_eq, Ex1_and, endQ, resH, res_tmp, res_cell, resC_ptr, tupleOf, Fabg.results112, fa_52_1, ld_5, fa_52_2, call_110, fa_52_3, cv_5_3, fa_57_0, ld_26, ix_26_int, ix_26_u8, ix_26_u16, ix_26_i16, ld_30, k_u64_0, tn_u64_0, call_102, fa_57_1, ld_55, ix_55_int, ix_55_u8, ix_55_u16, ix_55_i16, fa_62_1, ld_23, k_i16_m1, call_156, call_157, call_158, cv_5_23, st_23, fa_62_2, st_5, fa_62_0, ldN_60, call_111, fa_60_1, st_50, call_121, st_30, sf, sf1, v0, v1, v2, v3, v4, v5, w0, w1, w2, w3, w4, w5, d7, a1, a3, q2, q3, zo, Ne.symm zo, b5, Ne.symm b5, upd_same]
    | refine (wordless_ok _ _).use ?_
    | refine (wordless_ok _ _).useQ ?_
    | refine (pointer_ok _ _ _).use ?_
    | refine (pointer_ok _ _ _).useQ ?_
    | refine W_drawL (id := 11) (by kernel_rfl) [0, 0, 0, 0, 0, 0, 0, 0, 0, 0, 0, 0, 2] (by kernel_rfl) ?_
    | refine Alloc.mono ?_
    | (refine CondW_intro (fun hc => ?_) (fun hc => ?_) <;> (try simp only [Bool.not_eq_true', Bool.not_eq_false'] at hc) <;> (try simp only [hc]))
    | (refine GrdV_intro (fun hc => ?_) (fun hc => ?_) <;> (try simp only [Bool.not_eq_true', Bool.not_eq_false'] at hc) <;> (try simp only [hc]))
    | (refine GrdL_intro (fun hc => ?_) (fun hc => ?_) <;> (try simp only [Bool.not_eq_true', Bool.not_eq_false'] at hc) <;> (try simp only [hc]))))
    have hfin := hb7b.setA h0 (ba := ba) (cap := cap) (len := S.len) (g := gA) (by rw [rd_upd, if_neg (Ne.symm b5)]; exact a1) (by rw [upd_ne _ _ _ _ zo]; exact a3) at_.toNat (pointerL at_ { (S.O op.x.toNat).p with at_ := at_ }) hat
    rw [em]
    exact ⟨_, Le.refl _, rfl, hfin.weaken hH0⟩
end Eng
end Go.Proofs.Ygcfab
