/-
  Package build: drop.
-/
import Derived.Test.YgcfabBd12
set_option linter.unusedSimpArgs false
set_option linter.unusedVariables false
set_option maxRecDepth 100000
namespace Go.Proofs.Ygcfab
namespace Eng
theorem BdV.poke {H0 G : Heap} {bb : Nat} {v : Nat → Value} {n : Nat → Nat} {f : Nat → Nat → Value} (h : BdV H0 G bb v n f) {b : Nat} (hb : H0 b ≠ none) (y : Obj) : BdV (upd H0 b (some y)) (upd G b (some y)) bb v n f := by
  obtain ⟨o, k1, k2, k3⟩ := h.blk
  have hA : ∀ i c, i < 6 → o i = some c → c ≠ b := fun i c hi hc e => hb (by rw [← e]; exact (k2 i c hi hc).1)
  have hbe : bb ≠ b := fun e => hb (by rw [← e]; exact h.own)
  refine ⟨?_, by rw [upd_ne _ _ _ _ hbe]; exact h.own, o, fun i hi => (k1 i hi).keep (fun c hc => upd_ne _ _ _ _ (hA i c hi hc)), fun i c hi hc => ?_, k3⟩
  · intro c z hz
    by_cases e : c = b
    · subst e; rw [upd_same] at hz ⊢; exact hz
    · rw [upd_ne _ _ _ _ e] at hz ⊢; exact h.le0 c z hz
  · rw [upd_ne _ _ _ _ (hA i c hi hc)]; exact k2 i c hi hc
theorem BdH.poke {H0 G : Heap} {bb : Nat} {n : Nat → Nat} {f : Nat → Nat → Value} (h : BdH H0 G bb n f) {b : Nat} (hb : H0 b ≠ none) (y : Obj) : BdH (upd H0 b (some y)) (upd G b (some y)) bb n f := by
  obtain ⟨v, w, h1, h2⟩ := h.is
  have hbe : bb ≠ b := fun e => hb (by rw [← e]; exact h2.own)
  exact ⟨v, w, by rw [upd_ne _ _ _ _ hbe]; exact h1, h2.poke hb y⟩
theorem ne_of_fresh {H0 G : Heap} {bb : Nat} {n : Nat → Nat} {f : Nat → Nat → Value} (h : BdH H0 G bb n f) {b : Nat} (hb : H0 b ≠ none) : bb ≠ b := by
  obtain ⟨v, w, h1, h2⟩ := h.is
  exact fun e => hb (by rw [← e]; exact h2.own)
section
variable {H0 G : Heap} {bb : Nat} {S : Ed} {P : Nat → Ptr} {up via dep : Nat → UInt8}
theorem BdX.openD (hB : BdX H0 G bb S P up via dep) (h1 : 1 ≤ S.cnt) : ∃ ba cap g, rd G bb 9 = some (sl ba 0 S.cnt cap) ∧ S.cnt ≤ cap ∧ G ba = some (fblk (cap * 1) g 4) ∧ (∀ k, k < S.cnt → rd G ba k = some (.bool (S.O k).dead)) ∧ ba ≠ bb ∧ H0 ba = none ∧
    (∀ k, k < S.cnt → BdX H0 (upd G ba (some (fblk (cap * 1) (upd g k (.bool true)) 4))) bb { S with O := upd S.O k { S.O k with dead := true } } P up via dep) := by
  obtain ⟨v, w, hf, hV⟩ := hB.is
  obtain ⟨ba, cap, g, a1, a2, a3, a4, a5, a6, a7⟩ := hV.wopen 5 (by omega) h1
  have hb : bs 5 = 1 := rfl
  have hn : bnS S 5 = S.cnt := rfl
  rw [hn] at a1 a2 a4
  rw [hb] at a3 a4
  have hg : ∀ i, i < S.cnt → g i = .bool (S.O i).dead := fun i hi => a4 i (by omega)
  refine ⟨ba, cap, g, ?_, a2, a3, fun k hk => ?_, a5, a6, fun k hk => ?_⟩
  · rw [rd_eq, hf, rdO_fblk, if_pos (by omega), bc_9, a1]
  · rw [rd_eq, a3, rdO_fblk, if_pos (by omega), hg k hk]
  · have h7 := a7 (upd g k (.bool true)) (fun j => .bool (upd S.O k { S.O k with dead := true } j).dead) (by
      intro j hj
      have hj' : j < S.cnt := by have : j < S.cnt * 1 := hj; omega
      by_cases e : j = k
      · subst e; rw [upd_same, upd_same]
      · rw [upd_ne _ _ _ _ e, upd_ne _ _ _ _ e]; exact hg j hj')
    have hB2 : BdH H0 (upd G ba (some (fblk (cap * 1) (upd g k (.bool true)) 4))) bb (bnS S) (upd (bfS S P up via dep) 5 (fun j => .bool (upd S.O k { S.O k with dead := true } j).dead)) := ⟨v, w, by rw [upd_ne _ _ _ _ (Ne.symm a5)]; exact hf, h7⟩
    refine hB2.congr (fun j hj => rfl) (fun j hj c hc => ?_)
    rcases six hj with rfl | rfl | rfl | rfl | rfl | rfl <;> rfl
theorem BdX.ne (hB : BdX H0 G bb S P up via dep) (hc : 1 ≤ S.cnt) : ∀ i j b n c b' n' c', 1 ≤ i → i < 6 → 1 ≤ j → j < 6 → i ≠ j → rd G bb (i + 4) = some (sl b 0 n c) → rd G bb (j + 4) = some (sl b' 0 n' c') → b ≠ b' ∧ H0 b = none := by
  intro i j b n c b' n' c' hi hi6 hj hj6 hij hr hr2
  obtain ⟨v, w, hf, hV⟩ := hB.is
  obtain ⟨o, k1, k2, k3⟩ := hV.blk
  have key : ∀ j b n c, 1 ≤ j → j < 6 → rd G bb (j + 4) = some (sl b 0 n c) → o j = some b := by
    intro j b n c hj hj6 hr
    have ej : v j = sl b 0 n c := by
      rw [rd_eq, hf, rdO_fblk, if_pos (by omega)] at hr
      have hr' := Option.some.inj hr
      rcases six hj6 with rfl | rfl | rfl | rfl | rfl | rfl
      · omega
      all_goals exact hr'
    rcases (k1 j hj6).is with ⟨_, z, _⟩ | ⟨bj, capj, gj, p1, _, p2, _⟩
    · have : bnS S j = S.cnt := by unfold bnS; rw [if_neg (by omega)]
      omega
    rw [p2, sl_inj1 (p1.symm.trans ej)]
  have e1 := key i b n c hi hi6 hr
  have e2 := key j b' n' c' hj hj6 hr2
  refine ⟨?_, (k2 i b hi6 e1).1⟩
  rintro rfl
  exact hij (k3 i j b hi6 hj6 e1 e2)
end
set_option maxHeartbeats 2000000 in
theorem bdrop_ok {H0 G : Heap} {bb : Nat} {S : Ed} (hB : BdS H0 G bb S) (g : Gd S) (op : OpR) (hl : Lv S op.h.toNat) :
    Fn Fabg.prog 70 #[ptr bb 0, opv op] G (fun r H' => r = .bool (dropE S op).1 ∧ BdS H0 H' bb (dropE S op).2) := by
  have hlen := g.len
  have hcnt := g.cnt
  refine Fn_of Fabg.func70 rfl Fabg.ntmps70 (by simp) (WV_sound _ _ _ _ ?_)
  rw [argEnv2]
  simp -implicitDefEqProofs only [WV_seq, WV_cond, WV_block, WV_skip, WV_ret, WV_exit, WV_region, WV_draw, WV_loop, thenQ_normal, thenQ_ret, thenQ_exit, blockQ_normal, blockQ_ret, blockQ_exit, V_nil, V_cons, KV_eq, VL_nil, VL_cons, KL_eq, vcl_zero, vcl_one, vcl_two, isV_same, isV_eq, monoK_eq, dOk, put, gd_none, gd_some, gdst_eq, gdv_some, gdB_true, gdB_false, gdB_undef, ev_const, ev_tmp, lit_i64, lit_i32, lit_bool, lit_pointer, lit_slice, lit_string, CondW_true, CondW_false, GrdV_true, GrdV_false, GrdL_true, GrdL_false, vc_move, vc_assign, vc_load, vc_store, vc_field, vc_indexAddr, vc_index, vc_box, vc_alloc, vc_build, vc_buildSlice, vc_makeSlice, vc_slice, vc_extract, vc_unOp, vc_convert, vc_bin, vc_pick, vc_call, vc_append, vc_len, vc_min, vc_max, vc_copy, vc_clear, pickK_true, pickK_false, stK_eq, not_bool, min_i64, max_i64, min_u16, max_u16, extract_tuple, vc_nil, nilK_ptr, int_add, int_sub, int_mul, int_eql, int_neq, int_lss, int_leq, int_gtr, int_geq, u8_add, u8_sub, u8_mul, u8_eql, u8_neq, u8_lss, u8_leq, u8_gtr, u8_geq, u16_add, u16_sub, u16_mul, u16_eql, u16_neq, u16_lss, u16_leq, u16_gtr, u16_geq, u32_add, u32_sub, u32_mul, u32_eql, u32_neq, u32_lss, u32_leq, u32_gtr, u32_geq, u64_add, u64_sub, u64_mul, u64_eql, u64_neq, u64_lss, u64_leq, u64_gtr, u64_geq, u8_and, u8_or, u8_xor, u8_andNot, u64_and, u64_or, u64_xor, u64_andNot, u8_shl_u8, u8_shl_u16, u8_shl_u64, u32_shl_u8, u32_shl_u16, u32_shl_u64, u64_shl_u8, u64_shl_u16, u64_shl_u64, u8_shr_u8, u8_shr_u16, u8_shr_u64, u64_shr_u8, u64_shr_u16, u64_shr_u64, u16_quo8, u16_rem8, u16_quo64, u16_rem64, u64_quo8, u64_rem8, u64_quo64, u64_rem64, u32_quo8, u32_rem8, u32_quo64, u32_rem64, int_quo2, int_rem2, int_quo8, int_rem8, int_quo64, int_rem64, u64_shrN, u64_shlN, fold64, fold32, i64_shl_u8, i16_eql, i16_neq, i16_lss, i16_geq, Nat.reduceEqDiff, Nat.reduceLT, Nat.reduceAdd, Nat.reduceMul, Nat.reduceSub, ↓reduceIte, if_true, if_false, eq_self, true_and, and_true, Bool.false_eq_true, Bool.not_true, Bool.not_false, reduceCtorEq, upd_get, List.getElem?_toArray, List.getElem?_cons_zero, List.getElem?_cons_succ, Option.bind_some, rdK_some, List.map_toArray, List.map_cons, List.map_nil, rd_upd, rdO_fblk, wrOk_fblk, wrO_fblk, lget_zero, lget_succ, upd_upd, agg_cells, cells_of_list, List.length_cons, List.length_nil, Nat.add_zero, pv_cells, pl_len, pl_0, pl_1, pl_2, pl_3, pl_4, pl_5, pv_fold, pv_eta, ov_eta, opv_eta, ov_cells, ol_len, ov_fold, opv_cells, opl_len, opv_fold, st_pv, st_ov, st_opv, ol_0, ol_1, ol_2, ol_3, ol_4, ol_5, ol_6, ol_7, ol_8, ol_9, opl_0, opl_1, opl_2, opl_3, opl_4, opl_5, opl_6, opl_7, wrsOk_fblk, wrsO_fblk, fblk_all, Nat.reduceLeDiff, Nat.zero_add, rdsK2, rdsK4, rdsK6, rdsK8, rdsK10, wrsK_nil, wrsK_cons, oneCell_u8, oneCell_u16, oneCell_u32, oneCell_u64, oneCell_i16, oneCell_int, oneCell_bool, oneCell_ptr, oneCell_pointer, oneCell_sl, oneCell_slice, oneCell_string, box_eq, List.all_cons, List.all_nil, Bool.and_self, Ex1_eq, Ex1_and, endQ, resH, res_tmp, res_cell, resC_ptr, tupleOf, Fabg.results70, fa_52_1, ld_5, fa_52_2, call_132, fa_77_0, ld_26, ix_26_int, ix_26_u8, ix_26_u16, ix_26_i16, ld_30, k_u64_0, tn_u64_0, al_54, fa_77_2, ld_74, len_74, lenS_74, fa_77_3, ld_39, ix_39_int, ix_39_u8, ix_39_u16, ix_39_i16, fa_77_4, fa_77_6, ld_75, ix_75_int, ix_75_u8, ix_75_u16, ix_75_i16, ld_4, ix_54_int, ix_54_u8, ix_54_u16, ix_54_i16, st_4, ix_74_int, ix_74_u8, ix_74_u16, ix_74_i16, ldN_60, call_133, st_30, opv_cells, opl_len]
  refine ⟨fun b3 hb3 => ?_⟩
  have hB1 := hB.rebase hb3 (fblk 8 (lget (opl op)) 52)
  have hH0 : Le H0 (upd H0 b3 (some (fblk 8 (lget (opl op)) 52))) := (Le.refl H0).fresh (le_none hB.le0 hb3) _
  have i3 : upd H0 b3 (some (fblk 8 (lget (opl op)) 52)) b3 = some (fblk 8 (lget (opl op)) 52) := upd_same _ _ _
  generalize upd H0 b3 (some (fblk 8 (lget (opl op)) 52)) = H1 at *
  generalize upd G b3 (some (fblk 8 (lget (opl op)) 52)) = G1 at *
  obtain ⟨o0, o1, o2, o3, o4, o5, o6, o7⟩ := opAt_of (hB1.le0 _ _ i3)
  obtain ⟨P, up, via, dep, hX1, hS⟩ := hB1.is
  obtain ⟨b, c, hR⟩ := BdH.rdr hX1 hlen.1 hcnt.1
  have cs := bslot_ok g hR hS op.h op.i hl
  have em : dropE S op = if (hungB S op.h op.i).2 = false then (false, S) else (true, killE { S with A := upd S.A (slotB S op.h op.i).1.toNat 0 } ((hungB S op.h op.i).1 : Nat)) := rfl
  have hhs := g.hung_slot hl (i := op.i)
  have hsl := slotB_lt S op.h op.i
  have htop := fun hh k k1 hk => g.drop_top hS (i := op.i) hl hh (k := k) k1 hk
  have hkk := hung_is (S := S) (h := op.h) (i := op.i)
  generalize hungB S op.h op.i = hg at *
  generalize slotB S op.h op.i = s at *
  obtain ⟨kk, hb⟩ := hg
  obtain ⟨at_, ok⟩ := s
  simp only [] at cs hhs hsl htop hkk em
  have x0 := hR.r0
  cases ok with
  | false =>
    (repeat' (first
    | simp -implicitDefEqProofs only [WV_seq, WV_cond, WV_block, WV_skip, WV_ret, WV_exit, WV_region, WV_draw, WV_loop, thenQ_normal, thenQ_ret, thenQ_exit, blockQ_normal, blockQ_ret, blockQ_exit, V_nil, V_cons, KV_eq, VL_nil, VL_cons, KL_eq, vcl_zero, vcl_one, vcl_two, isV_same, isV_eq, monoK_eq, dOk, put, gd_none, gd_some, gdst_eq, gdv_some, gdB_true, gdB_false, gdB_undef, ev_const, ev_tmp, lit_i64, lit_i32, lit_bool, lit_pointer, lit_slice, lit_string, CondW_true, CondW_false, GrdV_true, GrdV_false, GrdL_true, GrdL_false, vc_move, vc_assign, vc_load, vc_store, vc_field, vc_indexAddr, vc_index, vc_box, vc_alloc, vc_build, vc_buildSlice, vc_makeSlice, vc_slice, vc_extract, vc_unOp, vc_convert, vc_bin, vc_pick, vc_call, vc_append, vc_len, vc_min, vc_max, vc_copy, vc_clear, pickK_true, pickK_false, stK_eq, not_bool, min_i64, max_i64, min_u16, max_u16, extract_tuple, vc_nil, nilK_ptr, int_add, int_sub, int_mul, int_eql, int_neq, int_lss, int_leq, int_gtr, int_geq, u8_add, u8_sub, u8_mul, u8_eql, u8_neq, u8_lss, u8_leq, u8_gtr, u8_geq, u16_add, u16_sub, u16_mul, u16_eql, u16_neq, u16_lss, u16_leq, u16_gtr, u16_geq, u32_add, u32_sub, u32_mul, u32_eql, u32_neq, u32_lss, u32_leq, u32_gtr, u32_geq, u64_add, u64_sub, u64_mul, u64_eql, u64_neq, u64_lss, u64_leq, u64_gtr, u64_geq, u8_and, u8_or, u8_xor, u8_andNot, u64_and, u64_or, u64_xor, u64_andNot, u8_shl_u8, u8_shl_u16, u8_shl_u64, u32_shl_u8, u32_shl_u16, u32_shl_u64, u64_shl_u8, u64_shl_u16, u64_shl_u64, u8_shr_u8, u8_shr_u16, u8_shr_u64, u64_shr_u8, u64_shr_u16, u64_shr_u64, u16_quo8, u16_rem8, u16_quo64, u16_rem64, u64_quo8, u64_rem8, u64_quo64, u64_rem64, u32_quo8, u32_rem8, u32_quo64, u32_rem64, int_quo2, int_rem2, int_quo8, int_rem8, int_quo64, int_rem64, u64_shrN, u64_shlN, fold64, fold32, i64_shl_u8, i16_eql, i16_neq, i16_lss, i16_geq, Nat.reduceEqDiff, Nat.reduceLT, Nat.reduceAdd, Nat.reduceMul, Nat.reduceSub, ↓reduceIte, if_true, if_false, eq_self, true_and, and_true, Bool.false_eq_true, Bool.not_true, Bool.not_false, reduceCtorEq, upd_get, List.getElem?_toArray, List.getElem?_cons_zero, List.getElem?_cons_succ, Option.bind_some, rdK_some, List.map_toArray, List.map_cons, List.map_nil, rd_upd, rdO_fblk, wrOk_fblk, wrO_fblk, lget_zero, lget_succ, upd_upd, agg_cells, cells_of_list, List.length_cons, List.length_nil, Nat.add_zero, pv_cells, pl_len, pl_0, pl_1, pl_2, pl_3, pl_4, pl_5, pv_fold, pv_eta, ov_eta, opv_eta, ov_cells, ol_len, ov_fold, opv_cells, opl_len, opv_fold, st_pv, st_ov, st_opv, ol_0, ol_1, ol_2, ol_3, ol_4, ol_5, ol_6, ol_7, ol_8, ol_9, opl_0, opl_1, opl_2, opl_3, opl_4, opl_5, opl_6, opl_7, wrsOk_fblk, wrsO_fblk, fblk_all, Nat.reduceLeDiff, Nat.zero_add, rdsK2, rdsK4, rdsK6, rdsK8, rdsK10, wrsK_nil, wrsK_cons, oneCell_u8, oneCell_u16, oneCell_u32, oneCell_u64, oneCell_i16, oneCell_int, oneCell_bool, oneCell_ptr, oneCell_pointer, oneCell_sl, oneCell_slice, oneCell_string, box_eq, List.all_cons, List.all_nil, Bool.and_self, Ex1_eq, Ex1_and, endQ, resH, res_tmp, res_cell, resC_ptr, tupleOf, Fabg.results70, fa_52_1, ld_5, fa_52_2, call_132, fa_77_0, ld_26, ix_26_int, ix_26_u8, ix_26_u16, ix_26_i16, ld_30, k_u64_0, tn_u64_0, al_54, fa_77_2, ld_74, len_74, lenS_74, fa_77_3, ld_39, ix_39_int, ix_39_u8, ix_39_u16, ix_39_i16, fa_77_4, fa_77_6, ld_75, ix_75_int, ix_75_u8, ix_75_u16, ix_75_i16, ld_4, ix_54_int, ix_54_u8, ix_54_u16, ix_54_i16, st_4, ix_74_int, ix_74_u8, ix_74_u16, ix_74_i16, ldN_60, call_133, st_30, o0, o1, o2]
    | refine (cs).use ?_
    | refine (cs).useQ ?_
    | refine W_drawL (id := 9) (by kernel_rfl) [0, 0, 0, 0, 0, 0, 0, 0, 0, 0, 0, 0, 0, 0, 0, 0, 0, 0, 0, 0, 0, 0, 0, 0, 0, 0, 0] (by kernel_rfl) ?_
    | refine Alloc.mono ?_
    | (refine CondW_intro (fun hc => ?_) (fun hc => ?_) <;> (try simp only [Bool.not_eq_true', Bool.not_eq_false'] at hc) <;> (try simp only [hc]))
    | (refine GrdV_intro (fun hc => ?_) (fun hc => ?_) <;> (try simp only [Bool.not_eq_true', Bool.not_eq_false'] at hc) <;> (try simp only [hc]))
    | (refine GrdL_intro (fun hc => ?_) (fun hc => ?_) <;> (try simp only [Bool.not_eq_true', Bool.not_eq_false'] at hc) <;> (try simp only [hc]))))
    have hhs' : hb = false := hhs
    rw [if_pos hhs'] at em
    rw [em]
    exact ⟨_, Le.refl _, rfl, hB1.weaken hH0⟩
  | true =>
  have hat := hsl rfl
  have rA := hR.a _ hat
  have q1 : (at_.toNat < S.len) = True := eq_true hat
  rw [Bool.true_and] at hhs
  cases d1 : (S.A at_.toNat == 0)
  rotate_left
  · have : hb = false := by rw [hhs]; simpa using d1
    (repeat' (first
    | simp -implicitDefEqProofs only [WV_seq, WV_cond, WV_block, WV_skip, WV_ret, WV_exit, WV_region, WV_draw, WV_loop, thenQ_normal, thenQ_ret, thenQ_exit, blockQ_normal, blockQ_ret, blockQ_exit, V_nil, V_cons, KV_eq, VL_nil, VL_cons, KL_eq, vcl_zero, vcl_one, vcl_two, isV_same, isV_eq, monoK_eq, dOk, put, gd_none, gd_some, gdst_eq, gdv_some, gdB_true, gdB_false, gdB_undef, ev_const, ev_tmp, lit_i64, lit_i32, lit_bool, lit_pointer, lit_slice, lit_string, CondW_true, CondW_false, GrdV_true, GrdV_false, GrdL_true, GrdL_false, vc_move, vc_assign, vc_load, vc_store, vc_field, vc_indexAddr, vc_index, vc_box, vc_alloc, vc_build, vc_buildSlice, vc_makeSlice, vc_slice, vc_extract, vc_unOp, vc_convert, vc_bin, vc_pick, vc_call, vc_append, vc_len, vc_min, vc_max, vc_copy, vc_clear, pickK_true, pickK_false, stK_eq, not_bool, min_i64, max_i64, min_u16, max_u16, extract_tuple, vc_nil, nilK_ptr, int_add, int_sub, int_mul, int_eql, int_neq, int_lss, int_leq, int_gtr, int_geq, u8_add, u8_sub, u8_mul, u8_eql, u8_neq, u8_lss, u8_leq, u8_gtr, u8_geq, u16_add, u16_sub, u16_mul, u16_eql, u16_neq, u16_lss, u16_leq, u16_gtr, u16_geq, u32_add, u32_sub, u32_mul, u32_eql, u32_neq, u32_lss, u32_leq, u32_gtr, u32_geq, u64_add, u64_sub, u64_mul, u64_eql, u64_neq, u64_lss, u64_leq, u64_gtr, u64_geq, u8_and, u8_or, u8_xor, u8_andNot, u64_and, u64_or, u64_xor, u64_andNot, u8_shl_u8, u8_shl_u16, u8_shl_u64, u32_shl_u8, u32_shl_u16, u32_shl_u64, u64_shl_u8, u64_shl_u16, u64_shl_u64, u8_shr_u8, u8_shr_u16, u8_shr_u64, u64_shr_u8, u64_shr_u16, u64_shr_u64, u16_quo8, u16_rem8, u16_quo64, u16_rem64, u64_quo8, u64_rem8, u64_quo64, u64_rem64, u32_quo8, u32_rem8, u32_quo64, u32_rem64, int_quo2, int_rem2, int_quo8, int_rem8, int_quo64, int_rem64, u64_shrN, u64_shlN, fold64, fold32, i64_shl_u8, i16_eql, i16_neq, i16_lss, i16_geq, Nat.reduceEqDiff, Nat.reduceLT, Nat.reduceAdd, Nat.reduceMul, Nat.reduceSub, ↓reduceIte, if_true, if_false, eq_self, true_and, and_true, Bool.false_eq_true, Bool.not_true, Bool.not_false, reduceCtorEq, upd_get, List.getElem?_toArray, List.getElem?_cons_zero, List.getElem?_cons_succ, Option.bind_some, rdK_some, List.map_toArray, List.map_cons, List.map_nil, rd_upd, rdO_fblk, wrOk_fblk, wrO_fblk, lget_zero, lget_succ, upd_upd, agg_cells, cells_of_list, List.length_cons, List.length_nil, Nat.add_zero, pv_cells, pl_len, pl_0, pl_1, pl_2, pl_3, pl_4, pl_5, pv_fold, pv_eta, ov_eta, opv_eta, ov_cells, ol_len, ov_fold, opv_cells, opl_len, opv_fold, st_pv, st_ov, st_opv, ol_0, ol_1, ol_2, ol_3, ol_4, ol_5, ol_6, ol_7, ol_8, ol_9, opl_0, opl_1, opl_2, opl_3, opl_4, opl_5, opl_6, opl_7, wrsOk_fblk, wrsO_fblk, fblk_all, Nat.reduceLeDiff, Nat.zero_add, rdsK2, rdsK4, rdsK6, rdsK8, rdsK10, wrsK_nil, wrsK_cons, oneCell_u8, oneCell_u16, oneCell_u32, oneCell_u64, oneCell_i16, oneCell_int, oneCell_bool, oneCell_ptr, oneCell_pointer, oneCell_sl, oneCell_slice, oneCell_string, box_eq, List.all_cons, List.all_nil, Bool.and_self, Ex1_eq, Ex1_and, endQ, resH, res_tmp, res_cell, resC_ptr, tupleOf, Fabg.results70, fa_52_1, ld_5, fa_52_2, call_132, fa_77_0, ld_26, ix_26_int, ix_26_u8, ix_26_u16, ix_26_i16, ld_30, k_u64_0, tn_u64_0, al_54, fa_77_2, ld_74, len_74, lenS_74, fa_77_3, ld_39, ix_39_int, ix_39_u8, ix_39_u16, ix_39_i16, fa_77_4, fa_77_6, ld_75, ix_75_int, ix_75_u8, ix_75_u16, ix_75_i16, ld_4, ix_54_int, ix_54_u8, ix_54_u16, ix_54_i16, st_4, ix_74_int, ix_74_u8, ix_74_u16, ix_74_i16, ldN_60, call_133, st_30, o0, o1, o2, x0, rA, q1, d1, Nat.zero_add]
    | refine (cs).use ?_
    | refine (cs).useQ ?_
    | refine W_drawL (id := 9) (by kernel_rfl) [0, 0, 0, 0, 0, 0, 0, 0, 0, 0, 0, 0, 0, 0, 0, 0, 0, 0, 0, 0, 0, 0, 0, 0, 0, 0, 0] (by kernel_rfl) ?_
    | refine Alloc.mono ?_
    | (refine CondW_intro (fun hc => ?_) (fun hc => ?_) <;> (try simp only [Bool.not_eq_true', Bool.not_eq_false'] at hc) <;> (try simp only [hc]))
    | (refine GrdV_intro (fun hc => ?_) (fun hc => ?_) <;> (try simp only [Bool.not_eq_true', Bool.not_eq_false'] at hc) <;> (try simp only [hc]))
    | (refine GrdL_intro (fun hc => ?_) (fun hc => ?_) <;> (try simp only [Bool.not_eq_true', Bool.not_eq_false'] at hc) <;> (try simp only [hc]))))
    rw [em, if_pos this]
    exact ⟨_, Le.refl _, rfl, hB1.weaken hH0⟩
  have hbt : hb = true := by rw [hhs]; simpa using d1
  subst hbt
  rw [if_neg (by simp)] at em
  have hkk := hkk rfl
  have htop := htop rfl
  (repeat' (first
    | simp -implicitDefEqProofs only [WV_seq, WV_cond, WV_block, WV_skip, WV_ret, WV_exit, WV_region, WV_draw, WV_loop, thenQ_normal, thenQ_ret, thenQ_exit, blockQ_normal, blockQ_ret, blockQ_exit, V_nil, V_cons, KV_eq, VL_nil, VL_cons, KL_eq, vcl_zero, vcl_one, vcl_two, isV_same, isV_eq, monoK_eq, dOk, put, gd_none, gd_some, gdst_eq, gdv_some, gdB_true, gdB_false, gdB_undef, ev_const, ev_tmp, lit_i64, lit_i32, lit_bool, lit_pointer, lit_slice, lit_string, CondW_true, CondW_false, GrdV_true, GrdV_false, GrdL_true, GrdL_false, vc_move, vc_assign, vc_load, vc_store, vc_field, vc_indexAddr, vc_index, vc_box, vc_alloc, vc_build, vc_buildSlice, vc_makeSlice, vc_slice, vc_extract, vc_unOp, vc_convert, vc_bin, vc_pick, vc_call, vc_append, vc_len, vc_min, vc_max, vc_copy, vc_clear, pickK_true, pickK_false, stK_eq, not_bool, min_i64, max_i64, min_u16, max_u16, extract_tuple, vc_nil, nilK_ptr, int_add, int_sub, int_mul, int_eql, int_neq, int_lss, int_leq, int_gtr, int_geq, u8_add, u8_sub, u8_mul, u8_eql, u8_neq, u8_lss, u8_leq, u8_gtr, u8_geq, u16_add, u16_sub, u16_mul, u16_eql, u16_neq, u16_lss, u16_leq, u16_gtr, u16_geq, u32_add, u32_sub, u32_mul, u32_eql, u32_neq, u32_lss, u32_leq, u32_gtr, u32_geq, u64_add, u64_sub, u64_mul, u64_eql, u64_neq, u64_lss, u64_leq, u64_gtr, u64_geq, u8_and, u8_or, u8_xor, u8_andNot, u64_and, u64_or, u64_xor, u64_andNot, u8_shl_u8, u8_shl_u16, u8_shl_u64, u32_shl_u8, u32_shl_u16, u32_shl_u64, u64_shl_u8, u64_shl_u16, u64_shl_u64, u8_shr_u8, u8_shr_u16, u8_shr_u64, u64_shr_u8, u64_shr_u16, u64_shr_u64, u16_quo8, u16_rem8, u16_quo64, u16_rem64, u64_quo8, u64_rem8, u64_quo64, u64_rem64, u32_quo8, u32_rem8, u32_quo64, u32_rem64, int_quo2, int_rem2, int_quo8, int_rem8, int_quo64, int_rem64, u64_shrN, u64_shlN, fold64, fold32, i64_shl_u8, i16_eql, i16_neq, i16_lss, i16_geq, Nat.reduceEqDiff, Nat.reduceLT, Nat.reduceAdd, Nat.reduceMul, Nat.reduceSub, ↓reduceIte, if_true, if_false, eq_self, true_and, and_true, Bool.false_eq_true, Bool.not_true, Bool.not_false, reduceCtorEq, upd_get, List.getElem?_toArray, List.getElem?_cons_zero, List.getElem?_cons_succ, Option.bind_some, rdK_some, List.map_toArray, List.map_cons, List.map_nil, rd_upd, rdO_fblk, wrOk_fblk, wrO_fblk, lget_zero, lget_succ, upd_upd, agg_cells, cells_of_list, List.length_cons, List.length_nil, Nat.add_zero, pv_cells, pl_len, pl_0, pl_1, pl_2, pl_3, pl_4, pl_5, pv_fold, pv_eta, ov_eta, opv_eta, ov_cells, ol_len, ov_fold, opv_cells, opl_len, opv_fold, st_pv, st_ov, st_opv, ol_0, ol_1, ol_2, ol_3, ol_4, ol_5, ol_6, ol_7, ol_8, ol_9, opl_0, opl_1, opl_2, opl_3, opl_4, opl_5, opl_6, opl_7, wrsOk_fblk, wrsO_fblk, fblk_all, Nat.reduceLeDiff, Nat.zero_add, rdsK2, rdsK4, rdsK6, rdsK8, rdsK10, wrsK_nil, wrsK_cons, oneCell_u8, oneCell_u16, oneCell_u32, oneCell_u64, oneCell_i16, oneCell_int, oneCell_bool, oneCell_ptr, oneCell_pointer, oneCell_sl, oneCell_slice, oneCell_string, box_eq, List.all_cons, List.all_nil, Bool.and_self, Ex1_eq, Ex1_and, endQ, resH, res_tmp, res_cell, resC_ptr, tupleOf, Fabg.results70, fa_52_1, ld_5, fa_52_2, call_132, fa_77_0, ld_26, ix_26_int, ix_26_u8, ix_26_u16, ix_26_i16, ld_30, k_u64_0, tn_u64_0, al_54, fa_77_2, ld_74, len_74, lenS_74, fa_77_3, ld_39, ix_39_int, ix_39_u8, ix_39_u16, ix_39_i16, fa_77_4, fa_77_6, ld_75, ix_75_int, ix_75_u8, ix_75_u16, ix_75_i16, ld_4, ix_54_int, ix_54_u8, ix_54_u16, ix_54_i16, st_4, ix_74_int, ix_74_u8, ix_74_u16, ix_74_i16, ldN_60, call_133, st_30, o0, o1, o2, x0, rA, q1, d1, Nat.zero_add]
    | refine (cs).use ?_
    | refine (cs).useQ ?_
    | refine W_drawL (id := 9) (by kernel_rfl) [0, 0, 0, 0, 0, 0, 0, 0, 0, 0, 0, 0, 0, 0, 0, 0, 0, 0, 0, 0, 0, 0, 0, 0, 0, 0, 0] (by kernel_rfl) ?_
    | refine Alloc.mono ?_
    | (refine CondW_intro (fun hc => ?_) (fun hc => ?_) <;> (try simp only [Bool.not_eq_true', Bool.not_eq_false'] at hc) <;> (try simp only [hc]))
    | (refine GrdV_intro (fun hc => ?_) (fun hc => ?_) <;> (try simp only [Bool.not_eq_true', Bool.not_eq_false'] at hc) <;> (try simp only [hc]))
    | (refine GrdL_intro (fun hc => ?_) (fun hc => ?_) <;> (try simp only [Bool.not_eq_true', Bool.not_eq_false'] at hc) <;> (try simp only [hc]))))
  refine ⟨fun bx hbx => ?_⟩
  have hx0 : H1 bx = none := le_none hX1.le0 hbx
  have z3 : b3 ≠ bx := fun e => by rw [← e, i3] at hx0; cases hx0
  have hX2 := BdH.rebase hX1 hbx (gblk (fun _ => false))
  obtain ⟨gn, hgn⟩ : ∃ gn : Nat → Bool, gn = fun k => goneB S (kk : Nat) k := ⟨_, rfl⟩
  have gdead : ∀ k, (S.O k).dead = true → gn k = false := by
    intro k hk
    rw [hgn]
    cases e : goneB S (kk : Nat) k
    · exact e
    · have h' := (gone_lv g e).2
      rw [hk] at h'
      cases h'
  have gstep : ∀ k, 1 ≤ k → Lv S k → gn k = (decide (k = kk) || gn (up k).toNat) := fun k k1 hk => by rw [hgn]; exact g.gone_step hS k1 hk
  have gge : ∀ k, gn k = true → kk ≤ k := fun k h => g.gone_ge hS hkk.1 (k + 1) k (by omega) (by rw [hgn] at h; exact h)
  have g0 : gn 0 = false := by rw [hgn]; exact g.gone_zero hkk.1
  have hX0 : BdX (upd H1 bx (some (gblk (fun c => decide (c < 1) && gn c)))) (upd G1 bx (some (gblk (fun _ => false)))) bb (killK S gn 1) P up via dep := by
    have e : (fun c => decide (c < 1) && gn c) = fun _ => false := by
      funext c
      by_cases h : c < 1
      · rw [show c = 0 by omega, g0]; rfl
      · rw [decide_eq_false h]; rfl
    rw [e]
    refine BdX.congr' hX2 rfl rfl (fun i hi => ?_) (fun k hk => ?_)
    · show S.A i = clrA S gn 1 i
      rw [clrA, if_neg (by rw [g0]; simp)]
      rfl
    · show (S.O k).dead = (delO S gn 1 k).dead
      unfold delO
      rw [if_neg (by rintro ⟨h, h'⟩; rw [show k = 0 by omega, g0] at h'; cases h')]
  (repeat' (first
    | simp -implicitDefEqProofs only [WV_seq, WV_cond, WV_block, WV_skip, WV_ret, WV_exit, WV_region, WV_draw, WV_loop, thenQ_normal, thenQ_ret, thenQ_exit, blockQ_normal, blockQ_ret, blockQ_exit, V_nil, V_cons, KV_eq, VL_nil, VL_cons, KL_eq, vcl_zero, vcl_one, vcl_two, isV_same, isV_eq, monoK_eq, dOk, put, gd_none, gd_some, gdst_eq, gdv_some, gdB_true, gdB_false, gdB_undef, ev_const, ev_tmp, lit_i64, lit_i32, lit_bool, lit_pointer, lit_slice, lit_string, CondW_true, CondW_false, GrdV_true, GrdV_false, GrdL_true, GrdL_false, vc_move, vc_assign, vc_load, vc_store, vc_field, vc_indexAddr, vc_index, vc_box, vc_alloc, vc_build, vc_buildSlice, vc_makeSlice, vc_slice, vc_extract, vc_unOp, vc_convert, vc_bin, vc_pick, vc_call, vc_append, vc_len, vc_min, vc_max, vc_copy, vc_clear, pickK_true, pickK_false, stK_eq, not_bool, min_i64, max_i64, min_u16, max_u16, extract_tuple, vc_nil, nilK_ptr, int_add, int_sub, int_mul, int_eql, int_neq, int_lss, int_leq, int_gtr, int_geq, u8_add, u8_sub, u8_mul, u8_eql, u8_neq, u8_lss, u8_leq, u8_gtr, u8_geq, u16_add, u16_sub, u16_mul, u16_eql, u16_neq, u16_lss, u16_leq, u16_gtr, u16_geq, u32_add, u32_sub, u32_mul, u32_eql, u32_neq, u32_lss, u32_leq, u32_gtr, u32_geq, u64_add, u64_sub, u64_mul, u64_eql, u64_neq, u64_lss, u64_leq, u64_gtr, u64_geq, u8_and, u8_or, u8_xor, u8_andNot, u64_and, u64_or, u64_xor, u64_andNot, u8_shl_u8, u8_shl_u16, u8_shl_u64, u32_shl_u8, u32_shl_u16, u32_shl_u64, u64_shl_u8, u64_shl_u16, u64_shl_u64, u8_shr_u8, u8_shr_u16, u8_shr_u64, u64_shr_u8, u64_shr_u16, u64_shr_u64, u16_quo8, u16_rem8, u16_quo64, u16_rem64, u64_quo8, u64_rem8, u64_quo64, u64_rem64, u32_quo8, u32_rem8, u32_quo64, u32_rem64, int_quo2, int_rem2, int_quo8, int_rem8, int_quo64, int_rem64, u64_shrN, u64_shlN, fold64, fold32, i64_shl_u8, i16_eql, i16_neq, i16_lss, i16_geq, Nat.reduceEqDiff, Nat.reduceLT, Nat.reduceAdd, Nat.reduceMul, Nat.reduceSub, ↓reduceIte, if_true, if_false, eq_self, true_and, and_true, Bool.false_eq_true, Bool.not_true, Bool.not_false, reduceCtorEq, upd_get, List.getElem?_toArray, List.getElem?_cons_zero, List.getElem?_cons_succ, Option.bind_some, rdK_some, List.map_toArray, List.map_cons, List.map_nil, rd_upd, rdO_fblk, wrOk_fblk, wrO_fblk, lget_zero, lget_succ, upd_upd, agg_cells, cells_of_list, List.length_cons, List.length_nil, Nat.add_zero, pv_cells, pl_len, pl_0, pl_1, pl_2, pl_3, pl_4, pl_5, pv_fold, pv_eta, ov_eta, opv_eta, ov_cells, ol_len, ov_fold, opv_cells, opl_len, opv_fold, st_pv, st_ov, st_opv, ol_0, ol_1, ol_2, ol_3, ol_4, ol_5, ol_6, ol_7, ol_8, ol_9, opl_0, opl_1, opl_2, opl_3, opl_4, opl_5, opl_6, opl_7, wrsOk_fblk, wrsO_fblk, fblk_all, Nat.reduceLeDiff, Nat.zero_add, rdsK2, rdsK4, rdsK6, rdsK8, rdsK10, wrsK_nil, wrsK_cons, oneCell_u8, oneCell_u16, oneCell_u32, oneCell_u64, oneCell_i16, oneCell_int, oneCell_bool, oneCell_ptr, oneCell_pointer, oneCell_sl, oneCell_slice, oneCell_string, box_eq, List.all_cons, List.all_nil, Bool.and_self, Ex1_eq, Ex1_and, endQ, resH, res_tmp, res_cell, resC_ptr, tupleOf, Fabg.results70, fa_52_1, ld_5, fa_52_2, call_132, fa_77_0, ld_26, ix_26_int, ix_26_u8, ix_26_u16, ix_26_i16, ld_30, k_u64_0, tn_u64_0, al_54, fa_77_2, ld_74, len_74, lenS_74, fa_77_3, ld_39, ix_39_int, ix_39_u8, ix_39_u16, ix_39_i16, fa_77_4, fa_77_6, ld_75, ix_75_int, ix_75_u8, ix_75_u16, ix_75_i16, ld_4, ix_54_int, ix_54_u8, ix_54_u16, ix_54_i16, st_4, ix_74_int, ix_74_u8, ix_74_u16, ix_74_i16, ldN_60, call_133, st_30]
    | refine W_drawL (id := 9) (by kernel_rfl) [0, 0, 0, 0, 0, 0, 0, 0, 0, 0, 0, 0, 0, 0, 0, 0, 0, 0, 0, 0, 0, 0, 0, 0, 0, 0, 0] (by kernel_rfl) ?_
    | refine Alloc.mono ?_
    | (refine CondW_intro (fun hc => ?_) (fun hc => ?_) <;> (try simp only [Bool.not_eq_true', Bool.not_eq_false'] at hc) <;> (try simp only [hc]))
    | (refine GrdV_intro (fun hc => ?_) (fun hc => ?_) <;> (try simp only [Bool.not_eq_true', Bool.not_eq_false'] at hc) <;> (try simp only [hc]))
    | (refine GrdL_intro (fun hc => ?_) (fun hc => ?_) <;> (try simp only [Bool.not_eq_true', Bool.not_eq_false'] at hc) <;> (try simp only [hc]))))
  generalize hTT : (upd _ _ _ : Env) = T2
  have w0 : T2 0 = ptr bb 0 := by rw [← hTT]; simp [upd_get]
  have w3 : T2 3 = ptr b3 0 := by rw [← hTT]; simp [upd_get]
  have w5 : T2 5 = u16 at_ := by rw [← hTT]; simp [upd_get]
  have w7 : T2 7 = ptr bx 0 := by rw [← hTT]; simp [upd_get]
  have w8 : T2 8 = .bool (decide (kk < 1)) := by rw [← hTT, decide_eq_false (by omega)]; simp [upd_get]
  have w9 : T2 9 = .int .i64 (1 : Nat) := by rw [← hTT]; simp [upd_get]
  clear hTT
  refine W_loopM (fun m T G' => ∃ k : Nat, 1 ≤ k ∧ m + k = S.cnt ∧ BdX (upd H1 bx (some (gblk (fun c => decide (c < k) && gn c)))) G' bb (killK S gn k) P up via dep ∧ T 0 = ptr bb 0 ∧ T 3 = ptr b3 0 ∧ T 5 = u16 at_ ∧ T 7 = ptr bx 0 ∧ T 8 = .bool (decide (kk < k)) ∧ T 9 = .int .i64 (k : Nat))
    (fun T G' => BdX H1 G' bb (killK S gn S.cnt) P up via dep ∧ T 0 = ptr bb 0 ∧ T 5 = u16 at_) ?_ (S.cnt - 1) _ _ ?_ ?_
  · rintro m T G' ⟨k, k1, hmk, hXk, t0, t3, t5, t7, t8, t9⟩
    refine WV_sound _ _ _ _ ?_
    have hHx : Le H1 (upd H1 bx (some (gblk (fun c => decide (c < k) && gn c)))) := (Le.refl H1).fresh hx0 _
    obtain ⟨b', c', hR2⟩ := BdH.rdr hXk hlen.1 hcnt.1
    have r1 : rd G' bb 5 = some (sl (b' 1) 0 S.cnt (c' 1)) := hR2.r1
    by_cases hk : k < S.cnt
    rotate_left
    · have q : decide ((k : Int) < (S.cnt : Int)) = false := decide_eq_false (by omega)
      have ek : k = S.cnt := by omega
      (repeat' (first
    | simp -implicitDefEqProofs only [WV_seq, WV_cond, WV_block, WV_skip, WV_ret, WV_exit, WV_region, WV_draw, WV_loop, thenQ_normal, thenQ_ret, thenQ_exit, blockQ_normal, blockQ_ret, blockQ_exit, V_nil, V_cons, KV_eq, VL_nil, VL_cons, KL_eq, vcl_zero, vcl_one, vcl_two, isV_same, isV_eq, monoK_eq, dOk, put, gd_none, gd_some, gdst_eq, gdv_some, gdB_true, gdB_false, gdB_undef, ev_const, ev_tmp, lit_i64, lit_i32, lit_bool, lit_pointer, lit_slice, lit_string, CondW_true, CondW_false, GrdV_true, GrdV_false, GrdL_true, GrdL_false, vc_move, vc_assign, vc_load, vc_store, vc_field, vc_indexAddr, vc_index, vc_box, vc_alloc, vc_build, vc_buildSlice, vc_makeSlice, vc_slice, vc_extract, vc_unOp, vc_convert, vc_bin, vc_pick, vc_call, vc_append, vc_len, vc_min, vc_max, vc_copy, vc_clear, pickK_true, pickK_false, stK_eq, not_bool, min_i64, max_i64, min_u16, max_u16, extract_tuple, vc_nil, nilK_ptr, int_add, int_sub, int_mul, int_eql, int_neq, int_lss, int_leq, int_gtr, int_geq, u8_add, u8_sub, u8_mul, u8_eql, u8_neq, u8_lss, u8_leq, u8_gtr, u8_geq, u16_add, u16_sub, u16_mul, u16_eql, u16_neq, u16_lss, u16_leq, u16_gtr, u16_geq, u32_add, u32_sub, u32_mul, u32_eql, u32_neq, u32_lss, u32_leq, u32_gtr, u32_geq, u64_add, u64_sub, u64_mul, u64_eql, u64_neq, u64_lss, u64_leq, u64_gtr, u64_geq, u8_and, u8_or, u8_xor, u8_andNot, u64_and, u64_or, u64_xor, u64_andNot, u8_shl_u8, u8_shl_u16, u8_shl_u64, u32_shl_u8, u32_shl_u16, u32_shl_u64, u64_shl_u8, u64_shl_u16, u64_shl_u64, u8_shr_u8, u8_shr_u16, u8_shr_u64, u64_shr_u8, u64_shr_u16, u64_shr_u64, u16_quo8, u16_rem8, u16_quo64, u16_rem64, u64_quo8, u64_rem8, u64_quo64, u64_rem64, u32_quo8, u32_rem8, u32_quo64, u32_rem64, int_quo2, int_rem2, int_quo8, int_rem8, int_quo64, int_rem64, u64_shrN, u64_shlN, fold64, fold32, i64_shl_u8, i16_eql, i16_neq, i16_lss, i16_geq, Nat.reduceEqDiff, Nat.reduceLT, Nat.reduceAdd, Nat.reduceMul, Nat.reduceSub, ↓reduceIte, if_true, if_false, eq_self, true_and, and_true, Bool.false_eq_true, Bool.not_true, Bool.not_false, reduceCtorEq, upd_get, List.getElem?_toArray, List.getElem?_cons_zero, List.getElem?_cons_succ, Option.bind_some, rdK_some, List.map_toArray, List.map_cons, List.map_nil, rd_upd, rdO_fblk, wrOk_fblk, wrO_fblk, lget_zero, lget_succ, upd_upd, agg_cells, cells_of_list, List.length_cons, List.length_nil, Nat.add_zero, pv_cells, pl_len, pl_0, pl_1, pl_2, pl_3, pl_4, pl_5, pv_fold, pv_eta, ov_eta, opv_eta, ov_cells, ol_len, ov_fold, opv_cells, opl_len, opv_fold, st_pv, st_ov, st_opv, ol_0, ol_1, ol_2, ol_3, ol_4, ol_5, ol_6, ol_7, ol_8, ol_9, opl_0, opl_1, opl_2, opl_3, opl_4, opl_5, opl_6, opl_7, wrsOk_fblk, wrsO_fblk, fblk_all, Nat.reduceLeDiff, Nat.zero_add, rdsK2, rdsK4, rdsK6, rdsK8, rdsK10, wrsK_nil, wrsK_cons, oneCell_u8, oneCell_u16, oneCell_u32, oneCell_u64, oneCell_i16, oneCell_int, oneCell_bool, oneCell_ptr, oneCell_pointer, oneCell_sl, oneCell_slice, oneCell_string, box_eq, List.all_cons, List.all_nil, Bool.and_self, Ex1_eq, Ex1_and, endQ, resH, res_tmp, res_cell, resC_ptr, tupleOf, Fabg.results70, fa_52_1, ld_5, fa_52_2, call_132, fa_77_0, ld_26, ix_26_int, ix_26_u8, ix_26_u16, ix_26_i16, ld_30, k_u64_0, tn_u64_0, al_54, fa_77_2, ld_74, len_74, lenS_74, fa_77_3, ld_39, ix_39_int, ix_39_u8, ix_39_u16, ix_39_i16, fa_77_4, fa_77_6, ld_75, ix_75_int, ix_75_u8, ix_75_u16, ix_75_i16, ld_4, ix_54_int, ix_54_u8, ix_54_u16, ix_54_i16, st_4, ix_74_int, ix_74_u8, ix_74_u16, ix_74_i16, ldN_60, call_133, st_30, t0, t3, t5, t7, t8, t9, r1, q]
    | refine W_drawL (id := 9) (by kernel_rfl) [0, 0, 0, 0, 0, 0, 0, 0, 0, 0, 0, 0, 0, 0, 0, 0, 0, 0, 0, 0, 0, 0, 0, 0, 0, 0, 0] (by kernel_rfl) ?_
    | refine Alloc.mono ?_
    | (refine CondW_intro (fun hc => ?_) (fun hc => ?_) <;> (try simp only [Bool.not_eq_true', Bool.not_eq_false'] at hc) <;> (try simp only [hc]))
    | (refine GrdV_intro (fun hc => ?_) (fun hc => ?_) <;> (try simp only [Bool.not_eq_true', Bool.not_eq_false'] at hc) <;> (try simp only [hc]))
    | (refine GrdL_intro (fun hc => ?_) (fun hc => ?_) <;> (try simp only [Bool.not_eq_true', Bool.not_eq_false'] at hc) <;> (try simp only [hc]))))
      rw [← ek]
      exact BdH.weaken hXk hHx
    have q : decide ((k : Int) < (S.cnt : Int)) = true := decide_eq_true (by omega)
    have q5 : ((k : Int) < (S.cnt : Int)) = True := eq_true (by omega)
    have q6 : ((k : Int) < 256) = True := eq_true (by omega)
    have q6' : (k < 256) = True := eq_true (by omega)
    have q7 : w64 ((k : Int) + 1) = ((k + 1 : Nat) : Int) := by rw [w64_id] <;> omega
    have q8 : ((up k).toNat < 256) = True := eq_true (up k).toNat_lt
    obtain ⟨bd, capD, gD, e1, e2, e3, e4, e5, e6, e7⟩ := BdX.openD hXk hcnt.1
    have hOk : (killK S gn k).O k = S.O k := by
      show delO S gn k k = _
      unfold delO
      rw [if_neg (by omega)]
    have e1' : rd G' bb 9 = some (sl bd 0 S.cnt capD) := e1
    have e2' : S.cnt ≤ capD := e2
    have e4' : rd G' bd k = some (.bool (S.O k).dead) := by rw [← hOk]; exact e4 k hk
    have r2 : rd G' bb 6 = some (sl (b' 2) 0 S.cnt (c' 2)) := hR2.r2
    have r3 : rd G' bb 7 = some (sl (b' 3) 0 S.cnt (c' 3)) := hR2.r3
    have ru := hR2.u k hk
    have rv := hR2.v k hk
    have jx : G' bx = some (gblk (fun c => decide (c < k) && gn c)) := hXk.le0 _ _ (upd_same _ _ _)
    have j3 : G' b3 = some (fblk 8 (lget (opl op)) 52) := hXk.le0 _ _ (by rw [upd_ne _ _ _ _ z3]; exact i3)
    obtain ⟨o0, o1, o2, o3, o4, o5, o6, o7⟩ := opAt_of j3
    have hu := hS.up k k1 hk
    have rg : rd G' bx (up k).toNat = some (.bool (gn (up k).toNat)) := by
      rw [rd_eq, jx, gblk_rd, if_pos (up k).toNat_lt, decide_eq_true hu.2.1, Bool.true_and]
    have hnext : gn k = false → BdX (upd H1 bx (some (gblk (fun c => decide (c < k + 1) && gn c)))) G' bb (killK S gn (k + 1)) P up via dep ∧ decide (kk < k) = decide (kk < k + 1) := by
      intro hgk
      have e : (fun c => decide (c < k + 1) && gn c) = fun c => decide (c < k) && gn c := by
        funext c
        by_cases h : c = k
        · rw [h, hgk, Bool.and_false, Bool.and_false]
        · rw [show decide (c < k + 1) = decide (c < k) by rw [decide_eq_decide]; omega]
      have hne : k ≠ kk := by
        rintro rfl
        rw [gstep k k1 ⟨hk, hkk.2.2.1⟩, decide_eq_true rfl] at hgk
        cases hgk
      refine ⟨?_, by rw [decide_eq_decide]; omega⟩
      rw [e]
      refine BdX.congr' hXk rfl rfl (fun i hi => ?_) (fun c hc => ?_)
      · show clrA S gn k i = clrA S gn (k + 1) i
        rw [clrA, if_neg (by rw [hgk]; simp)]
      · show (delO S gn k c).dead = (delO S gn (k + 1) c).dead
        unfold delO
        by_cases e : c = k
        · subst e; rw [if_neg (by omega), if_neg (by rw [hgk]; simp)]
        · by_cases c1 : c < k ∧ gn c = true
          · rw [if_pos c1, if_pos ⟨by omega, c1.2⟩]
          · rw [if_neg c1, if_neg (fun hh => c1 ⟨by omega, hh.2⟩)]
    cases hdk : (S.O k).dead
    rotate_left
    · rw [hdk] at e4'
      obtain ⟨n1, n2⟩ := hnext (gdead k hdk)
      cases c1 : decide (kk < k)
      · cases c2 : (up k == op.h)
        · (repeat' (first
    | simp -implicitDefEqProofs only [WV_seq, WV_cond, WV_block, WV_skip, WV_ret, WV_exit, WV_region, WV_draw, WV_loop, thenQ_normal, thenQ_ret, thenQ_exit, blockQ_normal, blockQ_ret, blockQ_exit, V_nil, V_cons, KV_eq, VL_nil, VL_cons, KL_eq, vcl_zero, vcl_one, vcl_two, isV_same, isV_eq, monoK_eq, dOk, put, gd_none, gd_some, gdst_eq, gdv_some, gdB_true, gdB_false, gdB_undef, ev_const, ev_tmp, lit_i64, lit_i32, lit_bool, lit_pointer, lit_slice, lit_string, CondW_true, CondW_false, GrdV_true, GrdV_false, GrdL_true, GrdL_false, vc_move, vc_assign, vc_load, vc_store, vc_field, vc_indexAddr, vc_index, vc_box, vc_alloc, vc_build, vc_buildSlice, vc_makeSlice, vc_slice, vc_extract, vc_unOp, vc_convert, vc_bin, vc_pick, vc_call, vc_append, vc_len, vc_min, vc_max, vc_copy, vc_clear, pickK_true, pickK_false, stK_eq, not_bool, min_i64, max_i64, min_u16, max_u16, extract_tuple, vc_nil, nilK_ptr, int_add, int_sub, int_mul, int_eql, int_neq, int_lss, int_leq, int_gtr, int_geq, u8_add, u8_sub, u8_mul, u8_eql, u8_neq, u8_lss, u8_leq, u8_gtr, u8_geq, u16_add, u16_sub, u16_mul, u16_eql, u16_neq, u16_lss, u16_leq, u16_gtr, u16_geq, u32_add, u32_sub, u32_mul, u32_eql, u32_neq, u32_lss, u32_leq, u32_gtr, u32_geq, u64_add, u64_sub, u64_mul, u64_eql, u64_neq, u64_lss, u64_leq, u64_gtr, u64_geq, u8_and, u8_or, u8_xor, u8_andNot, u64_and, u64_or, u64_xor, u64_andNot, u8_shl_u8, u8_shl_u16, u8_shl_u64, u32_shl_u8, u32_shl_u16, u32_shl_u64, u64_shl_u8, u64_shl_u16, u64_shl_u64, u8_shr_u8, u8_shr_u16, u8_shr_u64, u64_shr_u8, u64_shr_u16, u64_shr_u64, u16_quo8, u16_rem8, u16_quo64, u16_rem64, u64_quo8, u64_rem8, u64_quo64, u64_rem64, u32_quo8, u32_rem8, u32_quo64, u32_rem64, int_quo2, int_rem2, int_quo8, int_rem8, int_quo64, int_rem64, u64_shrN, u64_shlN, fold64, fold32, i64_shl_u8, i16_eql, i16_neq, i16_lss, i16_geq, Nat.reduceEqDiff, Nat.reduceLT, Nat.reduceAdd, Nat.reduceMul, Nat.reduceSub, ↓reduceIte, if_true, if_false, eq_self, true_and, and_true, Bool.false_eq_true, Bool.not_true, Bool.not_false, reduceCtorEq, upd_get, List.getElem?_toArray, List.getElem?_cons_zero, List.getElem?_cons_succ, Option.bind_some, rdK_some, List.map_toArray, List.map_cons, List.map_nil, rd_upd, rdO_fblk, wrOk_fblk, wrO_fblk, lget_zero, lget_succ, upd_upd, agg_cells, cells_of_list, List.length_cons, List.length_nil, Nat.add_zero, pv_cells, pl_len, pl_0, pl_1, pl_2, pl_3, pl_4, pl_5, pv_fold, pv_eta, ov_eta, opv_eta, ov_cells, ol_len, ov_fold, opv_cells, opl_len, opv_fold, st_pv, st_ov, st_opv, ol_0, ol_1, ol_2, ol_3, ol_4, ol_5, ol_6, ol_7, ol_8, ol_9, opl_0, opl_1, opl_2, opl_3, opl_4, opl_5, opl_6, opl_7, wrsOk_fblk, wrsO_fblk, fblk_all, Nat.reduceLeDiff, Nat.zero_add, rdsK2, rdsK4, rdsK6, rdsK8, rdsK10, wrsK_nil, wrsK_cons, oneCell_u8, oneCell_u16, oneCell_u32, oneCell_u64, oneCell_i16, oneCell_int, oneCell_bool, oneCell_ptr, oneCell_pointer, oneCell_sl, oneCell_slice, oneCell_string, box_eq, List.all_cons, List.all_nil, Bool.and_self, Ex1_eq, Ex1_and, endQ, resH, res_tmp, res_cell, resC_ptr, tupleOf, Fabg.results70, fa_52_1, ld_5, fa_52_2, call_132, fa_77_0, ld_26, ix_26_int, ix_26_u8, ix_26_u16, ix_26_i16, ld_30, k_u64_0, tn_u64_0, al_54, fa_77_2, ld_74, len_74, lenS_74, fa_77_3, ld_39, ix_39_int, ix_39_u8, ix_39_u16, ix_39_i16, fa_77_4, fa_77_6, ld_75, ix_75_int, ix_75_u8, ix_75_u16, ix_75_i16, ld_4, ix_54_int, ix_54_u8, ix_54_u16, ix_54_i16, st_4, ix_74_int, ix_74_u8, ix_74_u16, ix_74_i16, ldN_60, call_133, st_30, t0, t3, t5, t7, t8, t9, r1, r2, r3, ru, rv, e1', e4', o1, o2, q, q5, decide_true, q7, c1, c2, Int.natCast_nonneg, Int.toNat_natCast, Nat.zero_add]
    | refine W_drawL (id := 9) (by kernel_rfl) [0, 0, 0, 0, 0, 0, 0, 0, 0, 0, 0, 0, 0, 0, 0, 0, 0, 0, 0, 0, 0, 0, 0, 0, 0, 0, 0] (by kernel_rfl) ?_
    | refine Alloc.mono ?_
    | (refine CondW_intro (fun hc => ?_) (fun hc => ?_) <;> (try simp only [Bool.not_eq_true', Bool.not_eq_false'] at hc) <;> (try simp only [hc]))
    | (refine GrdV_intro (fun hc => ?_) (fun hc => ?_) <;> (try simp only [Bool.not_eq_true', Bool.not_eq_false'] at hc) <;> (try simp only [hc]))
    | (refine GrdL_intro (fun hc => ?_) (fun hc => ?_) <;> (try simp only [Bool.not_eq_true', Bool.not_eq_false'] at hc) <;> (try simp only [hc]))))
          exact ⟨m - 1, by omega, k + 1, by omega, by omega, n1, by rw [← n2, c1], rfl⟩
        · cases c3 : (via k == op.i)
          · (repeat' (first
    | simp -implicitDefEqProofs only [WV_seq, WV_cond, WV_block, WV_skip, WV_ret, WV_exit, WV_region, WV_draw, WV_loop, thenQ_normal, thenQ_ret, thenQ_exit, blockQ_normal, blockQ_ret, blockQ_exit, V_nil, V_cons, KV_eq, VL_nil, VL_cons, KL_eq, vcl_zero, vcl_one, vcl_two, isV_same, isV_eq, monoK_eq, dOk, put, gd_none, gd_some, gdst_eq, gdv_some, gdB_true, gdB_false, gdB_undef, ev_const, ev_tmp, lit_i64, lit_i32, lit_bool, lit_pointer, lit_slice, lit_string, CondW_true, CondW_false, GrdV_true, GrdV_false, GrdL_true, GrdL_false, vc_move, vc_assign, vc_load, vc_store, vc_field, vc_indexAddr, vc_index, vc_box, vc_alloc, vc_build, vc_buildSlice, vc_makeSlice, vc_slice, vc_extract, vc_unOp, vc_convert, vc_bin, vc_pick, vc_call, vc_append, vc_len, vc_min, vc_max, vc_copy, vc_clear, pickK_true, pickK_false, stK_eq, not_bool, min_i64, max_i64, min_u16, max_u16, extract_tuple, vc_nil, nilK_ptr, int_add, int_sub, int_mul, int_eql, int_neq, int_lss, int_leq, int_gtr, int_geq, u8_add, u8_sub, u8_mul, u8_eql, u8_neq, u8_lss, u8_leq, u8_gtr, u8_geq, u16_add, u16_sub, u16_mul, u16_eql, u16_neq, u16_lss, u16_leq, u16_gtr, u16_geq, u32_add, u32_sub, u32_mul, u32_eql, u32_neq, u32_lss, u32_leq, u32_gtr, u32_geq, u64_add, u64_sub, u64_mul, u64_eql, u64_neq, u64_lss, u64_leq, u64_gtr, u64_geq, u8_and, u8_or, u8_xor, u8_andNot, u64_and, u64_or, u64_xor, u64_andNot, u8_shl_u8, u8_shl_u16, u8_shl_u64, u32_shl_u8, u32_shl_u16, u32_shl_u64, u64_shl_u8, u64_shl_u16, u64_shl_u64, u8_shr_u8, u8_shr_u16, u8_shr_u64, u64_shr_u8, u64_shr_u16, u64_shr_u64, u16_quo8, u16_rem8, u16_quo64, u16_rem64, u64_quo8, u64_rem8, u64_quo64, u64_rem64, u32_quo8, u32_rem8, u32_quo64, u32_rem64, int_quo2, int_rem2, int_quo8, int_rem8, int_quo64, int_rem64, u64_shrN, u64_shlN, fold64, fold32, i64_shl_u8, i16_eql, i16_neq, i16_lss, i16_geq, Nat.reduceEqDiff, Nat.reduceLT, Nat.reduceAdd, Nat.reduceMul, Nat.reduceSub, ↓reduceIte, if_true, if_false, eq_self, true_and, and_true, Bool.false_eq_true, Bool.not_true, Bool.not_false, reduceCtorEq, upd_get, List.getElem?_toArray, List.getElem?_cons_zero, List.getElem?_cons_succ, Option.bind_some, rdK_some, List.map_toArray, List.map_cons, List.map_nil, rd_upd, rdO_fblk, wrOk_fblk, wrO_fblk, lget_zero, lget_succ, upd_upd, agg_cells, cells_of_list, List.length_cons, List.length_nil, Nat.add_zero, pv_cells, pl_len, pl_0, pl_1, pl_2, pl_3, pl_4, pl_5, pv_fold, pv_eta, ov_eta, opv_eta, ov_cells, ol_len, ov_fold, opv_cells, opl_len, opv_fold, st_pv, st_ov, st_opv, ol_0, ol_1, ol_2, ol_3, ol_4, ol_5, ol_6, ol_7, ol_8, ol_9, opl_0, opl_1, opl_2, opl_3, opl_4, opl_5, opl_6, opl_7, wrsOk_fblk, wrsO_fblk, fblk_all, Nat.reduceLeDiff, Nat.zero_add, rdsK2, rdsK4, rdsK6, rdsK8, rdsK10, wrsK_nil, wrsK_cons, oneCell_u8, oneCell_u16, oneCell_u32, oneCell_u64, oneCell_i16, oneCell_int, oneCell_bool, oneCell_ptr, oneCell_pointer, oneCell_sl, oneCell_slice, oneCell_string, box_eq, List.all_cons, List.all_nil, Bool.and_self, Ex1_eq, Ex1_and, endQ, resH, res_tmp, res_cell, resC_ptr, tupleOf, Fabg.results70, fa_52_1, ld_5, fa_52_2, call_132, fa_77_0, ld_26, ix_26_int, ix_26_u8, ix_26_u16, ix_26_i16, ld_30, k_u64_0, tn_u64_0, al_54, fa_77_2, ld_74, len_74, lenS_74, fa_77_3, ld_39, ix_39_int, ix_39_u8, ix_39_u16, ix_39_i16, fa_77_4, fa_77_6, ld_75, ix_75_int, ix_75_u8, ix_75_u16, ix_75_i16, ld_4, ix_54_int, ix_54_u8, ix_54_u16, ix_54_i16, st_4, ix_74_int, ix_74_u8, ix_74_u16, ix_74_i16, ldN_60, call_133, st_30, t0, t3, t5, t7, t8, t9, r1, r2, r3, ru, rv, e1', e4', o1, o2, q, q5, decide_true, q7, c1, c2, c3, Int.natCast_nonneg, Int.toNat_natCast, Nat.zero_add]
    | refine W_drawL (id := 9) (by kernel_rfl) [0, 0, 0, 0, 0, 0, 0, 0, 0, 0, 0, 0, 0, 0, 0, 0, 0, 0, 0, 0, 0, 0, 0, 0, 0, 0, 0] (by kernel_rfl) ?_
    | refine Alloc.mono ?_
    | (refine CondW_intro (fun hc => ?_) (fun hc => ?_) <;> (try simp only [Bool.not_eq_true', Bool.not_eq_false'] at hc) <;> (try simp only [hc]))
    | (refine GrdV_intro (fun hc => ?_) (fun hc => ?_) <;> (try simp only [Bool.not_eq_true', Bool.not_eq_false'] at hc) <;> (try simp only [hc]))
    | (refine GrdL_intro (fun hc => ?_) (fun hc => ?_) <;> (try simp only [Bool.not_eq_true', Bool.not_eq_false'] at hc) <;> (try simp only [hc]))))
            exact ⟨m - 1, by omega, k + 1, by omega, by omega, n1, by rw [← n2, c1], rfl⟩
          · (repeat' (first
    | simp -implicitDefEqProofs only [WV_seq, WV_cond, WV_block, WV_skip, WV_ret, WV_exit, WV_region, WV_draw, WV_loop, thenQ_normal, thenQ_ret, thenQ_exit, blockQ_normal, blockQ_ret, blockQ_exit, V_nil, V_cons, KV_eq, VL_nil, VL_cons, KL_eq, vcl_zero, vcl_one, vcl_two, isV_same, isV_eq, monoK_eq, dOk, put, gd_none, gd_some, gdst_eq, gdv_some, gdB_true, gdB_false, gdB_undef, ev_const, ev_tmp, lit_i64, lit_i32, lit_bool, lit_pointer, lit_slice, lit_string, CondW_true, CondW_false, GrdV_true, GrdV_false, GrdL_true, GrdL_false, vc_move, vc_assign, vc_load, vc_store, vc_field, vc_indexAddr, vc_index, vc_box, vc_alloc, vc_build, vc_buildSlice, vc_makeSlice, vc_slice, vc_extract, vc_unOp, vc_convert, vc_bin, vc_pick, vc_call, vc_append, vc_len, vc_min, vc_max, vc_copy, vc_clear, pickK_true, pickK_false, stK_eq, not_bool, min_i64, max_i64, min_u16, max_u16, extract_tuple, vc_nil, nilK_ptr, int_add, int_sub, int_mul, int_eql, int_neq, int_lss, int_leq, int_gtr, int_geq, u8_add, u8_sub, u8_mul, u8_eql, u8_neq, u8_lss, u8_leq, u8_gtr, u8_geq, u16_add, u16_sub, u16_mul, u16_eql, u16_neq, u16_lss, u16_leq, u16_gtr, u16_geq, u32_add, u32_sub, u32_mul, u32_eql, u32_neq, u32_lss, u32_leq, u32_gtr, u32_geq, u64_add, u64_sub, u64_mul, u64_eql, u64_neq, u64_lss, u64_leq, u64_gtr, u64_geq, u8_and, u8_or, u8_xor, u8_andNot, u64_and, u64_or, u64_xor, u64_andNot, u8_shl_u8, u8_shl_u16, u8_shl_u64, u32_shl_u8, u32_shl_u16, u32_shl_u64, u64_shl_u8, u64_shl_u16, u64_shl_u64, u8_shr_u8, u8_shr_u16, u8_shr_u64, u64_shr_u8, u64_shr_u16, u64_shr_u64, u16_quo8, u16_rem8, u16_quo64, u16_rem64, u64_quo8, u64_rem8, u64_quo64, u64_rem64, u32_quo8, u32_rem8, u32_quo64, u32_rem64, int_quo2, int_rem2, int_quo8, int_rem8, int_quo64, int_rem64, u64_shrN, u64_shlN, fold64, fold32, i64_shl_u8, i16_eql, i16_neq, i16_lss, i16_geq, Nat.reduceEqDiff, Nat.reduceLT, Nat.reduceAdd, Nat.reduceMul, Nat.reduceSub, ↓reduceIte, if_true, if_false, eq_self, true_and, and_true, Bool.false_eq_true, Bool.not_true, Bool.not_false, reduceCtorEq, upd_get, List.getElem?_toArray, List.getElem?_cons_zero, List.getElem?_cons_succ, Option.bind_some, rdK_some, List.map_toArray, List.map_cons, List.map_nil, rd_upd, rdO_fblk, wrOk_fblk, wrO_fblk, lget_zero, lget_succ, upd_upd, agg_cells, cells_of_list, List.length_cons, List.length_nil, Nat.add_zero, pv_cells, pl_len, pl_0, pl_1, pl_2, pl_3, pl_4, pl_5, pv_fold, pv_eta, ov_eta, opv_eta, ov_cells, ol_len, ov_fold, opv_cells, opl_len, opv_fold, st_pv, st_ov, st_opv, ol_0, ol_1, ol_2, ol_3, ol_4, ol_5, ol_6, ol_7, ol_8, ol_9, opl_0, opl_1, opl_2, opl_3, opl_4, opl_5, opl_6, opl_7, wrsOk_fblk, wrsO_fblk, fblk_all, Nat.reduceLeDiff, Nat.zero_add, rdsK2, rdsK4, rdsK6, rdsK8, rdsK10, wrsK_nil, wrsK_cons, oneCell_u8, oneCell_u16, oneCell_u32, oneCell_u64, oneCell_i16, oneCell_int, oneCell_bool, oneCell_ptr, oneCell_pointer, oneCell_sl, oneCell_slice, oneCell_string, box_eq, List.all_cons, List.all_nil, Bool.and_self, Ex1_eq, Ex1_and, endQ, resH, res_tmp, res_cell, resC_ptr, tupleOf, Fabg.results70, fa_52_1, ld_5, fa_52_2, call_132, fa_77_0, ld_26, ix_26_int, ix_26_u8, ix_26_u16, ix_26_i16, ld_30, k_u64_0, tn_u64_0, al_54, fa_77_2, ld_74, len_74, lenS_74, fa_77_3, ld_39, ix_39_int, ix_39_u8, ix_39_u16, ix_39_i16, fa_77_4, fa_77_6, ld_75, ix_75_int, ix_75_u8, ix_75_u16, ix_75_i16, ld_4, ix_54_int, ix_54_u8, ix_54_u16, ix_54_i16, st_4, ix_74_int, ix_74_u8, ix_74_u16, ix_74_i16, ldN_60, call_133, st_30, t0, t3, t5, t7, t8, t9, r1, r2, r3, ru, rv, e1', e4', o1, o2, q, q5, decide_true, q7, c1, c2, c3, Int.natCast_nonneg, Int.toNat_natCast, Nat.zero_add]
    | refine W_drawL (id := 9) (by kernel_rfl) [0, 0, 0, 0, 0, 0, 0, 0, 0, 0, 0, 0, 0, 0, 0, 0, 0, 0, 0, 0, 0, 0, 0, 0, 0, 0, 0] (by kernel_rfl) ?_
    | refine Alloc.mono ?_
    | (refine CondW_intro (fun hc => ?_) (fun hc => ?_) <;> (try simp only [Bool.not_eq_true', Bool.not_eq_false'] at hc) <;> (try simp only [hc]))
    | (refine GrdV_intro (fun hc => ?_) (fun hc => ?_) <;> (try simp only [Bool.not_eq_true', Bool.not_eq_false'] at hc) <;> (try simp only [hc]))
    | (refine GrdL_intro (fun hc => ?_) (fun hc => ?_) <;> (try simp only [Bool.not_eq_true', Bool.not_eq_false'] at hc) <;> (try simp only [hc]))))
            exact ⟨m - 1, by omega, k + 1, by omega, by omega, n1, by rw [← n2, c1], rfl⟩
      · (repeat' (first
    | simp -implicitDefEqProofs only [WV_seq, WV_cond, WV_block, WV_skip, WV_ret, WV_exit, WV_region, WV_draw, WV_loop, thenQ_normal, thenQ_ret, thenQ_exit, blockQ_normal, blockQ_ret, blockQ_exit, V_nil, V_cons, KV_eq, VL_nil, VL_cons, KL_eq, vcl_zero, vcl_one, vcl_two, isV_same, isV_eq, monoK_eq, dOk, put, gd_none, gd_some, gdst_eq, gdv_some, gdB_true, gdB_false, gdB_undef, ev_const, ev_tmp, lit_i64, lit_i32, lit_bool, lit_pointer, lit_slice, lit_string, CondW_true, CondW_false, GrdV_true, GrdV_false, GrdL_true, GrdL_false, vc_move, vc_assign, vc_load, vc_store, vc_field, vc_indexAddr, vc_index, vc_box, vc_alloc, vc_build, vc_buildSlice, vc_makeSlice, vc_slice, vc_extract, vc_unOp, vc_convert, vc_bin, vc_pick, vc_call, vc_append, vc_len, vc_min, vc_max, vc_copy, vc_clear, pickK_true, pickK_false, stK_eq, not_bool, min_i64, max_i64, min_u16, max_u16, extract_tuple, vc_nil, nilK_ptr, int_add, int_sub, int_mul, int_eql, int_neq, int_lss, int_leq, int_gtr, int_geq, u8_add, u8_sub, u8_mul, u8_eql, u8_neq, u8_lss, u8_leq, u8_gtr, u8_geq, u16_add, u16_sub, u16_mul, u16_eql, u16_neq, u16_lss, u16_leq, u16_gtr, u16_geq, u32_add, u32_sub, u32_mul, u32_eql, u32_neq, u32_lss, u32_leq, u32_gtr, u32_geq, u64_add, u64_sub, u64_mul, u64_eql, u64_neq, u64_lss, u64_leq, u64_gtr, u64_geq, u8_and, u8_or, u8_xor, u8_andNot, u64_and, u64_or, u64_xor, u64_andNot, u8_shl_u8, u8_shl_u16, u8_shl_u64, u32_shl_u8, u32_shl_u16, u32_shl_u64, u64_shl_u8, u64_shl_u16, u64_shl_u64, u8_shr_u8, u8_shr_u16, u8_shr_u64, u64_shr_u8, u64_shr_u16, u64_shr_u64, u16_quo8, u16_rem8, u16_quo64, u16_rem64, u64_quo8, u64_rem8, u64_quo64, u64_rem64, u32_quo8, u32_rem8, u32_quo64, u32_rem64, int_quo2, int_rem2, int_quo8, int_rem8, int_quo64, int_rem64, u64_shrN, u64_shlN, fold64, fold32, i64_shl_u8, i16_eql, i16_neq, i16_lss, i16_geq, Nat.reduceEqDiff, Nat.reduceLT, Nat.reduceAdd, Nat.reduceMul, Nat.reduceSub, ↓reduceIte, if_true, if_false, eq_self, true_and, and_true, Bool.false_eq_true, Bool.not_true, Bool.not_false, reduceCtorEq, upd_get, List.getElem?_toArray, List.getElem?_cons_zero, List.getElem?_cons_succ, Option.bind_some, rdK_some, List.map_toArray, List.map_cons, List.map_nil, rd_upd, rdO_fblk, wrOk_fblk, wrO_fblk, lget_zero, lget_succ, upd_upd, agg_cells, cells_of_list, List.length_cons, List.length_nil, Nat.add_zero, pv_cells, pl_len, pl_0, pl_1, pl_2, pl_3, pl_4, pl_5, pv_fold, pv_eta, ov_eta, opv_eta, ov_cells, ol_len, ov_fold, opv_cells, opl_len, opv_fold, st_pv, st_ov, st_opv, ol_0, ol_1, ol_2, ol_3, ol_4, ol_5, ol_6, ol_7, ol_8, ol_9, opl_0, opl_1, opl_2, opl_3, opl_4, opl_5, opl_6, opl_7, wrsOk_fblk, wrsO_fblk, fblk_all, Nat.reduceLeDiff, Nat.zero_add, rdsK2, rdsK4, rdsK6, rdsK8, rdsK10, wrsK_nil, wrsK_cons, oneCell_u8, oneCell_u16, oneCell_u32, oneCell_u64, oneCell_i16, oneCell_int, oneCell_bool, oneCell_ptr, oneCell_pointer, oneCell_sl, oneCell_slice, oneCell_string, box_eq, List.all_cons, List.all_nil, Bool.and_self, Ex1_eq, Ex1_and, endQ, resH, res_tmp, res_cell, resC_ptr, tupleOf, Fabg.results70, fa_52_1, ld_5, fa_52_2, call_132, fa_77_0, ld_26, ix_26_int, ix_26_u8, ix_26_u16, ix_26_i16, ld_30, k_u64_0, tn_u64_0, al_54, fa_77_2, ld_74, len_74, lenS_74, fa_77_3, ld_39, ix_39_int, ix_39_u8, ix_39_u16, ix_39_i16, fa_77_4, fa_77_6, ld_75, ix_75_int, ix_75_u8, ix_75_u16, ix_75_i16, ld_4, ix_54_int, ix_54_u8, ix_54_u16, ix_54_i16, st_4, ix_74_int, ix_74_u8, ix_74_u16, ix_74_i16, ldN_60, call_133, st_30, t0, t3, t5, t7, t8, t9, r1, r2, r3, ru, rv, e1', e4', o1, o2, q, q5, decide_true, q7, c1, Int.natCast_nonneg, Int.toNat_natCast, Nat.zero_add]
    | refine W_drawL (id := 9) (by kernel_rfl) [0, 0, 0, 0, 0, 0, 0, 0, 0, 0, 0, 0, 0, 0, 0, 0, 0, 0, 0, 0, 0, 0, 0, 0, 0, 0, 0] (by kernel_rfl) ?_
    | refine Alloc.mono ?_
    | (refine CondW_intro (fun hc => ?_) (fun hc => ?_) <;> (try simp only [Bool.not_eq_true', Bool.not_eq_false'] at hc) <;> (try simp only [hc]))
    | (refine GrdV_intro (fun hc => ?_) (fun hc => ?_) <;> (try simp only [Bool.not_eq_true', Bool.not_eq_false'] at hc) <;> (try simp only [hc]))
    | (refine GrdL_intro (fun hc => ?_) (fun hc => ?_) <;> (try simp only [Bool.not_eq_true', Bool.not_eq_false'] at hc) <;> (try simp only [hc]))))
        exact ⟨m - 1, by omega, k + 1, by omega, by omega, n1, by rw [← n2, c1], rfl⟩
    rw [hdk] at e4'
    have hlk : Lv S k := ⟨hk, hdk⟩
    have hst := gstep k k1 hlk
    have htk := htop k k1 hlk
    cases hgk : gn k
    · obtain ⟨n1, n2⟩ := hnext hgk
      rw [hgk] at hst
      have hst' := hst.symm
      rw [Bool.or_eq_false_iff, decide_eq_false_iff_not] at hst'
      rw [hst'.2] at rg
      have hno : (up k == op.h) = true → (via k == op.i) = false := by
        intro h
        cases c3 : (via k == op.i)
        · rfl
        · exact absurd (htk.1 ⟨beq_iff_eq.1 h, beq_iff_eq.1 c3⟩) hst'.1
      cases c1 : decide (kk < k)
      · cases c2 : (up k == op.h)
        · (repeat' (first
    | simp -implicitDefEqProofs only [WV_seq, WV_cond, WV_block, WV_skip, WV_ret, WV_exit, WV_region, WV_draw, WV_loop, thenQ_normal, thenQ_ret, thenQ_exit, blockQ_normal, blockQ_ret, blockQ_exit, V_nil, V_cons, KV_eq, VL_nil, VL_cons, KL_eq, vcl_zero, vcl_one, vcl_two, isV_same, isV_eq, monoK_eq, dOk, put, gd_none, gd_some, gdst_eq, gdv_some, gdB_true, gdB_false, gdB_undef, ev_const, ev_tmp, lit_i64, lit_i32, lit_bool, lit_pointer, lit_slice, lit_string, CondW_true, CondW_false, GrdV_true, GrdV_false, GrdL_true, GrdL_false, vc_move, vc_assign, vc_load, vc_store, vc_field, vc_indexAddr, vc_index, vc_box, vc_alloc, vc_build, vc_buildSlice, vc_makeSlice, vc_slice, vc_extract, vc_unOp, vc_convert, vc_bin, vc_pick, vc_call, vc_append, vc_len, vc_min, vc_max, vc_copy, vc_clear, pickK_true, pickK_false, stK_eq, not_bool, min_i64, max_i64, min_u16, max_u16, extract_tuple, vc_nil, nilK_ptr, int_add, int_sub, int_mul, int_eql, int_neq, int_lss, int_leq, int_gtr, int_geq, u8_add, u8_sub, u8_mul, u8_eql, u8_neq, u8_lss, u8_leq, u8_gtr, u8_geq, u16_add, u16_sub, u16_mul, u16_eql, u16_neq, u16_lss, u16_leq, u16_gtr, u16_geq, u32_add, u32_sub, u32_mul, u32_eql, u32_neq, u32_lss, u32_leq, u32_gtr, u32_geq, u64_add, u64_sub, u64_mul, u64_eql, u64_neq, u64_lss, u64_leq, u64_gtr, u64_geq, u8_and, u8_or, u8_xor, u8_andNot, u64_and, u64_or, u64_xor, u64_andNot, u8_shl_u8, u8_shl_u16, u8_shl_u64, u32_shl_u8, u32_shl_u16, u32_shl_u64, u64_shl_u8, u64_shl_u16, u64_shl_u64, u8_shr_u8, u8_shr_u16, u8_shr_u64, u64_shr_u8, u64_shr_u16, u64_shr_u64, u16_quo8, u16_rem8, u16_quo64, u16_rem64, u64_quo8, u64_rem8, u64_quo64, u64_rem64, u32_quo8, u32_rem8, u32_quo64, u32_rem64, int_quo2, int_rem2, int_quo8, int_rem8, int_quo64, int_rem64, u64_shrN, u64_shlN, fold64, fold32, i64_shl_u8, i16_eql, i16_neq, i16_lss, i16_geq, Nat.reduceEqDiff, Nat.reduceLT, Nat.reduceAdd, Nat.reduceMul, Nat.reduceSub, ↓reduceIte, if_true, if_false, eq_self, true_and, and_true, Bool.false_eq_true, Bool.not_true, Bool.not_false, reduceCtorEq, upd_get, List.getElem?_toArray, List.getElem?_cons_zero, List.getElem?_cons_succ, Option.bind_some, rdK_some, List.map_toArray, List.map_cons, List.map_nil, rd_upd, rdO_fblk, wrOk_fblk, wrO_fblk, lget_zero, lget_succ, upd_upd, agg_cells, cells_of_list, List.length_cons, List.length_nil, Nat.add_zero, pv_cells, pl_len, pl_0, pl_1, pl_2, pl_3, pl_4, pl_5, pv_fold, pv_eta, ov_eta, opv_eta, ov_cells, ol_len, ov_fold, opv_cells, opl_len, opv_fold, st_pv, st_ov, st_opv, ol_0, ol_1, ol_2, ol_3, ol_4, ol_5, ol_6, ol_7, ol_8, ol_9, opl_0, opl_1, opl_2, opl_3, opl_4, opl_5, opl_6, opl_7, wrsOk_fblk, wrsO_fblk, fblk_all, Nat.reduceLeDiff, Nat.zero_add, rdsK2, rdsK4, rdsK6, rdsK8, rdsK10, wrsK_nil, wrsK_cons, oneCell_u8, oneCell_u16, oneCell_u32, oneCell_u64, oneCell_i16, oneCell_int, oneCell_bool, oneCell_ptr, oneCell_pointer, oneCell_sl, oneCell_slice, oneCell_string, box_eq, List.all_cons, List.all_nil, Bool.and_self, Ex1_eq, Ex1_and, endQ, resH, res_tmp, res_cell, resC_ptr, tupleOf, Fabg.results70, fa_52_1, ld_5, fa_52_2, call_132, fa_77_0, ld_26, ix_26_int, ix_26_u8, ix_26_u16, ix_26_i16, ld_30, k_u64_0, tn_u64_0, al_54, fa_77_2, ld_74, len_74, lenS_74, fa_77_3, ld_39, ix_39_int, ix_39_u8, ix_39_u16, ix_39_i16, fa_77_4, fa_77_6, ld_75, ix_75_int, ix_75_u8, ix_75_u16, ix_75_i16, ld_4, ix_54_int, ix_54_u8, ix_54_u16, ix_54_i16, st_4, ix_74_int, ix_74_u8, ix_74_u16, ix_74_i16, ldN_60, call_133, st_30, t0, t3, t5, t7, t8, t9, r1, r2, r3, ru, rv, rg, q8, e1', e4', o1, o2, q, q5, decide_true, q7, c1, c2, Int.natCast_nonneg, Int.toNat_natCast, Nat.zero_add]
    | refine W_drawL (id := 9) (by kernel_rfl) [0, 0, 0, 0, 0, 0, 0, 0, 0, 0, 0, 0, 0, 0, 0, 0, 0, 0, 0, 0, 0, 0, 0, 0, 0, 0, 0] (by kernel_rfl) ?_
    | refine Alloc.mono ?_
    | (refine CondW_intro (fun hc => ?_) (fun hc => ?_) <;> (try simp only [Bool.not_eq_true', Bool.not_eq_false'] at hc) <;> (try simp only [hc]))
    | (refine GrdV_intro (fun hc => ?_) (fun hc => ?_) <;> (try simp only [Bool.not_eq_true', Bool.not_eq_false'] at hc) <;> (try simp only [hc]))
    | (refine GrdL_intro (fun hc => ?_) (fun hc => ?_) <;> (try simp only [Bool.not_eq_true', Bool.not_eq_false'] at hc) <;> (try simp only [hc]))))
          exact ⟨m - 1, by omega, k + 1, by omega, by omega, n1, by rw [← n2, c1], rfl⟩
        · have c3 := hno c2
          (repeat' (first
    | simp -implicitDefEqProofs only [WV_seq, WV_cond, WV_block, WV_skip, WV_ret, WV_exit, WV_region, WV_draw, WV_loop, thenQ_normal, thenQ_ret, thenQ_exit, blockQ_normal, blockQ_ret, blockQ_exit, V_nil, V_cons, KV_eq, VL_nil, VL_cons, KL_eq, vcl_zero, vcl_one, vcl_two, isV_same, isV_eq, monoK_eq, dOk, put, gd_none, gd_some, gdst_eq, gdv_some, gdB_true, gdB_false, gdB_undef, ev_const, ev_tmp, lit_i64, lit_i32, lit_bool, lit_pointer, lit_slice, lit_string, CondW_true, CondW_false, GrdV_true, GrdV_false, GrdL_true, GrdL_false, vc_move, vc_assign, vc_load, vc_store, vc_field, vc_indexAddr, vc_index, vc_box, vc_alloc, vc_build, vc_buildSlice, vc_makeSlice, vc_slice, vc_extract, vc_unOp, vc_convert, vc_bin, vc_pick, vc_call, vc_append, vc_len, vc_min, vc_max, vc_copy, vc_clear, pickK_true, pickK_false, stK_eq, not_bool, min_i64, max_i64, min_u16, max_u16, extract_tuple, vc_nil, nilK_ptr, int_add, int_sub, int_mul, int_eql, int_neq, int_lss, int_leq, int_gtr, int_geq, u8_add, u8_sub, u8_mul, u8_eql, u8_neq, u8_lss, u8_leq, u8_gtr, u8_geq, u16_add, u16_sub, u16_mul, u16_eql, u16_neq, u16_lss, u16_leq, u16_gtr, u16_geq, u32_add, u32_sub, u32_mul, u32_eql, u32_neq, u32_lss, u32_leq, u32_gtr, u32_geq, u64_add, u64_sub, u64_mul, u64_eql, u64_neq, u64_lss, u64_leq, u64_gtr, u64_geq, u8_and, u8_or, u8_xor, u8_andNot, u64_and, u64_or, u64_xor, u64_andNot, u8_shl_u8, u8_shl_u16, u8_shl_u64, u32_shl_u8, u32_shl_u16, u32_shl_u64, u64_shl_u8, u64_shl_u16, u64_shl_u64, u8_shr_u8, u8_shr_u16, u8_shr_u64, u64_shr_u8, u64_shr_u16, u64_shr_u64, u16_quo8, u16_rem8, u16_quo64, u16_rem64, u64_quo8, u64_rem8, u64_quo64, u64_rem64, u32_quo8, u32_rem8, u32_quo64, u32_rem64, int_quo2, int_rem2, int_quo8, int_rem8, int_quo64, int_rem64, u64_shrN, u64_shlN, fold64, fold32, i64_shl_u8, i16_eql, i16_neq, i16_lss, i16_geq, Nat.reduceEqDiff, Nat.reduceLT, Nat.reduceAdd, Nat.reduceMul, Nat.reduceSub, ↓reduceIte, if_true, if_false, eq_self, true_and, and_true, Bool.false_eq_true, Bool.not_true, Bool.not_false, reduceCtorEq, upd_get, List.getElem?_toArray, List.getElem?_cons_zero, List.getElem?_cons_succ, Option.bind_some, rdK_some, List.map_toArray, List.map_cons, List.map_nil, rd_upd, rdO_fblk, wrOk_fblk, wrO_fblk, lget_zero, lget_succ, upd_upd, agg_cells, cells_of_list, List.length_cons, List.length_nil, Nat.add_zero, pv_cells, pl_len, pl_0, pl_1, pl_2, pl_3, pl_4, pl_5, pv_fold, pv_eta, ov_eta, opv_eta, ov_cells, ol_len, ov_fold, opv_cells, opl_len, opv_fold, st_pv, st_ov, st_opv, ol_0, ol_1, ol_2, ol_3, ol_4, ol_5, ol_6, ol_7, ol_8, ol_9, opl_0, opl_1, opl_2, opl_3, opl_4, opl_5, opl_6, opl_7, wrsOk_fblk, wrsO_fblk, fblk_all, Nat.reduceLeDiff, Nat.zero_add, rdsK2, rdsK4, rdsK6, rdsK8, rdsK10, wrsK_nil, wrsK_cons, oneCell_u8, oneCell_u16, oneCell_u32, oneCell_u64, oneCell_i16, oneCell_int, oneCell_bool, oneCell_ptr, oneCell_pointer, oneCell_sl, oneCell_slice, oneCell_string, box_eq, List.all_cons, List.all_nil, Bool.and_self, Ex1_eq, Ex1_and, endQ, resH, res_tmp, res_cell, resC_ptr, tupleOf, Fabg.results70, fa_52_1, ld_5, fa_52_2, call_132, fa_77_0, ld_26, ix_26_int, ix_26_u8, ix_26_u16, ix_26_i16, ld_30, k_u64_0, tn_u64_0, al_54, fa_77_2, ld_74, len_74, lenS_74, fa_77_3, ld_39, ix_39_int, ix_39_u8, ix_39_u16, ix_39_i16, fa_77_4, fa_77_6, ld_75, ix_75_int, ix_75_u8, ix_75_u16, ix_75_i16, ld_4, ix_54_int, ix_54_u8, ix_54_u16, ix_54_i16, st_4, ix_74_int, ix_74_u8, ix_74_u16, ix_74_i16, ldN_60, call_133, st_30, t0, t3, t5, t7, t8, t9, r1, r2, r3, ru, rv, rg, q8, e1', e4', o1, o2, q, q5, decide_true, q7, c1, c2, c3, Int.natCast_nonneg, Int.toNat_natCast, Nat.zero_add]
    | refine W_drawL (id := 9) (by kernel_rfl) [0, 0, 0, 0, 0, 0, 0, 0, 0, 0, 0, 0, 0, 0, 0, 0, 0, 0, 0, 0, 0, 0, 0, 0, 0, 0, 0] (by kernel_rfl) ?_
    | refine Alloc.mono ?_
    | (refine CondW_intro (fun hc => ?_) (fun hc => ?_) <;> (try simp only [Bool.not_eq_true', Bool.not_eq_false'] at hc) <;> (try simp only [hc]))
    | (refine GrdV_intro (fun hc => ?_) (fun hc => ?_) <;> (try simp only [Bool.not_eq_true', Bool.not_eq_false'] at hc) <;> (try simp only [hc]))
    | (refine GrdL_intro (fun hc => ?_) (fun hc => ?_) <;> (try simp only [Bool.not_eq_true', Bool.not_eq_false'] at hc) <;> (try simp only [hc]))))
          exact ⟨m - 1, by omega, k + 1, by omega, by omega, n1, by rw [← n2, c1], rfl⟩
      · (repeat' (first
    | simp -implicitDefEqProofs only [WV_seq, WV_cond, WV_block, WV_skip, WV_ret, WV_exit, WV_region, WV_draw, WV_loop, thenQ_normal, thenQ_ret, thenQ_exit, blockQ_normal, blockQ_ret, blockQ_exit, V_nil, V_cons, KV_eq, VL_nil, VL_cons, KL_eq, vcl_zero, vcl_one, vcl_two, isV_same, isV_eq, monoK_eq, dOk, put, gd_none, gd_some, gdst_eq, gdv_some, gdB_true, gdB_false, gdB_undef, ev_const, ev_tmp, lit_i64, lit_i32, lit_bool, lit_pointer, lit_slice, lit_string, CondW_true, CondW_false, GrdV_true, GrdV_false, GrdL_true, GrdL_false, vc_move, vc_assign, vc_load, vc_store, vc_field, vc_indexAddr, vc_index, vc_box, vc_alloc, vc_build, vc_buildSlice, vc_makeSlice, vc_slice, vc_extract, vc_unOp, vc_convert, vc_bin, vc_pick, vc_call, vc_append, vc_len, vc_min, vc_max, vc_copy, vc_clear, pickK_true, pickK_false, stK_eq, not_bool, min_i64, max_i64, min_u16, max_u16, extract_tuple, vc_nil, nilK_ptr, int_add, int_sub, int_mul, int_eql, int_neq, int_lss, int_leq, int_gtr, int_geq, u8_add, u8_sub, u8_mul, u8_eql, u8_neq, u8_lss, u8_leq, u8_gtr, u8_geq, u16_add, u16_sub, u16_mul, u16_eql, u16_neq, u16_lss, u16_leq, u16_gtr, u16_geq, u32_add, u32_sub, u32_mul, u32_eql, u32_neq, u32_lss, u32_leq, u32_gtr, u32_geq, u64_add, u64_sub, u64_mul, u64_eql, u64_neq, u64_lss, u64_leq, u64_gtr, u64_geq, u8_and, u8_or, u8_xor, u8_andNot, u64_and, u64_or, u64_xor, u64_andNot, u8_shl_u8, u8_shl_u16, u8_shl_u64, u32_shl_u8, u32_shl_u16, u32_shl_u64, u64_shl_u8, u64_shl_u16, u64_shl_u64, u8_shr_u8, u8_shr_u16, u8_shr_u64, u64_shr_u8, u64_shr_u16, u64_shr_u64, u16_quo8, u16_rem8, u16_quo64, u16_rem64, u64_quo8, u64_rem8, u64_quo64, u64_rem64, u32_quo8, u32_rem8, u32_quo64, u32_rem64, int_quo2, int_rem2, int_quo8, int_rem8, int_quo64, int_rem64, u64_shrN, u64_shlN, fold64, fold32, i64_shl_u8, i16_eql, i16_neq, i16_lss, i16_geq, Nat.reduceEqDiff, Nat.reduceLT, Nat.reduceAdd, Nat.reduceMul, Nat.reduceSub, ↓reduceIte, if_true, if_false, eq_self, true_and, and_true, Bool.false_eq_true, Bool.not_true, Bool.not_false, reduceCtorEq, upd_get, List.getElem?_toArray, List.getElem?_cons_zero, List.getElem?_cons_succ, Option.bind_some, rdK_some, List.map_toArray, List.map_cons, List.map_nil, rd_upd, rdO_fblk, wrOk_fblk, wrO_fblk, lget_zero, lget_succ, upd_upd, agg_cells, cells_of_list, List.length_cons, List.length_nil, Nat.add_zero, pv_cells, pl_len, pl_0, pl_1, pl_2, pl_3, pl_4, pl_5, pv_fold, pv_eta, ov_eta, opv_eta, ov_cells, ol_len, ov_fold, opv_cells, opl_len, opv_fold, st_pv, st_ov, st_opv, ol_0, ol_1, ol_2, ol_3, ol_4, ol_5, ol_6, ol_7, ol_8, ol_9, opl_0, opl_1, opl_2, opl_3, opl_4, opl_5, opl_6, opl_7, wrsOk_fblk, wrsO_fblk, fblk_all, Nat.reduceLeDiff, Nat.zero_add, rdsK2, rdsK4, rdsK6, rdsK8, rdsK10, wrsK_nil, wrsK_cons, oneCell_u8, oneCell_u16, oneCell_u32, oneCell_u64, oneCell_i16, oneCell_int, oneCell_bool, oneCell_ptr, oneCell_pointer, oneCell_sl, oneCell_slice, oneCell_string, box_eq, List.all_cons, List.all_nil, Bool.and_self, Ex1_eq, Ex1_and, endQ, resH, res_tmp, res_cell, resC_ptr, tupleOf, Fabg.results70, fa_52_1, ld_5, fa_52_2, call_132, fa_77_0, ld_26, ix_26_int, ix_26_u8, ix_26_u16, ix_26_i16, ld_30, k_u64_0, tn_u64_0, al_54, fa_77_2, ld_74, len_74, lenS_74, fa_77_3, ld_39, ix_39_int, ix_39_u8, ix_39_u16, ix_39_i16, fa_77_4, fa_77_6, ld_75, ix_75_int, ix_75_u8, ix_75_u16, ix_75_i16, ld_4, ix_54_int, ix_54_u8, ix_54_u16, ix_54_i16, st_4, ix_74_int, ix_74_u8, ix_74_u16, ix_74_i16, ldN_60, call_133, st_30, t0, t3, t5, t7, t8, t9, r1, r2, r3, ru, rv, rg, q8, e1', e4', o1, o2, q, q5, decide_true, q7, c1, Int.natCast_nonneg, Int.toNat_natCast, Nat.zero_add]
    | refine W_drawL (id := 9) (by kernel_rfl) [0, 0, 0, 0, 0, 0, 0, 0, 0, 0, 0, 0, 0, 0, 0, 0, 0, 0, 0, 0, 0, 0, 0, 0, 0, 0, 0] (by kernel_rfl) ?_
    | refine Alloc.mono ?_
    | (refine CondW_intro (fun hc => ?_) (fun hc => ?_) <;> (try simp only [Bool.not_eq_true', Bool.not_eq_false'] at hc) <;> (try simp only [hc]))
    | (refine GrdV_intro (fun hc => ?_) (fun hc => ?_) <;> (try simp only [Bool.not_eq_true', Bool.not_eq_false'] at hc) <;> (try simp only [hc]))
    | (refine GrdL_intro (fun hc => ?_) (fun hc => ?_) <;> (try simp only [Bool.not_eq_true', Bool.not_eq_false'] at hc) <;> (try simp only [hc]))))
        exact ⟨m - 1, by omega, k + 1, by omega, by omega, n1, by rw [← n2, c1], rfl⟩
    have hge := gge k hgk
    have n2 : decide (kk < k + 1) = true := decide_eq_true (by omega)
    have hp := hR2.p k hk
    have p0 : rd G' (b' 1) (k * 6) = some (u8 (P k).kind) := hp 0 (by omega)
    have p1 : rd G' (b' 1) (k * 6 + 1) = some (u16 (P k).at_) := hp 1 (by omega)
    have p2 : rd G' (b' 1) (k * 6 + 2) = some (u8 (P k).data) := hp 2 (by omega)
    have p3 : rd G' (b' 1) (k * 6 + 3) = some (u8 (P k).ptrs) := hp 3 (by omega)
    have p4 : rd G' (b' 1) (k * 6 + 4) = some (u8 (P k).code) := hp 4 (by omega)
    have p5 : rd G' (b' 1) (k * 6 + 5) = some (u16 (P k).count) := hp 5 (by omega)
    obtain ⟨y1, y2⟩ := BdX.ne hXk hcnt.1 1 5 _ _ _ _ _ _ (by omega) (by omega) (by omega) (by omega) (by omega) r1 e1'
    have hbx' : upd H1 bx (some (gblk (fun c => decide (c < k) && gn c))) bx ≠ none := by rw [upd_same]; simp
    have y3 : b' 1 ≠ bx := fun e => by rw [e] at y2; exact hbx' y2
    have y4 : bd ≠ bx := fun e => by rw [e] at e6; exact hbx' e6
    have y5 : bb ≠ bx := ne_of_fresh hXk hbx'
    have q9 : (k < capD * 1) = True := eq_true (by omega)
    have hX4 := BdH.poke (e7 k hk) hbx' (gblk (fun c => decide (c < k + 1) && gn c))
    rw [upd_upd, upd_comm _ _ _ _ _ y4] at hX4
    have egb : gblk (upd (fun c => decide (c < k) && gn c) k true) = gblk (fun c => decide (c < k + 1) && gn c) := by
      congr 1
      funext c
      rw [upd_get]
      by_cases h : c = k
      · rw [if_pos h, h, hgk, decide_eq_true (by omega)]; rfl
      · rw [if_neg h, show decide (c < k + 1) = decide (c < k) by rw [decide_eq_decide]; omega]
    cases c1 : decide (kk < k)
    rotate_left
    focus
      have hgu : gn (up k).toNat = true := by
        rw [hgk, decide_eq_false (by have := of_decide_eq_true c1; omega), Bool.false_or] at hst
        exact hst.symm
      rw [hgu] at rg
      (repeat' (first
    | simp -implicitDefEqProofs only [WV_seq, WV_cond, WV_block, WV_skip, WV_ret, WV_exit, WV_region, WV_draw, WV_loop, thenQ_normal, thenQ_ret, thenQ_exit, blockQ_normal, blockQ_ret, blockQ_exit, V_nil, V_cons, KV_eq, VL_nil, VL_cons, KL_eq, vcl_zero, vcl_one, vcl_two, isV_same, isV_eq, monoK_eq, dOk, put, gd_none, gd_some, gdst_eq, gdv_some, gdB_true, gdB_false, gdB_undef, ev_const, ev_tmp, lit_i64, lit_i32, lit_bool, lit_pointer, lit_slice, lit_string, CondW_true, CondW_false, GrdV_true, GrdV_false, GrdL_true, GrdL_false, vc_move, vc_assign, vc_load, vc_store, vc_field, vc_indexAddr, vc_index, vc_box, vc_alloc, vc_build, vc_buildSlice, vc_makeSlice, vc_slice, vc_extract, vc_unOp, vc_convert, vc_bin, vc_pick, vc_call, vc_append, vc_len, vc_min, vc_max, vc_copy, vc_clear, pickK_true, pickK_false, stK_eq, not_bool, min_i64, max_i64, min_u16, max_u16, extract_tuple, vc_nil, nilK_ptr, int_add, int_sub, int_mul, int_eql, int_neq, int_lss, int_leq, int_gtr, int_geq, u8_add, u8_sub, u8_mul, u8_eql, u8_neq, u8_lss, u8_leq, u8_gtr, u8_geq, u16_add, u16_sub, u16_mul, u16_eql, u16_neq, u16_lss, u16_leq, u16_gtr, u16_geq, u32_add, u32_sub, u32_mul, u32_eql, u32_neq, u32_lss, u32_leq, u32_gtr, u32_geq, u64_add, u64_sub, u64_mul, u64_eql, u64_neq, u64_lss, u64_leq, u64_gtr, u64_geq, u8_and, u8_or, u8_xor, u8_andNot, u64_and, u64_or, u64_xor, u64_andNot, u8_shl_u8, u8_shl_u16, u8_shl_u64, u32_shl_u8, u32_shl_u16, u32_shl_u64, u64_shl_u8, u64_shl_u16, u64_shl_u64, u8_shr_u8, u8_shr_u16, u8_shr_u64, u64_shr_u8, u64_shr_u16, u64_shr_u64, u16_quo8, u16_rem8, u16_quo64, u16_rem64, u64_quo8, u64_rem8, u64_quo64, u64_rem64, u32_quo8, u32_rem8, u32_quo64, u32_rem64, int_quo2, int_rem2, int_quo8, int_rem8, int_quo64, int_rem64, u64_shrN, u64_shlN, fold64, fold32, i64_shl_u8, i16_eql, i16_neq, i16_lss, i16_geq, Nat.reduceEqDiff, Nat.reduceLT, Nat.reduceAdd, Nat.reduceMul, Nat.reduceSub, ↓reduceIte, if_true, if_false, eq_self, true_and, and_true, Bool.false_eq_true, Bool.not_true, Bool.not_false, reduceCtorEq, upd_get, List.getElem?_toArray, List.getElem?_cons_zero, List.getElem?_cons_succ, Option.bind_some, rdK_some, List.map_toArray, List.map_cons, List.map_nil, rd_upd, rdO_fblk, wrOk_fblk, wrO_fblk, lget_zero, lget_succ, upd_upd, agg_cells, cells_of_list, List.length_cons, List.length_nil, Nat.add_zero, pv_cells, pl_len, pl_0, pl_1, pl_2, pl_3, pl_4, pl_5, pv_fold, pv_eta, ov_eta, opv_eta, ov_cells, ol_len, ov_fold, opv_cells, opl_len, opv_fold, st_pv, st_ov, st_opv, ol_0, ol_1, ol_2, ol_3, ol_4, ol_5, ol_6, ol_7, ol_8, ol_9, opl_0, opl_1, opl_2, opl_3, opl_4, opl_5, opl_6, opl_7, wrsOk_fblk, wrsO_fblk, fblk_all, Nat.reduceLeDiff, Nat.zero_add, rdsK2, rdsK4, rdsK6, rdsK8, rdsK10, wrsK_nil, wrsK_cons, oneCell_u8, oneCell_u16, oneCell_u32, oneCell_u64, oneCell_i16, oneCell_int, oneCell_bool, oneCell_ptr, oneCell_pointer, oneCell_sl, oneCell_slice, oneCell_string, box_eq, List.all_cons, List.all_nil, Bool.and_self, Ex1_eq, Ex1_and, endQ, resH, res_tmp, res_cell, resC_ptr, tupleOf, Fabg.results70, fa_52_1, ld_5, fa_52_2, call_132, fa_77_0, ld_26, ix_26_int, ix_26_u8, ix_26_u16, ix_26_i16, ld_30, k_u64_0, tn_u64_0, al_54, fa_77_2, ld_74, len_74, lenS_74, fa_77_3, ld_39, ix_39_int, ix_39_u8, ix_39_u16, ix_39_i16, fa_77_4, fa_77_6, ld_75, ix_75_int, ix_75_u8, ix_75_u16, ix_75_i16, ld_4, ix_54_int, ix_54_u8, ix_54_u16, ix_54_i16, st_4, ix_74_int, ix_74_u8, ix_74_u16, ix_74_i16, ldN_60, call_133, st_30, t0, t3, t5, t7, t8, t9, r1, r2, r3, ru, rv, rg, q8, e1', e4', o1, o2, q, q5, decide_true, q6, q7, q9, c1, jx, e3, gblk_wr, gblk_wrOk, q6', egb, y1, y3, y4, y5, e5, Ne.symm y4, Ne.symm y5, Ne.symm e5, p0, p1, p2, p3, p4, p5, Int.natCast_nonneg, Int.toNat_natCast, Nat.zero_add]
    | refine W_drawL (id := 9) (by kernel_rfl) [0, 0, 0, 0, 0, 0, 0, 0, 0, 0, 0, 0, 0, 0, 0, 0, 0, 0, 0, 0, 0, 0, 0, 0, 0, 0, 0] (by kernel_rfl) ?_
    | refine Alloc.mono ?_
    | (refine CondW_intro (fun hc => ?_) (fun hc => ?_) <;> (try simp only [Bool.not_eq_true', Bool.not_eq_false'] at hc) <;> (try simp only [hc]))
    | (refine GrdV_intro (fun hc => ?_) (fun hc => ?_) <;> (try simp only [Bool.not_eq_true', Bool.not_eq_false'] at hc) <;> (try simp only [hc]))
    | (refine GrdL_intro (fun hc => ?_) (fun hc => ?_) <;> (try simp only [Bool.not_eq_true', Bool.not_eq_false'] at hc) <;> (try simp only [hc]))))
    rotate_left
    focus
      have ekk : k = kk := by have := of_decide_eq_false c1; omega
      have c2 : (up k == op.h) = true := beq_iff_eq.2 (htk.2 ekk).1
      have c3 : (via k == op.i) = true := beq_iff_eq.2 (htk.2 ekk).2
      (repeat' (first
    | simp -implicitDefEqProofs only [WV_seq, WV_cond, WV_block, WV_skip, WV_ret, WV_exit, WV_region, WV_draw, WV_loop, thenQ_normal, thenQ_ret, thenQ_exit, blockQ_normal, blockQ_ret, blockQ_exit, V_nil, V_cons, KV_eq, VL_nil, VL_cons, KL_eq, vcl_zero, vcl_one, vcl_two, isV_same, isV_eq, monoK_eq, dOk, put, gd_none, gd_some, gdst_eq, gdv_some, gdB_true, gdB_false, gdB_undef, ev_const, ev_tmp, lit_i64, lit_i32, lit_bool, lit_pointer, lit_slice, lit_string, CondW_true, CondW_false, GrdV_true, GrdV_false, GrdL_true, GrdL_false, vc_move, vc_assign, vc_load, vc_store, vc_field, vc_indexAddr, vc_index, vc_box, vc_alloc, vc_build, vc_buildSlice, vc_makeSlice, vc_slice, vc_extract, vc_unOp, vc_convert, vc_bin, vc_pick, vc_call, vc_append, vc_len, vc_min, vc_max, vc_copy, vc_clear, pickK_true, pickK_false, stK_eq, not_bool, min_i64, max_i64, min_u16, max_u16, extract_tuple, vc_nil, nilK_ptr, int_add, int_sub, int_mul, int_eql, int_neq, int_lss, int_leq, int_gtr, int_geq, u8_add, u8_sub, u8_mul, u8_eql, u8_neq, u8_lss, u8_leq, u8_gtr, u8_geq, u16_add, u16_sub, u16_mul, u16_eql, u16_neq, u16_lss, u16_leq, u16_gtr, u16_geq, u32_add, u32_sub, u32_mul, u32_eql, u32_neq, u32_lss, u32_leq, u32_gtr, u32_geq, u64_add, u64_sub, u64_mul, u64_eql, u64_neq, u64_lss, u64_leq, u64_gtr, u64_geq, u8_and, u8_or, u8_xor, u8_andNot, u64_and, u64_or, u64_xor, u64_andNot, u8_shl_u8, u8_shl_u16, u8_shl_u64, u32_shl_u8, u32_shl_u16, u32_shl_u64, u64_shl_u8, u64_shl_u16, u64_shl_u64, u8_shr_u8, u8_shr_u16, u8_shr_u64, u64_shr_u8, u64_shr_u16, u64_shr_u64, u16_quo8, u16_rem8, u16_quo64, u16_rem64, u64_quo8, u64_rem8, u64_quo64, u64_rem64, u32_quo8, u32_rem8, u32_quo64, u32_rem64, int_quo2, int_rem2, int_quo8, int_rem8, int_quo64, int_rem64, u64_shrN, u64_shlN, fold64, fold32, i64_shl_u8, i16_eql, i16_neq, i16_lss, i16_geq, Nat.reduceEqDiff, Nat.reduceLT, Nat.reduceAdd, Nat.reduceMul, Nat.reduceSub, ↓reduceIte, if_true, if_false, eq_self, true_and, and_true, Bool.false_eq_true, Bool.not_true, Bool.not_false, reduceCtorEq, upd_get, List.getElem?_toArray, List.getElem?_cons_zero, List.getElem?_cons_succ, Option.bind_some, rdK_some, List.map_toArray, List.map_cons, List.map_nil, rd_upd, rdO_fblk, wrOk_fblk, wrO_fblk, lget_zero, lget_succ, upd_upd, agg_cells, cells_of_list, List.length_cons, List.length_nil, Nat.add_zero, pv_cells, pl_len, pl_0, pl_1, pl_2, pl_3, pl_4, pl_5, pv_fold, pv_eta, ov_eta, opv_eta, ov_cells, ol_len, ov_fold, opv_cells, opl_len, opv_fold, st_pv, st_ov, st_opv, ol_0, ol_1, ol_2, ol_3, ol_4, ol_5, ol_6, ol_7, ol_8, ol_9, opl_0, opl_1, opl_2, opl_3, opl_4, opl_5, opl_6, opl_7, wrsOk_fblk, wrsO_fblk, fblk_all, Nat.reduceLeDiff, Nat.zero_add, rdsK2, rdsK4, rdsK6, rdsK8, rdsK10, wrsK_nil, wrsK_cons, oneCell_u8, oneCell_u16, oneCell_u32, oneCell_u64, oneCell_i16, oneCell_int, oneCell_bool, oneCell_ptr, oneCell_pointer, oneCell_sl, oneCell_slice, oneCell_string, box_eq, List.all_cons, List.all_nil, Bool.and_self, Ex1_eq, Ex1_and, endQ, resH, res_tmp, res_cell, resC_ptr, tupleOf, Fabg.results70, fa_52_1, ld_5, fa_52_2, call_132, fa_77_0, ld_26, ix_26_int, ix_26_u8, ix_26_u16, ix_26_i16, ld_30, k_u64_0, tn_u64_0, al_54, fa_77_2, ld_74, len_74, lenS_74, fa_77_3, ld_39, ix_39_int, ix_39_u8, ix_39_u16, ix_39_i16, fa_77_4, fa_77_6, ld_75, ix_75_int, ix_75_u8, ix_75_u16, ix_75_i16, ld_4, ix_54_int, ix_54_u8, ix_54_u16, ix_54_i16, st_4, ix_74_int, ix_74_u8, ix_74_u16, ix_74_i16, ldN_60, call_133, st_30, t0, t3, t5, t7, t8, t9, r1, r2, r3, ru, rv, rg, q8, e1', e4', o1, o2, q, q5, decide_true, q6, q7, q9, c1, c2, c3, jx, e3, gblk_wr, gblk_wrOk, q6', egb, y1, y3, y4, y5, e5, Ne.symm y4, Ne.symm y5, Ne.symm e5, p0, p1, p2, p3, p4, p5, Int.natCast_nonneg, Int.toNat_natCast, Nat.zero_add]
    | refine W_drawL (id := 9) (by kernel_rfl) [0, 0, 0, 0, 0, 0, 0, 0, 0, 0, 0, 0, 0, 0, 0, 0, 0, 0, 0, 0, 0, 0, 0, 0, 0, 0, 0] (by kernel_rfl) ?_
    | refine Alloc.mono ?_
    | (refine CondW_intro (fun hc => ?_) (fun hc => ?_) <;> (try simp only [Bool.not_eq_true', Bool.not_eq_false'] at hc) <;> (try simp only [hc]))
    | (refine GrdV_intro (fun hc => ?_) (fun hc => ?_) <;> (try simp only [Bool.not_eq_true', Bool.not_eq_false'] at hc) <;> (try simp only [hc]))
    | (refine GrdL_intro (fun hc => ?_) (fun hc => ?_) <;> (try simp only [Bool.not_eq_true', Bool.not_eq_false'] at hc) <;> (try simp only [hc]))))
    all_goals
      refine (wipe_ok hX4 hlen.1 hlen.2 (P k)).mono ?_
      rintro _ G5 ⟨rfl, hX5⟩
      (repeat' (first
    | simp -implicitDefEqProofs only [WV_seq, WV_cond, WV_block, WV_skip, WV_ret, WV_exit, WV_region, WV_draw, WV_loop, thenQ_normal, thenQ_ret, thenQ_exit, blockQ_normal, blockQ_ret, blockQ_exit, V_nil, V_cons, KV_eq, VL_nil, VL_cons, KL_eq, vcl_zero, vcl_one, vcl_two, isV_same, isV_eq, monoK_eq, dOk, put, gd_none, gd_some, gdst_eq, gdv_some, gdB_true, gdB_false, gdB_undef, ev_const, ev_tmp, lit_i64, lit_i32, lit_bool, lit_pointer, lit_slice, lit_string, CondW_true, CondW_false, GrdV_true, GrdV_false, GrdL_true, GrdL_false, vc_move, vc_assign, vc_load, vc_store, vc_field, vc_indexAddr, vc_index, vc_box, vc_alloc, vc_build, vc_buildSlice, vc_makeSlice, vc_slice, vc_extract, vc_unOp, vc_convert, vc_bin, vc_pick, vc_call, vc_append, vc_len, vc_min, vc_max, vc_copy, vc_clear, pickK_true, pickK_false, stK_eq, not_bool, min_i64, max_i64, min_u16, max_u16, extract_tuple, vc_nil, nilK_ptr, int_add, int_sub, int_mul, int_eql, int_neq, int_lss, int_leq, int_gtr, int_geq, u8_add, u8_sub, u8_mul, u8_eql, u8_neq, u8_lss, u8_leq, u8_gtr, u8_geq, u16_add, u16_sub, u16_mul, u16_eql, u16_neq, u16_lss, u16_leq, u16_gtr, u16_geq, u32_add, u32_sub, u32_mul, u32_eql, u32_neq, u32_lss, u32_leq, u32_gtr, u32_geq, u64_add, u64_sub, u64_mul, u64_eql, u64_neq, u64_lss, u64_leq, u64_gtr, u64_geq, u8_and, u8_or, u8_xor, u8_andNot, u64_and, u64_or, u64_xor, u64_andNot, u8_shl_u8, u8_shl_u16, u8_shl_u64, u32_shl_u8, u32_shl_u16, u32_shl_u64, u64_shl_u8, u64_shl_u16, u64_shl_u64, u8_shr_u8, u8_shr_u16, u8_shr_u64, u64_shr_u8, u64_shr_u16, u64_shr_u64, u16_quo8, u16_rem8, u16_quo64, u16_rem64, u64_quo8, u64_rem8, u64_quo64, u64_rem64, u32_quo8, u32_rem8, u32_quo64, u32_rem64, int_quo2, int_rem2, int_quo8, int_rem8, int_quo64, int_rem64, u64_shrN, u64_shlN, fold64, fold32, i64_shl_u8, i16_eql, i16_neq, i16_lss, i16_geq, Nat.reduceEqDiff, Nat.reduceLT, Nat.reduceAdd, Nat.reduceMul, Nat.reduceSub, ↓reduceIte, if_true, if_false, eq_self, true_and, and_true, Bool.false_eq_true, Bool.not_true, Bool.not_false, reduceCtorEq, upd_get, List.getElem?_toArray, List.getElem?_cons_zero, List.getElem?_cons_succ, Option.bind_some, rdK_some, List.map_toArray, List.map_cons, List.map_nil, rd_upd, rdO_fblk, wrOk_fblk, wrO_fblk, lget_zero, lget_succ, upd_upd, agg_cells, cells_of_list, List.length_cons, List.length_nil, Nat.add_zero, pv_cells, pl_len, pl_0, pl_1, pl_2, pl_3, pl_4, pl_5, pv_fold, pv_eta, ov_eta, opv_eta, ov_cells, ol_len, ov_fold, opv_cells, opl_len, opv_fold, st_pv, st_ov, st_opv, ol_0, ol_1, ol_2, ol_3, ol_4, ol_5, ol_6, ol_7, ol_8, ol_9, opl_0, opl_1, opl_2, opl_3, opl_4, opl_5, opl_6, opl_7, wrsOk_fblk, wrsO_fblk, fblk_all, Nat.reduceLeDiff, Nat.zero_add, rdsK2, rdsK4, rdsK6, rdsK8, rdsK10, wrsK_nil, wrsK_cons, oneCell_u8, oneCell_u16, oneCell_u32, oneCell_u64, oneCell_i16, oneCell_int, oneCell_bool, oneCell_ptr, oneCell_pointer, oneCell_sl, oneCell_slice, oneCell_string, box_eq, List.all_cons, List.all_nil, Bool.and_self, Ex1_eq, Ex1_and, endQ, resH, res_tmp, res_cell, resC_ptr, tupleOf, Fabg.results70, fa_52_1, ld_5, fa_52_2, call_132, fa_77_0, ld_26, ix_26_int, ix_26_u8, ix_26_u16, ix_26_i16, ld_30, k_u64_0, tn_u64_0, al_54, fa_77_2, ld_74, len_74, lenS_74, fa_77_3, ld_39, ix_39_int, ix_39_u8, ix_39_u16, ix_39_i16, fa_77_4, fa_77_6, ld_75, ix_75_int, ix_75_u8, ix_75_u16, ix_75_i16, ld_4, ix_54_int, ix_54_u8, ix_54_u16, ix_54_i16, st_4, ix_74_int, ix_74_u8, ix_74_u16, ix_74_i16, ldN_60, call_133, st_30, t0, t3, t5, t7, t9, q7]
    | refine W_drawL (id := 9) (by kernel_rfl) [0, 0, 0, 0, 0, 0, 0, 0, 0, 0, 0, 0, 0, 0, 0, 0, 0, 0, 0, 0, 0, 0, 0, 0, 0, 0, 0] (by kernel_rfl) ?_
    | refine Alloc.mono ?_
    | (refine CondW_intro (fun hc => ?_) (fun hc => ?_) <;> (try simp only [Bool.not_eq_true', Bool.not_eq_false'] at hc) <;> (try simp only [hc]))
    | (refine GrdV_intro (fun hc => ?_) (fun hc => ?_) <;> (try simp only [Bool.not_eq_true', Bool.not_eq_false'] at hc) <;> (try simp only [hc]))
    | (refine GrdL_intro (fun hc => ?_) (fun hc => ?_) <;> (try simp only [Bool.not_eq_true', Bool.not_eq_false'] at hc) <;> (try simp only [hc]))))
      refine ⟨m - 1, by omega, k + 1, by omega, by omega, BdX.congr' hX5 rfl rfl (fun i hi => ?_) (fun c hc => ?_), by rw [n2], rfl⟩
      · show wipA (clrA S gn k) (P k) i = clrA S gn (k + 1) i
        unfold wipA
        rw [clrA]
        have hwe : ((firstL (P k)).toNat ≤ i ∧ i < (firstL (P k)).toNat + (wordsL (P k)).toNat) ↔ ((firstL (S.O k).p).toNat ≤ i ∧ i < (firstL (S.O k).p).toNat + (wordsL (S.O k).p).toNat) := by
          rcases hS.p k hlk with e | ⟨hw, a, e⟩
          · rw [e]
          · have w1 := (wless_words hw).1
            have w2 : (wordsL (P k)).toNat = 0 := by rw [e]; exact w1
            omega
        by_cases c : (firstL (P k)).toNat ≤ i ∧ i < (firstL (P k)).toNat + (wordsL (P k)).toNat
        · rw [if_pos c, if_pos ⟨hgk, hwe.1 c⟩]
        · rw [if_neg c, if_neg (fun h => c (hwe.2 h.2))]
      · show (upd (delO S gn k) k { (delO S gn k k) with dead := true } c).dead = (delO S gn (k + 1) c).dead
        by_cases e : c = k
        · subst e
          rw [upd_same]
          show true = (delO S gn (c + 1) c).dead
          unfold delO
          rw [if_pos ⟨by omega, hgk⟩]
        · rw [upd_ne _ _ _ _ e]
          unfold delO
          by_cases c1 : c < k ∧ gn c = true
          · rw [if_pos c1, if_pos ⟨by omega, c1.2⟩]
          · rw [if_neg c1, if_neg (fun hh => c1 ⟨by omega, hh.2⟩)]
  · exact ⟨1, by omega, by omega, hX0, w0, w3, w5, w7, w8, w9⟩
  · rintro T G' ⟨hXn, t0, t5⟩
    obtain ⟨ba, cap, gA, a1, a2, a3, a4, a5, a6, a7⟩ := BdX.openA hXn hlen.1
    have a1' : rd G' bb 0 = some (sl ba 0 S.len cap) := a1
    have a2' : S.len ≤ cap := a2
    have q3 : (at_.toNat < cap * 1) = True := eq_true (by omega)
    (repeat' (first
    | simp -implicitDefEqProofs only [WV_seq, WV_cond, WV_block, WV_skip, WV_ret, WV_exit, WV_region, WV_draw, WV_loop, thenQ_normal, thenQ_ret, thenQ_exit, blockQ_normal, blockQ_ret, blockQ_exit, V_nil, V_cons, KV_eq, VL_nil, VL_cons, KL_eq, vcl_zero, vcl_one, vcl_two, isV_same, isV_eq, monoK_eq, dOk, put, gd_none, gd_some, gdst_eq, gdv_some, gdB_true, gdB_false, gdB_undef, ev_const, ev_tmp, lit_i64, lit_i32, lit_bool, lit_pointer, lit_slice, lit_string, CondW_true, CondW_false, GrdV_true, GrdV_false, GrdL_true, GrdL_false, vc_move, vc_assign, vc_load, vc_store, vc_field, vc_indexAddr, vc_index, vc_box, vc_alloc, vc_build, vc_buildSlice, vc_makeSlice, vc_slice, vc_extract, vc_unOp, vc_convert, vc_bin, vc_pick, vc_call, vc_append, vc_len, vc_min, vc_max, vc_copy, vc_clear, pickK_true, pickK_false, stK_eq, not_bool, min_i64, max_i64, min_u16, max_u16, extract_tuple, vc_nil, nilK_ptr, int_add, int_sub, int_mul, int_eql, int_neq, int_lss, int_leq, int_gtr, int_geq, u8_add, u8_sub, u8_mul, u8_eql, u8_neq, u8_lss, u8_leq, u8_gtr, u8_geq, u16_add, u16_sub, u16_mul, u16_eql, u16_neq, u16_lss, u16_leq, u16_gtr, u16_geq, u32_add, u32_sub, u32_mul, u32_eql, u32_neq, u32_lss, u32_leq, u32_gtr, u32_geq, u64_add, u64_sub, u64_mul, u64_eql, u64_neq, u64_lss, u64_leq, u64_gtr, u64_geq, u8_and, u8_or, u8_xor, u8_andNot, u64_and, u64_or, u64_xor, u64_andNot, u8_shl_u8, u8_shl_u16, u8_shl_u64, u32_shl_u8, u32_shl_u16, u32_shl_u64, u64_shl_u8, u64_shl_u16, u64_shl_u64, u8_shr_u8, u8_shr_u16, u8_shr_u64, u64_shr_u8, u64_shr_u16, u64_shr_u64, u16_quo8, u16_rem8, u16_quo64, u16_rem64, u64_quo8, u64_rem8, u64_quo64, u64_rem64, u32_quo8, u32_rem8, u32_quo64, u32_rem64, int_quo2, int_rem2, int_quo8, int_rem8, int_quo64, int_rem64, u64_shrN, u64_shlN, fold64, fold32, i64_shl_u8, i16_eql, i16_neq, i16_lss, i16_geq, Nat.reduceEqDiff, Nat.reduceLT, Nat.reduceAdd, Nat.reduceMul, Nat.reduceSub, ↓reduceIte, if_true, if_false, eq_self, true_and, and_true, Bool.false_eq_true, Bool.not_true, Bool.not_false, reduceCtorEq, upd_get, List.getElem?_toArray, List.getElem?_cons_zero, List.getElem?_cons_succ, Option.bind_some, rdK_some, List.map_toArray, List.map_cons, List.map_nil, rd_upd, rdO_fblk, wrOk_fblk, wrO_fblk, lget_zero, lget_succ, upd_upd, agg_cells, cells_of_list, List.length_cons, List.length_nil, Nat.add_zero, pv_cells, pl_len, pl_0, pl_1, pl_2, pl_3, pl_4, pl_5, pv_fold, pv_eta, ov_eta, opv_eta, ov_cells, ol_len, ov_fold, opv_cells, opl_len, opv_fold, st_pv, st_ov, st_opv, ol_0, ol_1, ol_2, ol_3, ol_4, ol_5, ol_6, ol_7, ol_8, ol_9, opl_0, opl_1, opl_2, opl_3, opl_4, opl_5, opl_6, opl_7, wrsOk_fblk, wrsO_fblk, fblk_all, Nat.reduceLeDiff, Nat.zero_add, rdsK2, rdsK4, rdsK6, rdsK8, rdsK10, wrsK_nil, wrsK_cons, oneCell_u8, oneCell_u16, oneCell_u32, oneCell_u64, oneCell_i16, oneCell_int, oneCell_bool, oneCell_ptr, oneCell_pointer, oneCell_sl, oneCell_slice, oneCell_string, box_eq, List.all_cons, List.all_nil, Bool.and_self, Ex1_eq, Ex1_and, endQ, resH, res_tmp, res_cell, resC_ptr, tupleOf, Fabg.results70, fa_52_1, ld_5, fa_52_2, call_132, fa_77_0, ld_26, ix_26_int, ix_26_u8, ix_26_u16, ix_26_i16, ld_30, k_u64_0, tn_u64_0, al_54, fa_77_2, ld_74, len_74, lenS_74, fa_77_3, ld_39, ix_39_int, ix_39_u8, ix_39_u16, ix_39_i16, fa_77_4, fa_77_6, ld_75, ix_75_int, ix_75_u8, ix_75_u16, ix_75_i16, ld_4, ix_54_int, ix_54_u8, ix_54_u16, ix_54_i16, st_4, ix_74_int, ix_74_u8, ix_74_u16, ix_74_i16, ldN_60, call_133, st_30, t0, t5, a1', a3, q1, q3]
    | refine W_drawL (id := 9) (by kernel_rfl) [0, 0, 0, 0, 0, 0, 0, 0, 0, 0, 0, 0, 0, 0, 0, 0, 0, 0, 0, 0, 0, 0, 0, 0, 0, 0, 0] (by kernel_rfl) ?_
    | refine Alloc.mono ?_
    | (refine CondW_intro (fun hc => ?_) (fun hc => ?_) <;> (try simp only [Bool.not_eq_true', Bool.not_eq_false'] at hc) <;> (try simp only [hc]))
    | (refine GrdV_intro (fun hc => ?_) (fun hc => ?_) <;> (try simp only [Bool.not_eq_true', Bool.not_eq_false'] at hc) <;> (try simp only [hc]))
    | (refine GrdL_intro (fun hc => ?_) (fun hc => ?_) <;> (try simp only [Bool.not_eq_true', Bool.not_eq_false'] at hc) <;> (try simp only [hc]))))
    have hfin : BdS H0 (upd G' ba (some (fblk (cap * 1) (upd gA at_.toNat (u64 0)) 30))) bb (killE { S with A := upd S.A at_.toNat 0 } (kk : Nat)) := by
      refine ⟨P, up, via, dep, BdH.weaken (BdX.congr' (a7 at_.toNat 0 hat) rfl rfl (fun i hi => ?_) (fun k hk => ?_)) hH0, hS.same rfl (fun k hk => ?_) (fun k hk => ?_)⟩
      · show upd (clrA S gn S.cnt) at_.toNat 0 i = clrA { S with A := upd S.A at_.toNat 0 } (goneB { S with A := upd S.A at_.toNat 0 } (kk : Nat)) S.cnt i
        rw [clrA_congr _ _ gn S.cnt (fun c hc => by rw [goneB_A, hgn]), clrA_upd, upd_get]
      · show (delO S gn S.cnt k).dead = (delO { S with A := upd S.A at_.toNat 0 } (goneB { S with A := upd S.A at_.toNat 0 } (kk : Nat)) S.cnt k).dead
        unfold delO
        rw [goneB_A, hgn]
      · show (delO { S with A := upd S.A at_.toNat 0 } _ S.cnt k).up = _ ∧ (delO { S with A := upd S.A at_.toNat 0 } _ S.cnt k).via = _ ∧ (delO { S with A := upd S.A at_.toNat 0 } _ S.cnt k).elem = _ ∧ (delO { S with A := upd S.A at_.toNat 0 } _ S.cnt k).p = _
        unfold delO
        split <;> exact ⟨rfl, rfl, rfl, rfl⟩
      · refine ⟨hk.1, ?_⟩
        have h2 : (delO { S with A := upd S.A at_.toNat 0 } (goneB { S with A := upd S.A at_.toNat 0 } (kk : Nat)) S.cnt k).dead = false := hk.2
        unfold delO at h2
        split at h2
        · cases h2
        · exact h2
    rw [em]
    first | exact ⟨_, Le.refl _, rfl, hfin⟩ | exact ⟨_, Le.refl _, hfin⟩
end Eng
end Go.Proofs.Ygcfab
