/-
  Package edit: make.
-/
import Derived.Test.YgcfabEw2
set_option linter.unusedSimpArgs false
set_option linter.unusedVariables false
set_option maxRecDepth 100000
namespace Go.Proofs.Ygcfab
namespace Eng
theorem EdH.rebase {H0 G : Heap} {eb : Nat} {S : Ed} (h : EdH H0 G eb S) {b : Nat} (hb : H0 b ≠ none ∨ G b = none) (y : Obj) : EdH (upd H0 b (some y)) (upd G b (some y)) eb S := by
  obtain ⟨va, vo, oa, oo, k1, k2, k3, k4, k5, k6⟩ := h.blk
  have hne : ∀ c, H0 c = none → G c ≠ none → c ≠ b := by
    rintro c h1 h2 rfl
    rcases hb with hb | hb
    · exact hb h1
    · exact h2 hb
  have heb : eb ≠ b := hne eb h.own (by rw [k1]; simp)
  have hd : ∀ {s : Nat} {e : TypeId} {v : Value} {n : Nat} {f : Nat → Value} {ob : Option Nat}, OwnS s e G v n f ob → ∀ c, ob = some c → G c ≠ none := by
    intro s e v n f ob ho c hc
    rcases ho.is with ⟨_, _, h⟩ | ⟨b', cap, g, _, _, h, hG, _⟩
    · rw [hc] at h; cases h
    · rw [hc] at h; cases h; rw [hG]; simp
  have hA : ∀ c, oa = some c → c ≠ b := fun c hc => hne c (k4 c hc).1 (hd k2 c hc)
  have hO : ∀ c, oo = some c → c ≠ b := fun c hc => hne c (k5 c hc).1 (hd k3 c hc)
  refine ⟨?_, by rw [upd_ne _ _ _ _ heb]; exact h.own, va, vo, oa, oo, by rw [upd_ne _ _ _ _ heb]; exact k1, k2.keep (fun c hc => upd_ne _ _ _ _ (hA c hc)), k3.keep (fun c hc => upd_ne _ _ _ _ (hO c hc)), ?_, ?_, k6⟩
  · intro c z hz
    by_cases e : c = b
    · subst e; rw [upd_same] at hz ⊢; exact hz
    · rw [upd_ne _ _ _ _ e] at hz ⊢; exact h.le0 c z hz
  · intro c hc
    rw [upd_ne _ _ _ _ (hA c hc)]; exact k4 c hc
  · intro c hc
    rw [upd_ne _ _ _ _ (hO c hc)]; exact k5 c hc
theorem EdH.weaken {H0 H1 G : Heap} {eb : Nat} {S : Ed} (h : EdH H1 G eb S) (l : Le H0 H1) : EdH H0 G eb S := by
  obtain ⟨va, vo, oa, oo, k1, k2, k3, k4, k5, k6⟩ := h.blk
  exact ⟨l.trans h.le0, le_none l h.own, va, vo, oa, oo, k1, k2, k3, fun c hc => ⟨le_none l (k4 c hc).1, (k4 c hc).2⟩, fun c hc => ⟨le_none l (k5 c hc).1, (k5 c hc).2⟩, k6⟩
structure PtAt (G : Heap) (b : Nat) (p : Ptr) : Prop where
  r0 : rd G b 0 = some (u8 p.kind)
  r1 : rd G b 1 = some (u16 p.at_)
  r2 : rd G b 2 = some (u8 p.data)
  r3 : rd G b 3 = some (u8 p.ptrs)
  r4 : rd G b 4 = some (u8 p.code)
  r5 : rd G b 5 = some (u16 p.count)
theorem ptAt_of {G : Heap} {b : Nat} {p : Ptr} (h : G b = some (fblk 6 (lget (pl p)) 60)) : PtAt G b p := by
  have r : ∀ i, i < 6 → rd G b i = some (lget (pl p) i) := fun i hi => by rw [rd_eq, h, rdO_fblk, if_pos hi]
  exact ⟨r 0 (by omega), r 1 (by omega), r 2 (by omega), r 3 (by omega), r 4 (by omega), r 5 (by omega)⟩
structure OpAt (G : Heap) (b : Nat) (op : OpR) : Prop where
  r0 : rd G b 0 = some (u8 op.kind)
  r1 : rd G b 1 = some (u8 op.h)
  r2 : rd G b 2 = some (u8 op.i)
  r3 : rd G b 3 = some (u8 op.x)
  r4 : rd G b 4 = some (u8 op.y)
  r5 : rd G b 5 = some (u16 op.n)
  r6 : rd G b 6 = some (u64 op.v)
  r7 : rd G b 7 = some (.string op.s)
theorem opAt_of {G : Heap} {b : Nat} {op : OpR} (h : G b = some (fblk 8 (lget (opl op)) 52)) : OpAt G b op := by
  have r : ∀ i, i < 8 → rd G b i = some (lget (opl op) i) := fun i hi => by rw [rd_eq, h, rdO_fblk, if_pos hi]
  exact ⟨r 0 (by omega), r 1 (by omega), r 2 (by omega), r 3 (by omega), r 4 (by omega), r 5 (by omega), r 6 (by omega), r 7 (by omega)⟩
theorem pl_upd1 (p : Ptr) (a : UInt16) (e : TypeId) : fblk 6 (upd (lget (pl p)) 1 (u16 a)) e = fblk 6 (lget (pl { p with at_ := a })) e := by
  apply fblk_congr
  intro i hi
  match i, hi with
  | 0, _ => rfl
  | 1, _ => rfl
  | 2, _ => rfl
  | 3, _ => rfl
  | 4, _ => rfl
  | 5, _ => rfl
/-- what a new object is, and where -/
def newP (S : Ed) (p : Ptr) (slot : UInt16) : Ptr := if wlessB p then { p with at_ := slot } else { p with at_ := UInt16.ofNat S.len }
def makeE (S : Ed) (op : OpR) (p : Ptr) : Bool × Ed :=
  if (roomB S op (wordsL p) 1).2 = false then (false, S)
  else (true, ⟨upd (growE S (wordsL p).toNat).A (roomB S op (wordsL p) 1).1.toNat (pointerL (roomB S op (wordsL p) 1).1 (newP S p (roomB S op (wordsL p) 1).1)), S.len + (wordsL p).toNat,
    upd S.O S.cnt ⟨newP S p (roomB S op (wordsL p) 1).1, Int16.ofInt (op.h.toNat : Int), op.i, false, false⟩, S.cnt + 1⟩)
theorem room_true {S : Ed} {op : OpR} {w : UInt16} {hd : Int} (h : (roomB S op w hd).2 = true) : (roomB S op w hd).1 = (slotB S op.h op.i).1 ∧ (slotB S op.h op.i).2 = true ∧ S.A (slotB S op.h op.i).1.toNat = 0 ∧ depN S 40 (op.h.toNat : Int) < 8 ∧ S.len + w.toNat ≤ 256 ∧ (S.cnt : Int) + hd ≤ 256 := by
  unfold roomB at h ⊢
  split at h
  · cases h
  · rename_i c
    rw [if_neg c]
    simp only [not_or, Bool.not_eq_false, Decidable.not_not] at c
    have hf := c.2.2.2
    unfold fitsB at hf
    simp only [Bool.and_eq_true, decide_eq_true_eq] at hf
    exact ⟨rfl, c.1, c.2.1, by omega, hf.1, hf.2⟩
theorem wless_at (p : Ptr) (a : UInt16) : wlessB { p with at_ := a } = wlessB p := rfl
theorem words_at (p : Ptr) (a : UInt16) : wordsL { p with at_ := a } = wordsL p := rfl
theorem make_ok {H0 G : Heap} {eb : Nat} {S : Ed} (hC : EdH H0 G eb S) (op : OpR) (p : Ptr) (h0 : 1 ≤ S.len) (h1 : S.len ≤ 256) (h2 : S.cnt ≤ 256) (hh : op.h.toNat < S.cnt) (he : Ends S 40 (op.h.toNat : Int)) :
    Fn Fabg.prog 103 #[ptr eb 0, opv op, pv p] G (fun r H' => r = .bool (makeE S op p).1 ∧ EdH H0 H' eb (makeE S op p).2) := by
  refine Fn_of Fabg.func103 rfl Fabg.ntmps103 (by simp) (WV_sound _ _ _ _ ?_)
  rw [argEnv3]
  simp -implicitDefEqProofs only [WV_seq, WV_cond, WV_block, WV_skip, WV_ret, WV_exit, WV_region, WV_draw, WV_loop, thenQ_normal, thenQ_ret, thenQ_exit, blockQ_normal, blockQ_ret, blockQ_exit, V_nil, V_cons, KV_eq, VL_nil, VL_cons, KL_eq, vcl_zero, vcl_one, vcl_two, isV_same, isV_eq, monoK_eq, dOk, put, gd_none, gd_some, gdst_eq, gdv_some, gdB_true, gdB_false, gdB_undef, ev_const, ev_tmp, lit_i64, lit_i32, lit_bool, lit_pointer, lit_slice, lit_string, CondW_true, CondW_false, GrdV_true, GrdV_false, GrdL_true, GrdL_false, vc_move, vc_assign, vc_load, vc_store, vc_field, vc_indexAddr, vc_index, vc_box, vc_alloc, vc_build, vc_buildSlice, vc_makeSlice, vc_slice, vc_extract, vc_unOp, vc_convert, vc_bin, vc_pick, vc_call, vc_append, vc_len, vc_min, vc_max, vc_copy, vc_clear, pickK_true, pickK_false, stK_eq, not_bool, min_i64, max_i64, min_u16, max_u16, extract_tuple, vc_nil, nilK_ptr, int_add, int_sub, int_mul, int_eql, int_neq, int_lss, int_leq, int_gtr, int_geq, u8_add, u8_sub, u8_mul, u8_eql, u8_neq, u8_lss, u8_leq, u8_gtr, u8_geq, u16_add, u16_sub, u16_mul, u16_eql, u16_neq, u16_lss, u16_leq, u16_gtr, u16_geq, u32_add, u32_sub, u32_mul, u32_eql, u32_neq, u32_lss, u32_leq, u32_gtr, u32_geq, u64_add, u64_sub, u64_mul, u64_eql, u64_neq, u64_lss, u64_leq, u64_gtr, u64_geq, u8_and, u8_or, u8_xor, u8_andNot, u64_and, u64_or, u64_xor, u64_andNot, u8_shl_u8, u8_shl_u16, u8_shl_u64, u32_shl_u8, u32_shl_u16, u32_shl_u64, u64_shl_u8, u64_shl_u16, u64_shl_u64, u8_shr_u8, u8_shr_u16, u8_shr_u64, u64_shr_u8, u64_shr_u16, u64_shr_u64, u16_quo8, u16_rem8, u16_quo64, u16_rem64, u64_quo8, u64_rem8, u64_quo64, u64_rem64, u32_quo8, u32_rem8, u32_quo64, u32_rem64, int_quo2, int_rem2, int_quo8, int_rem8, int_quo64, int_rem64, u64_shrN, u64_shlN, fold64, fold32, i64_shl_u8, i16_eql, i16_neq, i16_lss, i16_geq, Nat.reduceEqDiff, Nat.reduceLT, Nat.reduceAdd, Nat.reduceMul, Nat.reduceSub, ↓reduceIte, if_true, if_false, eq_self, true_and, and_true, Bool.false_eq_true, Bool.not_true, Bool.not_false, reduceCtorEq, upd_get, List.getElem?_toArray, List.getElem?_cons_zero, List.getElem?_cons_succ, Option.bind_some, rdK_some, List.map_toArray, List.map_cons, List.map_nil, rd_upd, rdO_fblk, wrOk_fblk, wrO_fblk, lget_zero, lget_succ, upd_upd, agg_cells, cells_of_list, List.length_cons, List.length_nil, Nat.add_zero, pv_cells, pl_len, pl_0, pl_1, pl_2, pl_3, pl_4, pl_5, pv_fold, pv_eta, ov_eta, opv_eta, ov_cells, ol_len, ov_fold, opv_cells, opl_len, opv_fold, st_pv, st_ov, st_opv, ol_0, ol_1, ol_2, ol_3, ol_4, ol_5, ol_6, ol_7, ol_8, ol_9, opl_0, opl_1, opl_2, opl_3, opl_4, opl_5, opl_6, opl_7, wrsOk_fblk, wrsO_fblk, fblk_all, Nat.reduceLeDiff, Nat.zero_add, rdsK2, rdsK4, rdsK6, rdsK8, rdsK10, wrsK_nil, wrsK_cons, oneCell_u8, oneCell_u16, oneCell_u32, oneCell_u64, oneCell_i16, oneCell_int, oneCell_bool, oneCell_ptr, oneCell_pointer, oneCell_sl, oneCell_slice, oneCell_string, box_eq, List.all_cons, List.all_nil, Bool.and_self, Ex1_eq, Ex1_and, endQ, resH, res_tmp, res_cell, resC_ptr, tupleOf, Fabg.results103, ldN_52, ldN_60, call_23, call_153, call_154, fa_60_1, st_50, call_111, fa_57_0, ld_26, call_121, ix_26_int, ix_26_u8, ix_26_u16, ix_26_i16, st_30, fa_57_1, ld_55, fa_52_1, ld_5, cv_5_23, fa_52_2, bd_62_0_1, bd_62_0_1_2, bd_62_0_1_2_3, bs_55, st_55, opv_cells, opl_len, pv_cells, pl_len]
  refine ⟨fun b4 hb4 => ?_⟩
  (repeat' (first
    | simp -implicitDefEqProofs only [WV_seq, WV_cond, WV_block, WV_skip, WV_ret, WV_exit, WV_region, WV_draw, WV_loop, thenQ_normal, thenQ_ret, thenQ_exit, blockQ_normal, blockQ_ret, blockQ_exit, V_nil, V_cons, KV_eq, VL_nil, VL_cons, KL_eq, vcl_zero, vcl_one, vcl_two, isV_same, isV_eq, monoK_eq, dOk, put, gd_none, gd_some, gdst_eq, gdv_some, gdB_true, gdB_false, gdB_undef, ev_const, ev_tmp, lit_i64, lit_i32, lit_bool, lit_pointer, lit_slice, lit_string, CondW_true, CondW_false, GrdV_true, GrdV_false, GrdL_true, GrdL_false, vc_move, vc_assign, vc_load, vc_store, vc_field, vc_indexAddr, vc_index, vc_box, vc_alloc, vc_build, vc_buildSlice, vc_makeSlice, vc_slice, vc_extract, vc_unOp, vc_convert, vc_bin, vc_pick, vc_call, vc_append, vc_len, vc_min, vc_max, vc_copy, vc_clear, pickK_true, pickK_false, stK_eq, not_bool, min_i64, max_i64, min_u16, max_u16, extract_tuple, vc_nil, nilK_ptr, int_add, int_sub, int_mul, int_eql, int_neq, int_lss, int_leq, int_gtr, int_geq, u8_add, u8_sub, u8_mul, u8_eql, u8_neq, u8_lss, u8_leq, u8_gtr, u8_geq, u16_add, u16_sub, u16_mul, u16_eql, u16_neq, u16_lss, u16_leq, u16_gtr, u16_geq, u32_add, u32_sub, u32_mul, u32_eql, u32_neq, u32_lss, u32_leq, u32_gtr, u32_geq, u64_add, u64_sub, u64_mul, u64_eql, u64_neq, u64_lss, u64_leq, u64_gtr, u64_geq, u8_and, u8_or, u8_xor, u8_andNot, u64_and, u64_or, u64_xor, u64_andNot, u8_shl_u8, u8_shl_u16, u8_shl_u64, u32_shl_u8, u32_shl_u16, u32_shl_u64, u64_shl_u8, u64_shl_u16, u64_shl_u64, u8_shr_u8, u8_shr_u16, u8_shr_u64, u64_shr_u8, u64_shr_u16, u64_shr_u64, u16_quo8, u16_rem8, u16_quo64, u16_rem64, u64_quo8, u64_rem8, u64_quo64, u64_rem64, u32_quo8, u32_rem8, u32_quo64, u32_rem64, int_quo2, int_rem2, int_quo8, int_rem8, int_quo64, int_rem64, u64_shrN, u64_shlN, fold64, fold32, i64_shl_u8, i16_eql, i16_neq, i16_lss, i16_geq, Nat.reduceEqDiff, Nat.reduceLT, Nat.reduceAdd, Nat.reduceMul, Nat.reduceSub, ↓reduceIte, if_true, if_false, eq_self, true_and, and_true, Bool.false_eq_true, Bool.not_true, Bool.not_false, reduceCtorEq, upd_get, List.getElem?_toArray, List.getElem?_cons_zero, List.getElem?_cons_succ, Option.bind_some, rdK_some, List.map_toArray, List.map_cons, List.map_nil, rd_upd, rdO_fblk, wrOk_fblk, wrO_fblk, lget_zero, lget_succ, upd_upd, agg_cells, cells_of_list, List.length_cons, List.length_nil, Nat.add_zero, pv_cells, pl_len, pl_0, pl_1, pl_2, pl_3, pl_4, pl_5, pv_fold, pv_eta, ov_eta, opv_eta, ov_cells, ol_len, ov_fold, opv_cells, opl_len, opv_fold, st_pv, st_ov, st_opv, ol_0, ol_1, ol_2, ol_3, ol_4, ol_5, ol_6, ol_7, ol_8, ol_9, opl_0, opl_1, opl_2, opl_3, opl_4, opl_5, opl_6, opl_7, wrsOk_fblk, wrsO_fblk, fblk_all, Nat.reduceLeDiff, Nat.zero_add, rdsK2, rdsK4, rdsK6, rdsK8, rdsK10, wrsK_nil, wrsK_cons, oneCell_u8, oneCell_u16, oneCell_u32, oneCell_u64, oneCell_i16, oneCell_int, oneCell_bool, oneCell_ptr, oneCell_pointer, oneCell_sl, oneCell_slice, oneCell_string, box_eq, List.all_cons, List.all_nil, Bool.and_self, Ex1_eq, Ex1_and, endQ, resH, res_tmp, res_cell, resC_ptr, tupleOf, Fabg.results103, ldN_52, ldN_60, call_23, call_153, call_154, fa_60_1, st_50, call_111, fa_57_0, ld_26, call_121, ix_26_int, ix_26_u8, ix_26_u16, ix_26_i16, st_30, fa_57_1, ld_55, fa_52_1, ld_5, cv_5_23, fa_52_2, bd_62_0_1, bd_62_0_1_2, bd_62_0_1_2_3, bs_55, st_55, opv_cells, opl_len, pv_cells, pl_len]
    | refine W_drawL (id := 1) (by kernel_rfl) [0, 0, 0, 0, 0, 0, 0, 0, 0, 0] (by kernel_rfl) ?_
    | refine W_drawL (id := 7) (by kernel_rfl) [0, 0, 0, 0, 0, 0, 0, 0, 0, 2] (by kernel_rfl) ?_
    | refine W_drawL (id := 8) (by kernel_rfl) [0, 0, 0, 0, 0, 0, 0, 0, 0, 0, 0, 0, 1, 2, 0, 0, 2] (by kernel_rfl) ?_
    | refine Alloc.mono ?_
    | (refine CondW_intro (fun hc => ?_) (fun hc => ?_) <;> (try simp only [Bool.not_eq_true', Bool.not_eq_false'] at hc) <;> (try simp only [hc]))
    | (refine GrdV_intro (fun hc => ?_) (fun hc => ?_) <;> (try simp only [Bool.not_eq_true', Bool.not_eq_false'] at hc) <;> (try simp only [hc]))
    | (refine GrdL_intro (fun hc => ?_) (fun hc => ?_) <;> (try simp only [Bool.not_eq_true', Bool.not_eq_false'] at hc) <;> (try simp only [hc]))))
  refine ⟨fun b5 hb5 => ?_⟩
  have n5 := fresh_upd hb5
  have hC1 := hC.rebase (.inr hb4) (fblk 8 (lget (opl op)) 52)
  have hC2 := hC1.rebase (.inr hb5) (fblk 6 (lget (pl p)) 60)
  have f5 : H0 b5 = none := le_none hC.le0 n5.2.2
  have hH0 : Le H0 (upd (upd H0 b4 (some (fblk 8 (lget (opl op)) 52))) b5 (some (fblk 6 (lget (pl p)) 60))) := ((Le.refl H0).fresh (le_none hC.le0 hb4) _).fresh (le_none hC.le0 n5.2.2) _
  have i4 : upd (upd H0 b4 (some (fblk 8 (lget (opl op)) 52))) b5 (some (fblk 6 (lget (pl p)) 60)) b4 = some (fblk 8 (lget (opl op)) 52) := by rw [upd_ne _ _ _ _ n5.2.1, upd_same]
  have i5 : upd (upd H0 b4 (some (fblk 8 (lget (opl op)) 52))) b5 (some (fblk 6 (lget (pl p)) 60)) b5 = some (fblk 6 (lget (pl p)) 60) := upd_same _ _ _
  generalize upd (upd H0 b4 (some (fblk 8 (lget (opl op)) 52))) b5 (some (fblk 6 (lget (pl p)) 60)) = H1 at *
  have n45 := n5.2.1
  generalize upd (upd G b4 (some (fblk 8 (lget (opl op)) 52))) b5 (some (fblk 6 (lget (pl p)) 60)) = G1 at *
  clear hC1 hC hb4 hb5 n5
  obtain ⟨aA, cA, aO, cO, hE⟩ := hC2.rdr (by omega) (by omega)
  have j4 : G1 b4 = some (fblk 8 (lget (opl op)) 52) := hC2.le0 _ _ i4
  have j5 : G1 b5 = some (fblk 6 (lget (pl p)) 60) := hC2.le0 _ _ i5
  have cw := words_ok p G1
  have cr := room_ok hE op (wordsL p) 1 h1 h2 (by omega) hh he
  have em : makeE S op p = if (roomB S op (wordsL p) 1).2 = false then (false, S) else (true, ⟨upd (growE S (wordsL p).toNat).A (roomB S op (wordsL p) 1).1.toNat (pointerL (roomB S op (wordsL p) 1).1 (newP S p (roomB S op (wordsL p) 1).1)), S.len + (wordsL p).toNat,
    upd S.O S.cnt ⟨newP S p (roomB S op (wordsL p) 1).1, Int16.ofInt (op.h.toNat : Int), op.i, false, false⟩, S.cnt + 1⟩) := rfl
  have hrt := room_true (S := S) (op := op) (w := wordsL p) (hd := 1)
  have hsl := slotB_lt S op.h op.i
  obtain ⟨o0, o1, o2, o3, o4, o5, o6, o7⟩ := opAt_of j4
  obtain ⟨p0, p1, p2, p3, p4, p5⟩ := ptAt_of j5
  generalize hR : roomB S op (wordsL p) 1 = R at *
  obtain ⟨at_, ok⟩ := R
  simp only [] at cr em hrt
  cases ok with
  | false =>
    rw [if_pos rfl] at em
    (repeat' (first
    | simp -implicitDefEqProofs only [WV_seq, WV_cond, WV_block, WV_skip, WV_ret, WV_exit, WV_region, WV_draw, WV_loop, thenQ_normal, thenQ_ret, thenQ_exit, blockQ_normal, blockQ_ret, blockQ_exit, V_nil, V_cons, KV_eq, VL_nil, VL_cons, KL_eq, vcl_zero, vcl_one, vcl_two, isV_same, isV_eq, monoK_eq, dOk, put, gd_none, gd_some, gdst_eq, gdv_some, gdB_true, gdB_false, gdB_undef, ev_const, ev_tmp, lit_i64, lit_i32, lit_bool, lit_pointer, lit_slice, lit_string, CondW_true, CondW_false, GrdV_true, GrdV_false, GrdL_true, GrdL_false, vc_move, vc_assign, vc_load, vc_store, vc_field, vc_indexAddr, vc_index, vc_box, vc_alloc, vc_build, vc_buildSlice, vc_makeSlice, vc_slice, vc_extract, vc_unOp, vc_convert, vc_bin, vc_pick, vc_call, vc_append, vc_len, vc_min, vc_max, vc_copy, vc_clear, pickK_true, pickK_false, stK_eq, not_bool, min_i64, max_i64, min_u16, max_u16, extract_tuple, vc_nil, nilK_ptr, int_add, int_sub, int_mul, int_eql, int_neq, int_lss, int_leq, int_gtr, int_geq, u8_add, u8_sub, u8_mul, u8_eql, u8_neq, u8_lss, u8_leq, u8_gtr, u8_geq, u16_add, u16_sub, u16_mul, u16_eql, u16_neq, u16_lss, u16_leq, u16_gtr, u16_geq, u32_add, u32_sub, u32_mul, u32_eql, u32_neq, u32_lss, u32_leq, u32_gtr, u32_geq, u64_add, u64_sub, u64_mul, u64_eql, u64_neq, u64_lss, u64_leq, u64_gtr, u64_geq, u8_and, u8_or, u8_xor, u8_andNot, u64_and, u64_or, u64_xor, u64_andNot, u8_shl_u8, u8_shl_u16, u8_shl_u64, u32_shl_u8, u32_shl_u16, u32_shl_u64, u64_shl_u8, u64_shl_u16, u64_shl_u64, u8_shr_u8, u8_shr_u16, u8_shr_u64, u64_shr_u8, u64_shr_u16, u64_shr_u64, u16_quo8, u16_rem8, u16_quo64, u16_rem64, u64_quo8, u64_rem8, u64_quo64, u64_rem64, u32_quo8, u32_rem8, u32_quo64, u32_rem64, int_quo2, int_rem2, int_quo8, int_rem8, int_quo64, int_rem64, u64_shrN, u64_shlN, fold64, fold32, i64_shl_u8, i16_eql, i16_neq, i16_lss, i16_geq, Nat.reduceEqDiff, Nat.reduceLT, Nat.reduceAdd, Nat.reduceMul, Nat.reduceSub, ↓reduceIte, if_true, if_false, eq_self, true_and, and_true, Bool.false_eq_true, Bool.not_true, Bool.not_false, reduceCtorEq, upd_get, List.getElem?_toArray, List.getElem?_cons_zero, List.getElem?_cons_succ, Option.bind_some, rdK_some, List.map_toArray, List.map_cons, List.map_nil, rd_upd, rdO_fblk, wrOk_fblk, wrO_fblk, lget_zero, lget_succ, upd_upd, agg_cells, cells_of_list, List.length_cons, List.length_nil, Nat.add_zero, pv_cells, pl_len, pl_0, pl_1, pl_2, pl_3, pl_4, pl_5, pv_fold, pv_eta, ov_eta, opv_eta, ov_cells, ol_len, ov_fold, opv_cells, opl_len, opv_fold, st_pv, st_ov, st_opv, ol_0, ol_1, ol_2, ol_3, ol_4, ol_5, ol_6, ol_7, ol_8, ol_9, opl_0, opl_1, opl_2, opl_3, opl_4, opl_5, opl_6, opl_7, wrsOk_fblk, wrsO_fblk, fblk_all, Nat.reduceLeDiff, Nat.zero_add, rdsK2, rdsK4, rdsK6, rdsK8, rdsK10, wrsK_nil, wrsK_cons, oneCell_u8, oneCell_u16, oneCell_u32, oneCell_u64, oneCell_i16, oneCell_int, oneCell_bool, oneCell_ptr, oneCell_pointer, oneCell_sl, oneCell_slice, oneCell_string, box_eq, List.all_cons, List.all_nil, Bool.and_self, Ex1_eq, Ex1_and, endQ, resH, res_tmp, res_cell, resC_ptr, tupleOf, Fabg.results103, ldN_52, ldN_60, call_23, call_153, call_154, fa_60_1, st_50, call_111, fa_57_0, ld_26, call_121, ix_26_int, ix_26_u8, ix_26_u16, ix_26_i16, st_30, fa_57_1, ld_55, fa_52_1, ld_5, cv_5_23, fa_52_2, bd_62_0_1, bd_62_0_1_2, bd_62_0_1_2_3, bs_55, st_55, o0, o1, o2, o3, o4, o5, o6, o7, p0, p1, p2, p3, p4, p5]
    | refine (cw).use ?_
    | refine (cw).useQ ?_
    | refine (cr).use ?_
    | refine (cr).useQ ?_
    | refine W_drawL (id := 1) (by kernel_rfl) [0, 0, 0, 0, 0, 0, 0, 0, 0, 0] (by kernel_rfl) ?_
    | refine W_drawL (id := 7) (by kernel_rfl) [0, 0, 0, 0, 0, 0, 0, 0, 0, 2] (by kernel_rfl) ?_
    | refine W_drawL (id := 8) (by kernel_rfl) [0, 0, 0, 0, 0, 0, 0, 0, 0, 0, 0, 0, 1, 2, 0, 0, 2] (by kernel_rfl) ?_
    | refine Alloc.mono ?_
    | (refine CondW_intro (fun hc => ?_) (fun hc => ?_) <;> (try simp only [Bool.not_eq_true', Bool.not_eq_false'] at hc) <;> (try simp only [hc]))
    | (refine GrdV_intro (fun hc => ?_) (fun hc => ?_) <;> (try simp only [Bool.not_eq_true', Bool.not_eq_false'] at hc) <;> (try simp only [hc]))
    | (refine GrdL_intro (fun hc => ?_) (fun hc => ?_) <;> (try simp only [Bool.not_eq_true', Bool.not_eq_false'] at hc) <;> (try simp only [hc]))))
    rw [em]
    exact ⟨_, Le.refl _, rfl, hC2.weaken hH0⟩
  | true =>
    rw [if_neg (by simp)] at em
    obtain ⟨t1, t2, t3, t4, t5, t6⟩ := hrt rfl
    have hat : at_.toNat < S.len := by rw [t1]; exact hsl t2
    (repeat' (first
    | simp -implicitDefEqProofs only [WV_seq, WV_cond, WV_block, WV_skip, WV_ret, WV_exit, WV_region, WV_draw, WV_loop, thenQ_normal, thenQ_ret, thenQ_exit, blockQ_normal, blockQ_ret, blockQ_exit, V_nil, V_cons, KV_eq, VL_nil, VL_cons, KL_eq, vcl_zero, vcl_one, vcl_two, isV_same, isV_eq, monoK_eq, dOk, put, gd_none, gd_some, gdst_eq, gdv_some, gdB_true, gdB_false, gdB_undef, ev_const, ev_tmp, lit_i64, lit_i32, lit_bool, lit_pointer, lit_slice, lit_string, CondW_true, CondW_false, GrdV_true, GrdV_false, GrdL_true, GrdL_false, vc_move, vc_assign, vc_load, vc_store, vc_field, vc_indexAddr, vc_index, vc_box, vc_alloc, vc_build, vc_buildSlice, vc_makeSlice, vc_slice, vc_extract, vc_unOp, vc_convert, vc_bin, vc_pick, vc_call, vc_append, vc_len, vc_min, vc_max, vc_copy, vc_clear, pickK_true, pickK_false, stK_eq, not_bool, min_i64, max_i64, min_u16, max_u16, extract_tuple, vc_nil, nilK_ptr, int_add, int_sub, int_mul, int_eql, int_neq, int_lss, int_leq, int_gtr, int_geq, u8_add, u8_sub, u8_mul, u8_eql, u8_neq, u8_lss, u8_leq, u8_gtr, u8_geq, u16_add, u16_sub, u16_mul, u16_eql, u16_neq, u16_lss, u16_leq, u16_gtr, u16_geq, u32_add, u32_sub, u32_mul, u32_eql, u32_neq, u32_lss, u32_leq, u32_gtr, u32_geq, u64_add, u64_sub, u64_mul, u64_eql, u64_neq, u64_lss, u64_leq, u64_gtr, u64_geq, u8_and, u8_or, u8_xor, u8_andNot, u64_and, u64_or, u64_xor, u64_andNot, u8_shl_u8, u8_shl_u16, u8_shl_u64, u32_shl_u8, u32_shl_u16, u32_shl_u64, u64_shl_u8, u64_shl_u16, u64_shl_u64, u8_shr_u8, u8_shr_u16, u8_shr_u64, u64_shr_u8, u64_shr_u16, u64_shr_u64, u16_quo8, u16_rem8, u16_quo64, u16_rem64, u64_quo8, u64_rem8, u64_quo64, u64_rem64, u32_quo8, u32_rem8, u32_quo64, u32_rem64, int_quo2, int_rem2, int_quo8, int_rem8, int_quo64, int_rem64, u64_shrN, u64_shlN, fold64, fold32, i64_shl_u8, i16_eql, i16_neq, i16_lss, i16_geq, Nat.reduceEqDiff, Nat.reduceLT, Nat.reduceAdd, Nat.reduceMul, Nat.reduceSub, ↓reduceIte, if_true, if_false, eq_self, true_and, and_true, Bool.false_eq_true, Bool.not_true, Bool.not_false, reduceCtorEq, upd_get, List.getElem?_toArray, List.getElem?_cons_zero, List.getElem?_cons_succ, Option.bind_some, rdK_some, List.map_toArray, List.map_cons, List.map_nil, rd_upd, rdO_fblk, wrOk_fblk, wrO_fblk, lget_zero, lget_succ, upd_upd, agg_cells, cells_of_list, List.length_cons, List.length_nil, Nat.add_zero, pv_cells, pl_len, pl_0, pl_1, pl_2, pl_3, pl_4, pl_5, pv_fold, pv_eta, ov_eta, opv_eta, ov_cells, ol_len, ov_fold, opv_cells, opl_len, opv_fold, st_pv, st_ov, st_opv, ol_0, ol_1, ol_2, ol_3, ol_4, ol_5, ol_6, ol_7, ol_8, ol_9, opl_0, opl_1, opl_2, opl_3, opl_4, opl_5, opl_6, opl_7, wrsOk_fblk, wrsO_fblk, fblk_all, Nat.reduceLeDiff, Nat.zero_add, rdsK2, rdsK4, rdsK6, rdsK8, rdsK10, wrsK_nil, wrsK_cons, oneCell_u8, oneCell_u16, oneCell_u32, oneCell_u64, oneCell_i16, oneCell_int, oneCell_bool, oneCell_ptr, oneCell_pointer, oneCell_sl, oneCell_slice, oneCell_string, box_eq, List.all_cons, List.all_nil, Bool.and_self, Ex1_eq, Ex1_and, endQ, resH, res_tmp, res_cell, resC_ptr, tupleOf, Fabg.results103, ldN_52, ldN_60, call_23, call_153, call_154, fa_60_1, st_50, call_111, fa_57_0, ld_26, call_121, ix_26_int, ix_26_u8, ix_26_u16, ix_26_i16, st_30, fa_57_1, ld_55, fa_52_1, ld_5, cv_5_23, fa_52_2, bd_62_0_1, bd_62_0_1_2, bd_62_0_1_2_3, bs_55, st_55, o0, o1, o2, o3, o4, o5, o6, o7, p0, p1, p2, p3, p4, p5]
    | refine (cw).use ?_
    | refine (cw).useQ ?_
    | refine (cr).use ?_
    | refine (cr).useQ ?_
    | refine W_drawL (id := 1) (by kernel_rfl) [0, 0, 0, 0, 0, 0, 0, 0, 0, 0] (by kernel_rfl) ?_
    | refine W_drawL (id := 7) (by kernel_rfl) [0, 0, 0, 0, 0, 0, 0, 0, 0, 2] (by kernel_rfl) ?_
    | refine W_drawL (id := 8) (by kernel_rfl) [0, 0, 0, 0, 0, 0, 0, 0, 0, 0, 0, 0, 1, 2, 0, 0, 2] (by kernel_rfl) ?_
    | refine Alloc.mono ?_
    | (refine CondW_intro (fun hc => ?_) (fun hc => ?_) <;> (try simp only [Bool.not_eq_true', Bool.not_eq_false'] at hc) <;> (try simp only [hc]))
    | (refine GrdV_intro (fun hc => ?_) (fun hc => ?_) <;> (try simp only [Bool.not_eq_true', Bool.not_eq_false'] at hc) <;> (try simp only [hc]))
    | (refine GrdL_intro (fun hc => ?_) (fun hc => ?_) <;> (try simp only [Bool.not_eq_true', Bool.not_eq_false'] at hc) <;> (try simp only [hc]))))
    refine (grow_ok hC2 (wordsL p) (by omega)).mono ?_
    rintro _ G2 ⟨rfl, hC3⟩
    have k4 : G2 b4 = some (fblk 8 (lget (opl op)) 52) := hC3.le0 _ _ i4
    have k5 : G2 b5 = some (fblk 6 (lget (pl p)) 60) := hC3.le0 _ _ i5
    have z5 : eb ≠ b5 := fun e => by have := hC3.own; rw [e, i5] at this; cases this
    (repeat' (first
    | simp -implicitDefEqProofs only [WV_seq, WV_cond, WV_block, WV_skip, WV_ret, WV_exit, WV_region, WV_draw, WV_loop, thenQ_normal, thenQ_ret, thenQ_exit, blockQ_normal, blockQ_ret, blockQ_exit, V_nil, V_cons, KV_eq, VL_nil, VL_cons, KL_eq, vcl_zero, vcl_one, vcl_two, isV_same, isV_eq, monoK_eq, dOk, put, gd_none, gd_some, gdst_eq, gdv_some, gdB_true, gdB_false, gdB_undef, ev_const, ev_tmp, lit_i64, lit_i32, lit_bool, lit_pointer, lit_slice, lit_string, CondW_true, CondW_false, GrdV_true, GrdV_false, GrdL_true, GrdL_false, vc_move, vc_assign, vc_load, vc_store, vc_field, vc_indexAddr, vc_index, vc_box, vc_alloc, vc_build, vc_buildSlice, vc_makeSlice, vc_slice, vc_extract, vc_unOp, vc_convert, vc_bin, vc_pick, vc_call, vc_append, vc_len, vc_min, vc_max, vc_copy, vc_clear, pickK_true, pickK_false, stK_eq, not_bool, min_i64, max_i64, min_u16, max_u16, extract_tuple, vc_nil, nilK_ptr, int_add, int_sub, int_mul, int_eql, int_neq, int_lss, int_leq, int_gtr, int_geq, u8_add, u8_sub, u8_mul, u8_eql, u8_neq, u8_lss, u8_leq, u8_gtr, u8_geq, u16_add, u16_sub, u16_mul, u16_eql, u16_neq, u16_lss, u16_leq, u16_gtr, u16_geq, u32_add, u32_sub, u32_mul, u32_eql, u32_neq, u32_lss, u32_leq, u32_gtr, u32_geq, u64_add, u64_sub, u64_mul, u64_eql, u64_neq, u64_lss, u64_leq, u64_gtr, u64_geq, u8_and, u8_or, u8_xor, u8_andNot, u64_and, u64_or, u64_xor, u64_andNot, u8_shl_u8, u8_shl_u16, u8_shl_u64, u32_shl_u8, u32_shl_u16, u32_shl_u64, u64_shl_u8, u64_shl_u16, u64_shl_u64, u8_shr_u8, u8_shr_u16, u8_shr_u64, u64_shr_u8, u64_shr_u16, u64_shr_u64, u16_quo8, u16_rem8, u16_quo64, u16_rem64, u64_quo8, u64_rem8, u64_quo64, u64_rem64, u32_quo8, u32_rem8, u32_quo64, u32_rem64, int_quo2, int_rem2, int_quo8, int_rem8, int_quo64, int_rem64, u64_shrN, u64_shlN, fold64, fold32, i64_shl_u8, i16_eql, i16_neq, i16_lss, i16_geq, Nat.reduceEqDiff, Nat.reduceLT, Nat.reduceAdd, Nat.reduceMul, Nat.reduceSub, ↓reduceIte, if_true, if_false, eq_self, true_and, and_true, Bool.false_eq_true, Bool.not_true, Bool.not_false, reduceCtorEq, upd_get, List.getElem?_toArray, List.getElem?_cons_zero, List.getElem?_cons_succ, Option.bind_some, rdK_some, List.map_toArray, List.map_cons, List.map_nil, rd_upd, rdO_fblk, wrOk_fblk, wrO_fblk, lget_zero, lget_succ, upd_upd, agg_cells, cells_of_list, List.length_cons, List.length_nil, Nat.add_zero, pv_cells, pl_len, pl_0, pl_1, pl_2, pl_3, pl_4, pl_5, pv_fold, pv_eta, ov_eta, opv_eta, ov_cells, ol_len, ov_fold, opv_cells, opl_len, opv_fold, st_pv, st_ov, st_opv, ol_0, ol_1, ol_2, ol_3, ol_4, ol_5, ol_6, ol_7, ol_8, ol_9, opl_0, opl_1, opl_2, opl_3, opl_4, opl_5, opl_6, opl_7, wrsOk_fblk, wrsO_fblk, fblk_all, Nat.reduceLeDiff, Nat.zero_add, rdsK2, rdsK4, rdsK6, rdsK8, rdsK10, wrsK_nil, wrsK_cons, oneCell_u8, oneCell_u16, oneCell_u32, oneCell_u64, oneCell_i16, oneCell_int, oneCell_bool, oneCell_ptr, oneCell_pointer, oneCell_sl, oneCell_slice, oneCell_string, box_eq, List.all_cons, List.all_nil, Bool.and_self, Ex1_eq, Ex1_and, endQ, resH, res_tmp, res_cell, resC_ptr, tupleOf, Fabg.results103, ldN_52, ldN_60, call_23, call_153, call_154, fa_60_1, st_50, call_111, fa_57_0, ld_26, call_121, ix_26_int, ix_26_u8, ix_26_u16, ix_26_i16, st_30, fa_57_1, ld_55, fa_52_1, ld_5, cv_5_23, fa_52_2, bd_62_0_1, bd_62_0_1_2, bd_62_0_1_2_3, bs_55, st_55, k5, pl_upd1, n45, n45.symm]
    | refine W_drawL (id := 1) (by kernel_rfl) [0, 0, 0, 0, 0, 0, 0, 0, 0, 0] (by kernel_rfl) ?_
    | refine W_drawL (id := 7) (by kernel_rfl) [0, 0, 0, 0, 0, 0, 0, 0, 0, 2] (by kernel_rfl) ?_
    | refine W_drawL (id := 8) (by kernel_rfl) [0, 0, 0, 0, 0, 0, 0, 0, 0, 0, 0, 0, 1, 2, 0, 0, 2] (by kernel_rfl) ?_
    | refine Alloc.mono ?_
    | (refine CondW_intro (fun hc => ?_) (fun hc => ?_) <;> (try simp only [Bool.not_eq_true', Bool.not_eq_false'] at hc) <;> (try simp only [hc]))
    | (refine GrdV_intro (fun hc => ?_) (fun hc => ?_) <;> (try simp only [Bool.not_eq_true', Bool.not_eq_false'] at hc) <;> (try simp only [hc]))
    | (refine GrdL_intro (fun hc => ?_) (fun hc => ?_) <;> (try simp only [Bool.not_eq_true', Bool.not_eq_false'] at hc) <;> (try simp only [hc]))))
    refine (wordless_ok _ _).mono ?_
    rintro _ Gx ⟨rfl, rfl⟩
    have base : ∀ q : Ptr, EdH (upd H1 b5 (some (fblk 6 (lget (pl q)) 60))) (upd G2 b5 (some (fblk 6 (lget (pl q)) 60))) eb (growE S (wordsL p).toNat) := fun q => hC3.rebase (.inl (by rw [i5]; simp)) _
    have hHq : ∀ q : Ptr, Le H0 (upd H1 b5 (some (fblk 6 (lget (pl q)) 60))) := by
      intro q c z hz
      rw [upd_ne _ _ _ _ (fun e => by rw [e, f5] at hz; cases hz)]
      exact hH0 c z hz
    obtain ⟨w0, w1, w2, w3, w4, w5, w6, w7⟩ := opAt_of k4
    clear cr cw o0 o1 o2 o3 o4 o5 o6 o7 p0 p1 p2 p3 p4 p5 j4 j5 hC2 hE
    have hlen2 : (growE S (wordsL p).toNat).len = S.len + (wordsL p).toNat := rfl
    have prep : ∀ q : Ptr, ∃ ba cap g, rd G2 eb 0 = some (sl ba 0 (S.len + (wordsL p).toNat) cap) ∧ at_.toNat < cap * 1 ∧ G2 ba = some (fblk (cap * 1) g 30) ∧ ba ≠ eb ∧ ba ≠ b5 ∧ ba ≠ b4 ∧
        (∀ w, EdH (upd H1 b5 (some (fblk 6 (lget (pl q)) 60))) (upd (upd G2 b5 (some (fblk 6 (lget (pl q)) 60))) ba (some (fblk (cap * 1) (upd g at_.toNat (u64 w)) 30))) eb { growE S (wordsL p).toNat with A := upd (growE S (wordsL p).toNat).A at_.toNat w }) := by
      intro q
      obtain ⟨ba, cap, g, a1, a2, a3, a4, a5, a6, a7⟩ := (base q).openA (by rw [hlen2]; omega)
      have hb5 : ba ≠ b5 := fun e => by rw [e, upd_same] at a6; cases a6
      have hb4 : ba ≠ b4 := fun e => by rw [e, upd_ne _ _ _ _ n45, i4] at a6; cases a6
      rw [rd_upd, if_neg z5, hlen2] at a1
      rw [upd_ne _ _ _ _ hb5] at a3
      rw [hlen2] at a2
      exact ⟨ba, cap, g, a1, by omega, a3, a5, hb5, hb4, fun w => a7 _ w (by rw [hlen2]; omega)⟩
    have q1 : (at_.toNat < S.len + (wordsL p).toNat) = True := eq_true (by omega)
    cases c : wlessB p
    focus
      have hq : newP S p at_ = { p with at_ := UInt16.ofNat S.len } := by rw [newP, c]; rfl
      have c' : wlessB { p with at_ := UInt16.ofNat S.len } = false := c
      obtain ⟨ba, cap, g, a1, a2, a3, a5, a6, a7, a8⟩ := prep (newP S p at_)
      have a9 := a8 (pointerL at_ (newP S p at_))
      obtain ⟨va, vo, hf, s0, s1⟩ := a9.fields
      rw [rd_upd, if_neg (Ne.symm a5), rd_upd, if_neg z5] at s1
      have a2' : (at_.toNat < cap * 1) = True := eq_true a2
      rw [hq] at a9 em hf
      (repeat' (first
    | simp -implicitDefEqProofs only [WV_seq, WV_cond, WV_block, WV_skip, WV_ret, WV_exit, WV_region, WV_draw, WV_loop, thenQ_normal, thenQ_ret, thenQ_exit, blockQ_normal, blockQ_ret, blockQ_exit, V_nil, V_cons, KV_eq, VL_nil, VL_cons, KL_eq, vcl_zero, vcl_one, vcl_two, isV_same, isV_eq, monoK_eq, dOk, put, gd_none, gd_some, gdst_eq, gdv_some, gdB_true, gdB_false, gdB_undef, ev_const, ev_tmp, lit_i64, lit_i32, lit_bool, lit_pointer, lit_slice, lit_string, CondW_true, CondW_false, GrdV_true, GrdV_false, GrdL_true, GrdL_false, vc_move, vc_assign, vc_load, vc_store, vc_field, vc_indexAddr, vc_index, vc_box, vc_alloc, vc_build, vc_buildSlice, vc_makeSlice, vc_slice, vc_extract, vc_unOp, vc_convert, vc_bin, vc_pick, vc_call, vc_append, vc_len, vc_min, vc_max, vc_copy, vc_clear, pickK_true, pickK_false, stK_eq, not_bool, min_i64, max_i64, min_u16, max_u16, extract_tuple, vc_nil, nilK_ptr, int_add, int_sub, int_mul, int_eql, int_neq, int_lss, int_leq, int_gtr, int_geq, u8_add, u8_sub, u8_mul, u8_eql, u8_neq, u8_lss, u8_leq, u8_gtr, u8_geq, u16_add, u16_sub, u16_mul, u16_eql, u16_neq, u16_lss, u16_leq, u16_gtr, u16_geq, u32_add, u32_sub, u32_mul, u32_eql, u32_neq, u32_lss, u32_leq, u32_gtr, u32_geq, u64_add, u64_sub, u64_mul, u64_eql, u64_neq, u64_lss, u64_leq, u64_gtr, u64_geq, u8_and, u8_or, u8_xor, u8_andNot, u64_and, u64_or, u64_xor, u64_andNot, u8_shl_u8, u8_shl_u16, u8_shl_u64, u32_shl_u8, u32_shl_u16, u32_shl_u64, u64_shl_u8, u64_shl_u16, u64_shl_u64, u8_shr_u8, u8_shr_u16, u8_shr_u64, u64_shr_u8, u64_shr_u16, u64_shr_u64, u16_quo8, u16_rem8, u16_quo64, u16_rem64, u64_quo8, u64_rem8, u64_quo64, u64_rem64, u32_quo8, u32_rem8, u32_quo64, u32_rem64, int_quo2, int_rem2, int_quo8, int_rem8, int_quo64, int_rem64, u64_shrN, u64_shlN, fold64, fold32, i64_shl_u8, i16_eql, i16_neq, i16_lss, i16_geq, Nat.reduceEqDiff, Nat.reduceLT, Nat.reduceAdd, Nat.reduceMul, Nat.reduceSub, ↓reduceIte, if_true, if_false, eq_self, true_and, and_true, Bool.false_eq_true, Bool.not_true, Bool.not_false, reduceCtorEq, upd_get, List.getElem?_toArray, List.getElem?_cons_zero, List.getElem?_cons_succ, Option.bind_some, rdK_some, List.map_toArray, List.map_cons, List.map_nil, rd_upd, rdO_fblk, wrOk_fblk, wrO_fblk, lget_zero, lget_succ, upd_upd, agg_cells, cells_of_list, List.length_cons, List.length_nil, Nat.add_zero, pv_cells, pl_len, pl_0, pl_1, pl_2, pl_3, pl_4, pl_5, pv_fold, pv_eta, ov_eta, opv_eta, ov_cells, ol_len, ov_fold, opv_cells, opl_len, opv_fold, st_pv, st_ov, st_opv, ol_0, ol_1, ol_2, ol_3, ol_4, ol_5, ol_6, ol_7, ol_8, ol_9, opl_0, opl_1, opl_2, opl_3, opl_4, opl_5, opl_6, opl_7, wrsOk_fblk, wrsO_fblk, fblk_all, Nat.reduceLeDiff, Nat.zero_add, rdsK2, rdsK4, rdsK6, rdsK8, rdsK10, wrsK_nil, wrsK_cons, oneCell_u8, oneCell_u16, oneCell_u32, oneCell_u64, oneCell_i16, oneCell_int, oneCell_bool, oneCell_ptr, oneCell_pointer, oneCell_sl, oneCell_slice, oneCell_string, box_eq, List.all_cons, List.all_nil, Bool.and_self, Ex1_eq, Ex1_and, endQ, resH, res_tmp, res_cell, resC_ptr, tupleOf, Fabg.results103, ldN_52, ldN_60, call_23, call_153, call_154, fa_60_1, st_50, call_111, fa_57_0, ld_26, call_121, ix_26_int, ix_26_u8, ix_26_u16, ix_26_i16, st_30, fa_57_1, ld_55, fa_52_1, ld_5, cv_5_23, fa_52_2, bd_62_0_1, bd_62_0_1_2, bd_62_0_1_2_3, bs_55, st_55, c', z5, a1, a2', a3, a5, a6, a7, Ne.symm a5, Ne.symm a6, Ne.symm a7, n45, Ne.symm n45, w1, w2, s1, q1]
    | refine (pointer_ok _ _ _).use ?_
    | refine (pointer_ok _ _ _).useQ ?_
    | refine W_drawL (id := 1) (by kernel_rfl) [0, 0, 0, 0, 0, 0, 0, 0, 0, 0] (by kernel_rfl) ?_
    | refine W_drawL (id := 7) (by kernel_rfl) [0, 0, 0, 0, 0, 0, 0, 0, 0, 2] (by kernel_rfl) ?_
    | refine W_drawL (id := 8) (by kernel_rfl) [0, 0, 0, 0, 0, 0, 0, 0, 0, 0, 0, 0, 1, 2, 0, 0, 2] (by kernel_rfl) ?_
    | refine Alloc.mono ?_
    | (refine CondW_intro (fun hc => ?_) (fun hc => ?_) <;> (try simp only [Bool.not_eq_true', Bool.not_eq_false'] at hc) <;> (try simp only [hc]))
    | (refine GrdV_intro (fun hc => ?_) (fun hc => ?_) <;> (try simp only [Bool.not_eq_true', Bool.not_eq_false'] at hc) <;> (try simp only [hc]))
    | (refine GrdL_intro (fun hc => ?_) (fun hc => ?_) <;> (try simp only [Bool.not_eq_true', Bool.not_eq_false'] at hc) <;> (try simp only [hc]))))
      have hW := hHq { p with at_ := UInt16.ofNat S.len }
      generalize upd (upd G2 b5 (some (fblk 6 (lget (pl { p with at_ := UInt16.ofNat S.len })) 60))) ba (some (fblk (cap * 1) (upd g at_.toNat (u64 (pointerL at_ { p with at_ := UInt16.ofNat S.len }))) 30)) = Gs at a9 hf ⊢
      generalize ({ p with at_ := UInt16.ofNat S.len } : Ptr) = q at a9 hf em hW ⊢
    rotate_left
    focus
      have hq : newP S p at_ = { p with at_ := at_ } := by rw [newP, c]; rfl
      have c' : wlessB { p with at_ := UInt16.ofNat S.len } = true := c
      obtain ⟨ba, cap, g, a1, a2, a3, a5, a6, a7, a8⟩ := prep (newP S p at_)
      have a9 := a8 (pointerL at_ (newP S p at_))
      obtain ⟨va, vo, hf, s0, s1⟩ := a9.fields
      rw [rd_upd, if_neg (Ne.symm a5), rd_upd, if_neg z5] at s1
      have a2' : (at_.toNat < cap * 1) = True := eq_true a2
      rw [hq] at a9 em hf
      (repeat' (first
    | simp -implicitDefEqProofs only [WV_seq, WV_cond, WV_block, WV_skip, WV_ret, WV_exit, WV_region, WV_draw, WV_loop, thenQ_normal, thenQ_ret, thenQ_exit, blockQ_normal, blockQ_ret, blockQ_exit, V_nil, V_cons, KV_eq, VL_nil, VL_cons, KL_eq, vcl_zero, vcl_one, vcl_two, isV_same, isV_eq, monoK_eq, dOk, put, gd_none, gd_some, gdst_eq, gdv_some, gdB_true, gdB_false, gdB_undef, ev_const, ev_tmp, lit_i64, lit_i32, lit_bool, lit_pointer, lit_slice, lit_string, CondW_true, CondW_false, GrdV_true, GrdV_false, GrdL_true, GrdL_false, vc_move, vc_assign, vc_load, vc_store, vc_field, vc_indexAddr, vc_index, vc_box, vc_alloc, vc_build, vc_buildSlice, vc_makeSlice, vc_slice, vc_extract, vc_unOp, vc_convert, vc_bin, vc_pick, vc_call, vc_append, vc_len, vc_min, vc_max, vc_copy, vc_clear, pickK_true, pickK_false, stK_eq, not_bool, min_i64, max_i64, min_u16, max_u16, extract_tuple, vc_nil, nilK_ptr, int_add, int_sub, int_mul, int_eql, int_neq, int_lss, int_leq, int_gtr, int_geq, u8_add, u8_sub, u8_mul, u8_eql, u8_neq, u8_lss, u8_leq, u8_gtr, u8_geq, u16_add, u16_sub, u16_mul, u16_eql, u16_neq, u16_lss, u16_leq, u16_gtr, u16_geq, u32_add, u32_sub, u32_mul, u32_eql, u32_neq, u32_lss, u32_leq, u32_gtr, u32_geq, u64_add, u64_sub, u64_mul, u64_eql, u64_neq, u64_lss, u64_leq, u64_gtr, u64_geq, u8_and, u8_or, u8_xor, u8_andNot, u64_and, u64_or, u64_xor, u64_andNot, u8_shl_u8, u8_shl_u16, u8_shl_u64, u32_shl_u8, u32_shl_u16, u32_shl_u64, u64_shl_u8, u64_shl_u16, u64_shl_u64, u8_shr_u8, u8_shr_u16, u8_shr_u64, u64_shr_u8, u64_shr_u16, u64_shr_u64, u16_quo8, u16_rem8, u16_quo64, u16_rem64, u64_quo8, u64_rem8, u64_quo64, u64_rem64, u32_quo8, u32_rem8, u32_quo64, u32_rem64, int_quo2, int_rem2, int_quo8, int_rem8, int_quo64, int_rem64, u64_shrN, u64_shlN, fold64, fold32, i64_shl_u8, i16_eql, i16_neq, i16_lss, i16_geq, Nat.reduceEqDiff, Nat.reduceLT, Nat.reduceAdd, Nat.reduceMul, Nat.reduceSub, ↓reduceIte, if_true, if_false, eq_self, true_and, and_true, Bool.false_eq_true, Bool.not_true, Bool.not_false, reduceCtorEq, upd_get, List.getElem?_toArray, List.getElem?_cons_zero, List.getElem?_cons_succ, Option.bind_some, rdK_some, List.map_toArray, List.map_cons, List.map_nil, rd_upd, rdO_fblk, wrOk_fblk, wrO_fblk, lget_zero, lget_succ, upd_upd, agg_cells, cells_of_list, List.length_cons, List.length_nil, Nat.add_zero, pv_cells, pl_len, pl_0, pl_1, pl_2, pl_3, pl_4, pl_5, pv_fold, pv_eta, ov_eta, opv_eta, ov_cells, ol_len, ov_fold, opv_cells, opl_len, opv_fold, st_pv, st_ov, st_opv, ol_0, ol_1, ol_2, ol_3, ol_4, ol_5, ol_6, ol_7, ol_8, ol_9, opl_0, opl_1, opl_2, opl_3, opl_4, opl_5, opl_6, opl_7, wrsOk_fblk, wrsO_fblk, fblk_all, Nat.reduceLeDiff, Nat.zero_add, rdsK2, rdsK4, rdsK6, rdsK8, rdsK10, wrsK_nil, wrsK_cons, oneCell_u8, oneCell_u16, oneCell_u32, oneCell_u64, oneCell_i16, oneCell_int, oneCell_bool, oneCell_ptr, oneCell_pointer, oneCell_sl, oneCell_slice, oneCell_string, box_eq, List.all_cons, List.all_nil, Bool.and_self, Ex1_eq, Ex1_and, endQ, resH, res_tmp, res_cell, resC_ptr, tupleOf, Fabg.results103, ldN_52, ldN_60, call_23, call_153, call_154, fa_60_1, st_50, call_111, fa_57_0, ld_26, call_121, ix_26_int, ix_26_u8, ix_26_u16, ix_26_i16, st_30, fa_57_1, ld_55, fa_52_1, ld_5, cv_5_23, fa_52_2, bd_62_0_1, bd_62_0_1_2, bd_62_0_1_2_3, bs_55, st_55, c', pl_upd1, z5, a1, a2', a3, a5, a6, a7, Ne.symm a5, Ne.symm a6, Ne.symm a7, n45, Ne.symm n45, w1, w2, s1, q1]
    | refine (pointer_ok _ _ _).use ?_
    | refine (pointer_ok _ _ _).useQ ?_
    | refine W_drawL (id := 1) (by kernel_rfl) [0, 0, 0, 0, 0, 0, 0, 0, 0, 0] (by kernel_rfl) ?_
    | refine W_drawL (id := 7) (by kernel_rfl) [0, 0, 0, 0, 0, 0, 0, 0, 0, 2] (by kernel_rfl) ?_
    | refine W_drawL (id := 8) (by kernel_rfl) [0, 0, 0, 0, 0, 0, 0, 0, 0, 0, 0, 0, 1, 2, 0, 0, 2] (by kernel_rfl) ?_
    | refine Alloc.mono ?_
    | (refine CondW_intro (fun hc => ?_) (fun hc => ?_) <;> (try simp only [Bool.not_eq_true', Bool.not_eq_false'] at hc) <;> (try simp only [hc]))
    | (refine GrdV_intro (fun hc => ?_) (fun hc => ?_) <;> (try simp only [Bool.not_eq_true', Bool.not_eq_false'] at hc) <;> (try simp only [hc]))
    | (refine GrdL_intro (fun hc => ?_) (fun hc => ?_) <;> (try simp only [Bool.not_eq_true', Bool.not_eq_false'] at hc) <;> (try simp only [hc]))))
      have hW := hHq { p with at_ := at_ }
      generalize upd (upd G2 b5 (some (fblk 6 (lget (pl { p with at_ := at_ })) 60))) ba (some (fblk (cap * 1) (upd g at_.toNat (u64 (pointerL at_ { p with at_ := at_ }))) 30)) = Gs at a9 hf ⊢
      generalize ({ p with at_ := at_ } : Ptr) = q at a9 hf em hW ⊢
    all_goals
      refine ⟨fun bx hbx => ?_⟩
      have zx : eb ≠ bx := ne_fresh (by rw [hf]; simp) hbx
      refine ⟨Le.fresh (Le.refl _) hbx _, ?_⟩
      (repeat' (first
    | simp -implicitDefEqProofs only [WV_seq, WV_cond, WV_block, WV_skip, WV_ret, WV_exit, WV_region, WV_draw, WV_loop, thenQ_normal, thenQ_ret, thenQ_exit, blockQ_normal, blockQ_ret, blockQ_exit, V_nil, V_cons, KV_eq, VL_nil, VL_cons, KL_eq, vcl_zero, vcl_one, vcl_two, isV_same, isV_eq, monoK_eq, dOk, put, gd_none, gd_some, gdst_eq, gdv_some, gdB_true, gdB_false, gdB_undef, ev_const, ev_tmp, lit_i64, lit_i32, lit_bool, lit_pointer, lit_slice, lit_string, CondW_true, CondW_false, GrdV_true, GrdV_false, GrdL_true, GrdL_false, vc_move, vc_assign, vc_load, vc_store, vc_field, vc_indexAddr, vc_index, vc_box, vc_alloc, vc_build, vc_buildSlice, vc_makeSlice, vc_slice, vc_extract, vc_unOp, vc_convert, vc_bin, vc_pick, vc_call, vc_append, vc_len, vc_min, vc_max, vc_copy, vc_clear, pickK_true, pickK_false, stK_eq, not_bool, min_i64, max_i64, min_u16, max_u16, extract_tuple, vc_nil, nilK_ptr, int_add, int_sub, int_mul, int_eql, int_neq, int_lss, int_leq, int_gtr, int_geq, u8_add, u8_sub, u8_mul, u8_eql, u8_neq, u8_lss, u8_leq, u8_gtr, u8_geq, u16_add, u16_sub, u16_mul, u16_eql, u16_neq, u16_lss, u16_leq, u16_gtr, u16_geq, u32_add, u32_sub, u32_mul, u32_eql, u32_neq, u32_lss, u32_leq, u32_gtr, u32_geq, u64_add, u64_sub, u64_mul, u64_eql, u64_neq, u64_lss, u64_leq, u64_gtr, u64_geq, u8_and, u8_or, u8_xor, u8_andNot, u64_and, u64_or, u64_xor, u64_andNot, u8_shl_u8, u8_shl_u16, u8_shl_u64, u32_shl_u8, u32_shl_u16, u32_shl_u64, u64_shl_u8, u64_shl_u16, u64_shl_u64, u8_shr_u8, u8_shr_u16, u8_shr_u64, u64_shr_u8, u64_shr_u16, u64_shr_u64, u16_quo8, u16_rem8, u16_quo64, u16_rem64, u64_quo8, u64_rem8, u64_quo64, u64_rem64, u32_quo8, u32_rem8, u32_quo64, u32_rem64, int_quo2, int_rem2, int_quo8, int_rem8, int_quo64, int_rem64, u64_shrN, u64_shlN, fold64, fold32, i64_shl_u8, i16_eql, i16_neq, i16_lss, i16_geq, Nat.reduceEqDiff, Nat.reduceLT, Nat.reduceAdd, Nat.reduceMul, Nat.reduceSub, ↓reduceIte, if_true, if_false, eq_self, true_and, and_true, Bool.false_eq_true, Bool.not_true, Bool.not_false, reduceCtorEq, upd_get, List.getElem?_toArray, List.getElem?_cons_zero, List.getElem?_cons_succ, Option.bind_some, rdK_some, List.map_toArray, List.map_cons, List.map_nil, rd_upd, rdO_fblk, wrOk_fblk, wrO_fblk, lget_zero, lget_succ, upd_upd, agg_cells, cells_of_list, List.length_cons, List.length_nil, Nat.add_zero, pv_cells, pl_len, pl_0, pl_1, pl_2, pl_3, pl_4, pl_5, pv_fold, pv_eta, ov_eta, opv_eta, ov_cells, ol_len, ov_fold, opv_cells, opl_len, opv_fold, st_pv, st_ov, st_opv, ol_0, ol_1, ol_2, ol_3, ol_4, ol_5, ol_6, ol_7, ol_8, ol_9, opl_0, opl_1, opl_2, opl_3, opl_4, opl_5, opl_6, opl_7, wrsOk_fblk, wrsO_fblk, fblk_all, Nat.reduceLeDiff, Nat.zero_add, rdsK2, rdsK4, rdsK6, rdsK8, rdsK10, wrsK_nil, wrsK_cons, oneCell_u8, oneCell_u16, oneCell_u32, oneCell_u64, oneCell_i16, oneCell_int, oneCell_bool, oneCell_ptr, oneCell_pointer, oneCell_sl, oneCell_slice, oneCell_string, box_eq, List.all_cons, List.all_nil, Bool.and_self, Ex1_eq, Ex1_and, endQ, resH, res_tmp, res_cell, resC_ptr, tupleOf, Fabg.results103, ldN_52, ldN_60, call_23, call_153, call_154, fa_60_1, st_50, call_111, fa_57_0, ld_26, call_121, ix_26_int, ix_26_u8, ix_26_u16, ix_26_i16, st_30, fa_57_1, ld_55, fa_52_1, ld_5, cv_5_23, fa_52_2, bd_62_0_1, bd_62_0_1_2, bd_62_0_1_2_3, bs_55, st_55, zx]
    | refine W_drawL (id := 1) (by kernel_rfl) [0, 0, 0, 0, 0, 0, 0, 0, 0, 0] (by kernel_rfl) ?_
    | refine W_drawL (id := 7) (by kernel_rfl) [0, 0, 0, 0, 0, 0, 0, 0, 0, 2] (by kernel_rfl) ?_
    | refine W_drawL (id := 8) (by kernel_rfl) [0, 0, 0, 0, 0, 0, 0, 0, 0, 0, 0, 0, 1, 2, 0, 0, 2] (by kernel_rfl) ?_
    | refine Alloc.mono ?_
    | (refine CondW_intro (fun hc => ?_) (fun hc => ?_) <;> (try simp only [Bool.not_eq_true', Bool.not_eq_false'] at hc) <;> (try simp only [hc]))
    | (refine GrdV_intro (fun hc => ?_) (fun hc => ?_) <;> (try simp only [Bool.not_eq_true', Bool.not_eq_false'] at hc) <;> (try simp only [hc]))
    | (refine GrdL_intro (fun hc => ?_) (fun hc => ?_) <;> (try simp only [Bool.not_eq_true', Bool.not_eq_false'] at hc) <;> (try simp only [hc]))))
      refine edO_app a9 hf _ hbx (by show S.cnt + 1 ≤ 1000; omega) ?_
      intro v' G6 hG6 hC6 hv'
      (repeat' (first
    | simp -implicitDefEqProofs only [WV_seq, WV_cond, WV_block, WV_skip, WV_ret, WV_exit, WV_region, WV_draw, WV_loop, thenQ_normal, thenQ_ret, thenQ_exit, blockQ_normal, blockQ_ret, blockQ_exit, V_nil, V_cons, KV_eq, VL_nil, VL_cons, KL_eq, vcl_zero, vcl_one, vcl_two, isV_same, isV_eq, monoK_eq, dOk, put, gd_none, gd_some, gdst_eq, gdv_some, gdB_true, gdB_false, gdB_undef, ev_const, ev_tmp, lit_i64, lit_i32, lit_bool, lit_pointer, lit_slice, lit_string, CondW_true, CondW_false, GrdV_true, GrdV_false, GrdL_true, GrdL_false, vc_move, vc_assign, vc_load, vc_store, vc_field, vc_indexAddr, vc_index, vc_box, vc_alloc, vc_build, vc_buildSlice, vc_makeSlice, vc_slice, vc_extract, vc_unOp, vc_convert, vc_bin, vc_pick, vc_call, vc_append, vc_len, vc_min, vc_max, vc_copy, vc_clear, pickK_true, pickK_false, stK_eq, not_bool, min_i64, max_i64, min_u16, max_u16, extract_tuple, vc_nil, nilK_ptr, int_add, int_sub, int_mul, int_eql, int_neq, int_lss, int_leq, int_gtr, int_geq, u8_add, u8_sub, u8_mul, u8_eql, u8_neq, u8_lss, u8_leq, u8_gtr, u8_geq, u16_add, u16_sub, u16_mul, u16_eql, u16_neq, u16_lss, u16_leq, u16_gtr, u16_geq, u32_add, u32_sub, u32_mul, u32_eql, u32_neq, u32_lss, u32_leq, u32_gtr, u32_geq, u64_add, u64_sub, u64_mul, u64_eql, u64_neq, u64_lss, u64_leq, u64_gtr, u64_geq, u8_and, u8_or, u8_xor, u8_andNot, u64_and, u64_or, u64_xor, u64_andNot, u8_shl_u8, u8_shl_u16, u8_shl_u64, u32_shl_u8, u32_shl_u16, u32_shl_u64, u64_shl_u8, u64_shl_u16, u64_shl_u64, u8_shr_u8, u8_shr_u16, u8_shr_u64, u64_shr_u8, u64_shr_u16, u64_shr_u64, u16_quo8, u16_rem8, u16_quo64, u16_rem64, u64_quo8, u64_rem8, u64_quo64, u64_rem64, u32_quo8, u32_rem8, u32_quo64, u32_rem64, int_quo2, int_rem2, int_quo8, int_rem8, int_quo64, int_rem64, u64_shrN, u64_shlN, fold64, fold32, i64_shl_u8, i16_eql, i16_neq, i16_lss, i16_geq, Nat.reduceEqDiff, Nat.reduceLT, Nat.reduceAdd, Nat.reduceMul, Nat.reduceSub, ↓reduceIte, if_true, if_false, eq_self, true_and, and_true, Bool.false_eq_true, Bool.not_true, Bool.not_false, reduceCtorEq, upd_get, List.getElem?_toArray, List.getElem?_cons_zero, List.getElem?_cons_succ, Option.bind_some, rdK_some, List.map_toArray, List.map_cons, List.map_nil, rd_upd, rdO_fblk, wrOk_fblk, wrO_fblk, lget_zero, lget_succ, upd_upd, agg_cells, cells_of_list, List.length_cons, List.length_nil, Nat.add_zero, pv_cells, pl_len, pl_0, pl_1, pl_2, pl_3, pl_4, pl_5, pv_fold, pv_eta, ov_eta, opv_eta, ov_cells, ol_len, ov_fold, opv_cells, opl_len, opv_fold, st_pv, st_ov, st_opv, ol_0, ol_1, ol_2, ol_3, ol_4, ol_5, ol_6, ol_7, ol_8, ol_9, opl_0, opl_1, opl_2, opl_3, opl_4, opl_5, opl_6, opl_7, wrsOk_fblk, wrsO_fblk, fblk_all, Nat.reduceLeDiff, Nat.zero_add, rdsK2, rdsK4, rdsK6, rdsK8, rdsK10, wrsK_nil, wrsK_cons, oneCell_u8, oneCell_u16, oneCell_u32, oneCell_u64, oneCell_i16, oneCell_int, oneCell_bool, oneCell_ptr, oneCell_pointer, oneCell_sl, oneCell_slice, oneCell_string, box_eq, List.all_cons, List.all_nil, Bool.and_self, Ex1_eq, Ex1_and, endQ, resH, res_tmp, res_cell, resC_ptr, tupleOf, Fabg.results103, ldN_52, ldN_60, call_23, call_153, call_154, fa_60_1, st_50, call_111, fa_57_0, ld_26, call_121, ix_26_int, ix_26_u8, ix_26_u16, ix_26_i16, st_30, fa_57_1, ld_55, fa_52_1, ld_5, cv_5_23, fa_52_2, bd_62_0_1, bd_62_0_1_2, bd_62_0_1_2_3, bs_55, st_55, hG6, hv', l2_1]
    | refine W_drawL (id := 1) (by kernel_rfl) [0, 0, 0, 0, 0, 0, 0, 0, 0, 0] (by kernel_rfl) ?_
    | refine W_drawL (id := 7) (by kernel_rfl) [0, 0, 0, 0, 0, 0, 0, 0, 0, 2] (by kernel_rfl) ?_
    | refine W_drawL (id := 8) (by kernel_rfl) [0, 0, 0, 0, 0, 0, 0, 0, 0, 0, 0, 0, 1, 2, 0, 0, 2] (by kernel_rfl) ?_
    | refine Alloc.mono ?_
    | (refine CondW_intro (fun hc => ?_) (fun hc => ?_) <;> (try simp only [Bool.not_eq_true', Bool.not_eq_false'] at hc) <;> (try simp only [hc]))
    | (refine GrdV_intro (fun hc => ?_) (fun hc => ?_) <;> (try simp only [Bool.not_eq_true', Bool.not_eq_false'] at hc) <;> (try simp only [hc]))
    | (refine GrdL_intro (fun hc => ?_) (fun hc => ?_) <;> (try simp only [Bool.not_eq_true', Bool.not_eq_false'] at hc) <;> (try simp only [hc]))))
      rw [em]
      exact ⟨_, Le.refl _, rfl, hC6.weaken hW⟩
end Eng
end Go.Proofs.Ygcfab
