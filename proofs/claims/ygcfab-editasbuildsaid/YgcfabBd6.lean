/-
  Package build: newStruct.
-/
import Derived.Test.YgcfabBd5
set_option linter.unusedSimpArgs false
set_option linter.unusedVariables false
set_option maxRecDepth 100000
namespace Go.Proofs.Ygcfab
namespace Eng
abbrev BdX (H0 G : Heap) (bb : Nat) (S : Ed) (P : Nat → Ptr) (up via dep : Nat → UInt8) : Prop := BdH H0 G bb (bnS S) (bfS S P up via dep)
theorem six {i : Nat} (h : i < 6) : i = 0 ∨ i = 1 ∨ i = 2 ∨ i = 3 ∨ i = 4 ∨ i = 5 := by omega
section
variable {H0 G : Heap} {bb : Nat} {S : Ed} {P : Nat → Ptr} {up via dep : Nat → UInt8}
theorem BdX.openA (hB : BdX H0 G bb S P up via dep) (h1 : 1 ≤ S.len) : ∃ ba cap g, rd G bb 0 = some (sl ba 0 S.len cap) ∧ S.len ≤ cap ∧ G ba = some (fblk (cap * 1) g 30) ∧ (∀ i, i < S.len → rd G ba i = some (u64 (S.A i))) ∧ ba ≠ bb ∧ H0 ba = none ∧
    (∀ i w, i < S.len → BdX H0 (upd G ba (some (fblk (cap * 1) (upd g i (u64 w)) 30))) bb { S with A := upd S.A i w } P up via dep) := by
  obtain ⟨v, w, hf, hV⟩ := hB.is
  obtain ⟨ba, cap, g, a1, a2, a3, a4, a5, a6, a7⟩ := hV.wopen 0 (by omega) h1
  have hb : bs 0 = 1 := rfl
  have hn : bnS S 0 = S.len := rfl
  rw [hn] at a1 a2 a4
  rw [hb] at a3 a4
  have hg : ∀ i, i < S.len → g i = u64 (S.A i) := fun i hi => a4 i (by omega)
  refine ⟨ba, cap, g, ?_, a2, a3, fun i hi => ?_, a5, a6, fun i x hi => ?_⟩
  · rw [rd_eq, hf, rdO_fblk, if_pos (by omega), bc_0, a1]
  · rw [rd_eq, a3, rdO_fblk, if_pos (by omega), hg i hi]
  · have h7 := a7 (upd g i (u64 x)) (fun j => u64 (upd S.A i x j)) (by
      intro j hj
      have hj' : j < S.len := by have : j < S.len * 1 := hj; omega
      by_cases e : j = i
      · subst e; rw [upd_same, upd_same]
      · rw [upd_ne _ _ _ _ e, upd_ne _ _ _ _ e]; exact hg j hj')
    have hB2 : BdH H0 (upd G ba (some (fblk (cap * 1) (upd g i (u64 x)) 30))) bb (bnS S) (upd (bfS S P up via dep) 0 (fun j => u64 (upd S.A i x j))) := ⟨v, w, by rw [upd_ne _ _ _ _ (Ne.symm a5)]; exact hf, h7⟩
    refine hB2.congr (fun j hj => rfl) (fun j hj c hc => ?_)
    rcases six hj with rfl | rfl | rfl | rfl | rfl | rfl <;> rfl
theorem bdX_grow (hB : BdX H0 G bb S P up via dep) (m : UInt16) (hn : S.len + m.toNat ≤ 1000) :
    Fn Fabg.prog 125 #[ptr bb 0, u16 m] G (fun r H' => r = .tuple #[] ∧ BdX H0 H' bb (growE S m.toNat) P up via dep) := by
  refine (bgrow_ok hB m hn).mono ?_
  rintro _ H' ⟨rfl, hB2⟩
  refine ⟨rfl, hB2.congr (fun i hi => ?_) (fun i hi j hj => ?_)⟩
  · rcases six hi with rfl | rfl | rfl | rfl | rfl | rfl <;> rfl
  · rcases six hi with rfl | rfl | rfl | rfl | rfl | rfl
    · show (if j < S.len then u64 (S.A j) else u64 0) = u64 (if j < S.len then S.A j else 0)
      split <;> rfl
    all_goals rfl
theorem bdX_hang (hB : BdX H0 G bb S P up via dep) (p : Ptr) (u vi d : UInt8) (x : Ob) (hx : x.dead = false) (h1 : S.len ≤ 900) (h2 : S.cnt ≤ 900) :
    Fn Fabg.prog 63 #[ptr bb 0, pv p, u8 u, u8 vi, u8 d] G (fun r H' => r = .tuple #[] ∧ BdX H0 H' bb { S with O := upd S.O S.cnt x, cnt := S.cnt + 1 } (upd P S.cnt p) (upd up S.cnt u) (upd via S.cnt vi) (upd dep S.cnt d)) := by
  refine (hang_ok hB p u vi d (fun i hi => ?_)).mono ?_
  · rcases six hi with rfl | rfl | rfl | rfl | rfl | rfl
    · show S.len + 1 ≤ 1000; omega
    all_goals (show S.cnt + 1 ≤ 1000; omega)
  rintro _ H' ⟨rfl, hB2⟩
  have key : ∀ (q : Nat → UInt8) (y : UInt8) (j : Nat), j < (S.cnt + 1) * 1 → appF 1 S.cnt (fun j => u8 (q j)) [u8 y] j = u8 (upd q S.cnt y j) := by
    intro q y j hj
    unfold appF
    by_cases e : j < S.cnt * 1
    · rw [if_pos e, upd_ne _ _ _ _ (by omega)]
    · rw [if_neg e, show j = S.cnt by omega, upd_same, show S.cnt - S.cnt * 1 = 0 by omega]
      rfl
  refine ⟨rfl, hB2.congr (fun i hi => ?_) (fun i hi j hj => ?_)⟩
  · rcases six hi with rfl | rfl | rfl | rfl | rfl | rfl <;> rfl
  · rcases six hi with rfl | rfl | rfl | rfl | rfl | rfl
    · rfl
    · have hj' : j < (S.cnt + 1) * 6 := hj
      show appF 6 S.cnt (fun j => lget (pl (P (j / 6))) (j % 6)) (pl p) j = lget (pl (upd P S.cnt p (j / 6))) (j % 6)
      unfold appF
      by_cases e : j < S.cnt * 6
      · rw [if_pos e, upd_ne _ _ _ _ (by omega)]
      · rw [if_neg e, show j / 6 = S.cnt by omega, upd_same, show j - S.cnt * 6 = j % 6 by omega]
    · exact key up u j hj
    · exact key via vi j hj
    · exact key dep d j hj
    · have hj' : j < (S.cnt + 1) * 1 := hj
      show appF 1 S.cnt (fun j => .bool (S.O j).dead) [.bool false] j = .bool (upd S.O S.cnt x j).dead
      unfold appF
      by_cases e : j < S.cnt * 1
      · rw [if_pos e, upd_ne _ _ _ _ (by omega)]
      · rw [if_neg e, show j = S.cnt by omega, upd_same, hx, show S.cnt - S.cnt * 1 = 0 by omega]
        rfl
theorem BdX.congr' {S' : Ed} (hB : BdX H0 G bb S P up via dep) (h1 : S'.len = S.len) (h2 : S'.cnt = S.cnt) (h3 : ∀ i, i < S.len → S.A i = S'.A i) (h4 : ∀ k, k < S.cnt → (S.O k).dead = (S'.O k).dead) : BdX H0 G bb S' P up via dep := by
  refine BdH.congr hB (fun i hi => ?_) (fun i hi j hj => ?_)
  · rcases six hi with rfl | rfl | rfl | rfl | rfl | rfl
    · exact h1
    all_goals exact h2
  · rcases six hi with rfl | rfl | rfl | rfl | rfl | rfl
    · have hj' : j < S.len * 1 := hj
      show u64 (S.A j) = u64 (S'.A j)
      rw [h3 j (by omega)]
    · rfl
    · rfl
    · rfl
    · rfl
    · have hj' : j < S.cnt * 1 := hj
      show Value.bool (S.O j).dead = Value.bool (S'.O j).dead
      rw [h4 j (by omega)]
end
theorem makeStruct_any {f t : UInt16} (hf : f.toNat < 256) (ht : t.toNat ≤ 256) : makeStructL f t 0 0 = makeStructL f f 0 0 := by
  have e1 := makeStruct_nat f.toNat t.toNat 0 0 hf ht (by omega) (by omega)
  have e2 := makeStruct_nat f.toNat f.toNat 0 0 hf (by omega) (by omega) (by omega)
  rw [UInt16.ofNat_toNat, UInt16.ofNat_toNat] at e1
  rw [UInt16.ofNat_toNat] at e2
  apply UInt64.toNat_inj.1
  simp only [and_self, if_true] at e1 e2
  exact e1.trans e2.symm
/-- what has been made stands in the builder as in the editor -/
theorem bd_made {H0 H2 G : Heap} {bb : Nat} {S : Ed} {P : Nat → Ptr} {up via dep : Nat → UInt8} (g : Gd S) (hS : Sim S P up via dep) (op : OpR) (hl : Lv S op.h.toNat) (P0 : Ptr) (hst : strB P0 = false) (w : UInt64) (hr : (roomB S op (wordsL P0) 1).2 = true)
    (hw : w = pointerL (roomB S op (wordsL P0) 1).1 (newP S P0 (roomB S op (wordsL P0) 1).1)) (hle : Le H0 H2)
    (hX : BdX H2 G bb { growE { S with A := upd S.A (roomB S op (wordsL P0) 1).1.toNat w } (wordsL P0).toNat with O := upd S.O S.cnt ⟨newP S P0 (roomB S op (wordsL P0) 1).1, Int16.ofInt (op.h.toNat : Int), op.i, false, false⟩, cnt := S.cnt + 1 }
      (upd P S.cnt { P0 with at_ := UInt16.ofNat S.len }) (upd up S.cnt op.h) (upd via S.cnt op.i) (upd dep S.cnt (dep op.h.toNat + 1))) : BdS H0 G bb (makeE S op P0).2 := by
  obtain ⟨r1, r2, r3, r4, r5, r6⟩ := room_true hr
  have hat := slotB_lt S op.h op.i r2
  rw [← r1] at hat
  have em : (makeE S op P0).2 = ⟨upd (growE S (wordsL P0).toNat).A (roomB S op (wordsL P0) 1).1.toNat (pointerL (roomB S op (wordsL P0) 1).1 (newP S P0 (roomB S op (wordsL P0) 1).1)), S.len + (wordsL P0).toNat,
      upd S.O S.cnt ⟨newP S P0 (roomB S op (wordsL P0) 1).1, Int16.ofInt (op.h.toNat : Int), op.i, false, false⟩, S.cnt + 1⟩ := by
    have e : makeE S op P0 = if (roomB S op (wordsL P0) 1).2 = false then (false, S)
        else (true, ⟨upd (growE S (wordsL P0).toNat).A (roomB S op (wordsL P0) 1).1.toNat (pointerL (roomB S op (wordsL P0) 1).1 (newP S P0 (roomB S op (wordsL P0) 1).1)), S.len + (wordsL P0).toNat,
          upd S.O S.cnt ⟨newP S P0 (roomB S op (wordsL P0) 1).1, Int16.ofInt (op.h.toNat : Int), op.i, false, false⟩, S.cnt + 1⟩) := rfl
    rw [e, if_neg (by rw [hr]; simp)]
  rw [em]
  generalize (roomB S op (wordsL P0) 1).1 = at_ at *
  have hcnt := g.cnt
  have hdp := hS.dep _ hl
  have hsim := Sim.new (S := S) (S' := ⟨upd (growE S (wordsL P0).toNat).A at_.toNat (pointerL at_ (newP S P0 at_)), S.len + (wordsL P0).toNat, upd S.O S.cnt ⟨newP S P0 at_, Int16.ofInt (op.h.toNat : Int), op.i, false, false⟩, S.cnt + 1⟩) (h := op.h) (i := op.i) (d := dep op.h.toNat + 1) (p := { P0 with at_ := UInt16.ofNat S.len })
    hS rfl (fun k hk => upd_ne _ _ _ _ (by omega)) hcnt.1 hcnt.2 hl.1 (by show (upd S.O S.cnt _ S.cnt).up = _; rw [upd_same]) (by show (upd S.O S.cnt _ S.cnt).via = _; rw [upd_same]) (by
      show _ = (upd S.O S.cnt _ S.cnt).p ∨ (wlessB (upd S.O S.cnt _ S.cnt).p = true ∧ ∃ a, _ = { (upd S.O S.cnt _ S.cnt).p with at_ := a })
      rw [upd_same]
      cases c : wlessB P0
      · left
        show _ = newP S P0 at_
        unfold newP; rw [c]; rfl
      · right
        have e : newP S P0 at_ = { P0 with at_ := at_ } := by unfold newP; rw [c]; rfl
        refine ⟨?_, UInt16.ofNat S.len, ?_⟩
        · show wlessB (newP S P0 at_) = true
          rw [e, wless_at]; exact c
        · show _ = { newP S P0 at_ with at_ := UInt16.ofNat S.len }
          rw [e]) (ends_le (g.e17 hl).1 20 (by omega)).1 (by
      show _ = (if (upd S.O S.cnt _ S.cnt).elem then 0 else 1) + _
      rw [upd_same, UInt8.toNat_add, hdp]
      have : (1 : UInt8).toNat = 1 := rfl
      rw [this]
      show _ = 1 + _
      omega)
  refine ⟨_, _, _, _, (hX.congr' ?_ ?_ (fun j hj => ?_) (fun k hk => ?_)).weaken hle, hsim.1⟩
  · rfl
  · rfl
  · show (if j < S.len then upd S.A at_.toNat w j else 0) = upd (fun i => if i < S.len then S.A i else 0) at_.toNat (pointerL at_ (newP S P0 at_)) j
    rw [← hw]
    by_cases e : j = at_.toNat
    · rw [e, upd_same, upd_same, if_pos hat]
    · rw [upd_ne _ _ _ _ e, upd_ne _ _ _ _ e]
  · rfl
set_option maxHeartbeats 2000000 in
theorem newStruct_ok {H0 G : Heap} {bb : Nat} {S : Ed} (hB : BdS H0 G bb S) (g : Gd S) (op : OpR) (hl : Lv S op.h.toNat) :
    Fn Fabg.prog 65 #[ptr bb 0, opv op] G (fun r H' => r = .bool (makeE S op ⟨1, 0, op.x, op.y, 0, 0⟩).1 ∧ BdS H0 H' bb (makeE S op ⟨1, 0, op.x, op.y, 0, 0⟩).2) := by
  have hlen := g.len
  have hcnt := g.cnt
  obtain ⟨P, up, via, dep, hX, hS⟩ := hB.is
  refine Fn_of Fabg.func65 rfl Fabg.ntmps65 (by simp) (WV_sound _ _ _ _ ?_)
  rw [argEnv2]
  simp -implicitDefEqProofs only [WV_seq, WV_cond, WV_block, WV_skip, WV_ret, WV_exit, WV_region, WV_draw, WV_loop, thenQ_normal, thenQ_ret, thenQ_exit, blockQ_normal, blockQ_ret, blockQ_exit, V_nil, V_cons, KV_eq, VL_nil, VL_cons, KL_eq, vcl_zero, vcl_one, vcl_two, isV_same, isV_eq, monoK_eq, dOk, put, gd_none, gd_some, gdst_eq, gdv_some, gdB_true, gdB_false, gdB_undef, ev_const, ev_tmp, lit_i64, lit_i32, lit_bool, lit_pointer, lit_slice, lit_string, CondW_true, CondW_false, GrdV_true, GrdV_false, GrdL_true, GrdL_false, vc_move, vc_assign, vc_load, vc_store, vc_field, vc_indexAddr, vc_index, vc_box, vc_alloc, vc_build, vc_buildSlice, vc_makeSlice, vc_slice, vc_extract, vc_unOp, vc_convert, vc_bin, vc_pick, vc_call, vc_append, vc_len, vc_min, vc_max, vc_copy, vc_clear, pickK_true, pickK_false, stK_eq, not_bool, min_i64, max_i64, min_u16, max_u16, extract_tuple, vc_nil, nilK_ptr, int_add, int_sub, int_mul, int_eql, int_neq, int_lss, int_leq, int_gtr, int_geq, u8_add, u8_sub, u8_mul, u8_eql, u8_neq, u8_lss, u8_leq, u8_gtr, u8_geq, u16_add, u16_sub, u16_mul, u16_eql, u16_neq, u16_lss, u16_leq, u16_gtr, u16_geq, u32_add, u32_sub, u32_mul, u32_eql, u32_neq, u32_lss, u32_leq, u32_gtr, u32_geq, u64_add, u64_sub, u64_mul, u64_eql, u64_neq, u64_lss, u64_leq, u64_gtr, u64_geq, u8_and, u8_or, u8_xor, u8_andNot, u64_and, u64_or, u64_xor, u64_andNot, u8_shl_u8, u8_shl_u16, u8_shl_u64, u32_shl_u8, u32_shl_u16, u32_shl_u64, u64_shl_u8, u64_shl_u16, u64_shl_u64, u8_shr_u8, u8_shr_u16, u8_shr_u64, u64_shr_u8, u64_shr_u16, u64_shr_u64, u16_quo8, u16_rem8, u16_quo64, u16_rem64, u64_quo8, u64_rem8, u64_quo64, u64_rem64, u32_quo8, u32_rem8, u32_quo64, u32_rem64, int_quo2, int_rem2, int_quo8, int_rem8, int_quo64, int_rem64, u64_shrN, u64_shlN, fold64, fold32, i64_shl_u8, i16_eql, i16_neq, i16_lss, i16_geq, Nat.reduceEqDiff, Nat.reduceLT, Nat.reduceAdd, Nat.reduceMul, Nat.reduceSub, ↓reduceIte, if_true, if_false, eq_self, true_and, and_true, Bool.false_eq_true, Bool.not_true, Bool.not_false, reduceCtorEq, upd_get, List.getElem?_toArray, List.getElem?_cons_zero, List.getElem?_cons_succ, Option.bind_some, rdK_some, List.map_toArray, List.map_cons, List.map_nil, rd_upd, rdO_fblk, wrOk_fblk, wrO_fblk, lget_zero, lget_succ, upd_upd, agg_cells, cells_of_list, List.length_cons, List.length_nil, Nat.add_zero, pv_cells, pl_len, pl_0, pl_1, pl_2, pl_3, pl_4, pl_5, pv_fold, pv_eta, ov_eta, opv_eta, ov_cells, ol_len, ov_fold, opv_cells, opl_len, opv_fold, st_pv, st_ov, st_opv, ol_0, ol_1, ol_2, ol_3, ol_4, ol_5, ol_6, ol_7, ol_8, ol_9, opl_0, opl_1, opl_2, opl_3, opl_4, opl_5, opl_6, opl_7, wrsOk_fblk, wrsO_fblk, fblk_all, Nat.reduceLeDiff, Nat.zero_add, rdsK2, rdsK4, rdsK6, rdsK8, rdsK10, wrsK_nil, wrsK_cons, oneCell_u8, oneCell_u16, oneCell_u32, oneCell_u64, oneCell_i16, oneCell_int, oneCell_bool, oneCell_ptr, oneCell_pointer, oneCell_sl, oneCell_slice, oneCell_string, box_eq, List.all_cons, List.all_nil, Bool.and_self, Ex1_eq, Ex1_and, endQ, resH, res_tmp, res_cell, resC_ptr, tupleOf, Fabg.results65, fa_77_0, ld_26, len_26, lenS_26, cv_3_50, fa_52_3, ld_5, fa_52_4, bd_60_, bd_60_0_1_2_3, bd_60_0_1_2_3_4_5, bd_60_0_1_3, bd_60_0_1_4_5, bd_60_0_2_3, bd_60_0_3, bd_60_0_4_5, k_u8_1, tn_u8_1, al_60, stN_60, ldN_60, call_23, ldN_52, call_124, fa_60_1, ld_50, call_87, ix_26_int, ix_26_u8, ix_26_u16, ix_26_i16, st_30, call_125, cv_5_50, call_126, fa_52_1, fa_52_2, fa_77_5, ld_39, ix_39_int, ix_39_u8, ix_39_u16, ix_39_i16, call_63, opv_cells, opl_len]
  refine ⟨fun b3 hb3 => ?_⟩
  have hX1 := hX.rebase hb3 (fblk 8 (lget (opl op)) 52)
  have hH0 : Le H0 (upd H0 b3 (some (fblk 8 (lget (opl op)) 52))) := (Le.refl H0).fresh (le_none hX.le0 hb3) _
  have i3 : upd H0 b3 (some (fblk 8 (lget (opl op)) 52)) b3 = some (fblk 8 (lget (opl op)) 52) := upd_same _ _ _
  generalize upd H0 b3 (some (fblk 8 (lget (opl op)) 52)) = H1 at *
  generalize upd G b3 (some (fblk 8 (lget (opl op)) 52)) = G1 at *
  clear hX hb3
  obtain ⟨o0, o1, o2, o3, o4, o5, o6, o7⟩ := opAt_of (hX1.le0 _ _ i3)
  obtain ⟨b, c, hR⟩ := hX1.rdr hlen.1 hcnt.1
  have x0 := hR.r0
  (repeat' (first
    | simp -implicitDefEqProofs only [WV_seq, WV_cond, WV_block, WV_skip, WV_ret, WV_exit, WV_region, WV_draw, WV_loop, thenQ_normal, thenQ_ret, thenQ_exit, blockQ_normal, blockQ_ret, blockQ_exit, V_nil, V_cons, KV_eq, VL_nil, VL_cons, KL_eq, vcl_zero, vcl_one, vcl_two, isV_same, isV_eq, monoK_eq, dOk, put, gd_none, gd_some, gdst_eq, gdv_some, gdB_true, gdB_false, gdB_undef, ev_const, ev_tmp, lit_i64, lit_i32, lit_bool, lit_pointer, lit_slice, lit_string, CondW_true, CondW_false, GrdV_true, GrdV_false, GrdL_true, GrdL_false, vc_move, vc_assign, vc_load, vc_store, vc_field, vc_indexAddr, vc_index, vc_box, vc_alloc, vc_build, vc_buildSlice, vc_makeSlice, vc_slice, vc_extract, vc_unOp, vc_convert, vc_bin, vc_pick, vc_call, vc_append, vc_len, vc_min, vc_max, vc_copy, vc_clear, pickK_true, pickK_false, stK_eq, not_bool, min_i64, max_i64, min_u16, max_u16, extract_tuple, vc_nil, nilK_ptr, int_add, int_sub, int_mul, int_eql, int_neq, int_lss, int_leq, int_gtr, int_geq, u8_add, u8_sub, u8_mul, u8_eql, u8_neq, u8_lss, u8_leq, u8_gtr, u8_geq, u16_add, u16_sub, u16_mul, u16_eql, u16_neq, u16_lss, u16_leq, u16_gtr, u16_geq, u32_add, u32_sub, u32_mul, u32_eql, u32_neq, u32_lss, u32_leq, u32_gtr, u32_geq, u64_add, u64_sub, u64_mul, u64_eql, u64_neq, u64_lss, u64_leq, u64_gtr, u64_geq, u8_and, u8_or, u8_xor, u8_andNot, u64_and, u64_or, u64_xor, u64_andNot, u8_shl_u8, u8_shl_u16, u8_shl_u64, u32_shl_u8, u32_shl_u16, u32_shl_u64, u64_shl_u8, u64_shl_u16, u64_shl_u64, u8_shr_u8, u8_shr_u16, u8_shr_u64, u64_shr_u8, u64_shr_u16, u64_shr_u64, u16_quo8, u16_rem8, u16_quo64, u16_rem64, u64_quo8, u64_rem8, u64_quo64, u64_rem64, u32_quo8, u32_rem8, u32_quo64, u32_rem64, int_quo2, int_rem2, int_quo8, int_rem8, int_quo64, int_rem64, u64_shrN, u64_shlN, fold64, fold32, i64_shl_u8, i16_eql, i16_neq, i16_lss, i16_geq, Nat.reduceEqDiff, Nat.reduceLT, Nat.reduceAdd, Nat.reduceMul, Nat.reduceSub, ↓reduceIte, if_true, if_false, eq_self, true_and, and_true, Bool.false_eq_true, Bool.not_true, Bool.not_false, reduceCtorEq, upd_get, List.getElem?_toArray, List.getElem?_cons_zero, List.getElem?_cons_succ, Option.bind_some, rdK_some, List.map_toArray, List.map_cons, List.map_nil, rd_upd, rdO_fblk, wrOk_fblk, wrO_fblk, lget_zero, lget_succ, upd_upd, agg_cells, cells_of_list, List.length_cons, List.length_nil, Nat.add_zero, pv_cells, pl_len, pl_0, pl_1, pl_2, pl_3, pl_4, pl_5, pv_fold, pv_eta, ov_eta, opv_eta, ov_cells, ol_len, ov_fold, opv_cells, opl_len, opv_fold, st_pv, st_ov, st_opv, ol_0, ol_1, ol_2, ol_3, ol_4, ol_5, ol_6, ol_7, ol_8, ol_9, opl_0, opl_1, opl_2, opl_3, opl_4, opl_5, opl_6, opl_7, wrsOk_fblk, wrsO_fblk, fblk_all, Nat.reduceLeDiff, Nat.zero_add, rdsK2, rdsK4, rdsK6, rdsK8, rdsK10, wrsK_nil, wrsK_cons, oneCell_u8, oneCell_u16, oneCell_u32, oneCell_u64, oneCell_i16, oneCell_int, oneCell_bool, oneCell_ptr, oneCell_pointer, oneCell_sl, oneCell_slice, oneCell_string, box_eq, List.all_cons, List.all_nil, Bool.and_self, Ex1_eq, Ex1_and, endQ, resH, res_tmp, res_cell, resC_ptr, tupleOf, Fabg.results65, fa_77_0, ld_26, len_26, lenS_26, cv_3_50, fa_52_3, ld_5, fa_52_4, bd_60_, bd_60_0_1_2_3, bd_60_0_1_2_3_4_5, bd_60_0_1_3, bd_60_0_1_4_5, bd_60_0_2_3, bd_60_0_3, bd_60_0_4_5, k_u8_1, tn_u8_1, al_60, stN_60, ldN_60, call_23, ldN_52, call_124, fa_60_1, ld_50, call_87, ix_26_int, ix_26_u8, ix_26_u16, ix_26_i16, st_30, call_125, cv_5_50, call_126, fa_52_1, fa_52_2, fa_77_5, ld_39, ix_39_int, ix_39_u8, ix_39_u16, ix_39_i16, call_63, o0, o1, o2, o3, o4, o5, o6, o7, x0, toU16_nat, pv_cells, pl_len]
    | refine W_drawL (id := 1) (by kernel_rfl) [0, 0, 0, 0, 0, 0, 0, 0, 0, 0, 0, 1, 2] (by kernel_rfl) ?_
    | refine W_drawL (id := 6) (by kernel_rfl) [0, 0, 0, 0, 0, 0, 0, 0, 0, 0, 0, 0, 0, 0, 2] (by kernel_rfl) ?_
    | refine W_drawL (id := 9) (by kernel_rfl) [0, 0, 0, 0, 0, 0, 0, 0, 0, 0, 0, 0, 0, 0, 0, 2] (by kernel_rfl) ?_
    | refine Alloc.mono ?_
    | (refine CondW_intro (fun hc => ?_) (fun hc => ?_) <;> (try simp only [Bool.not_eq_true', Bool.not_eq_false'] at hc) <;> (try simp only [hc]))
    | (refine GrdV_intro (fun hc => ?_) (fun hc => ?_) <;> (try simp only [Bool.not_eq_true', Bool.not_eq_false'] at hc) <;> (try simp only [hc]))
    | (refine GrdL_intro (fun hc => ?_) (fun hc => ?_) <;> (try simp only [Bool.not_eq_true', Bool.not_eq_false'] at hc) <;> (try simp only [hc]))))
  refine ⟨fun b5 hb5 => ?_⟩
  have hX2 := hX1.rebase hb5 (fblk 6 (lget (pl ⟨1, UInt16.ofNat S.len, op.x, op.y, 0, 0⟩)) 60)
  have hH1 : Le H1 (upd H1 b5 (some (fblk 6 (lget (pl ⟨1, UInt16.ofNat S.len, op.x, op.y, 0, 0⟩)) 60))) := (Le.refl H1).fresh (le_none hX1.le0 hb5) _
  have i5 : upd H1 b5 (some (fblk 6 (lget (pl ⟨1, UInt16.ofNat S.len, op.x, op.y, 0, 0⟩)) 60)) b5 = some (fblk 6 (lget (pl ⟨1, UInt16.ofNat S.len, op.x, op.y, 0, 0⟩)) 60) := upd_same _ _ _
  have i3' := hH1 _ _ i3
  have z5 : b3 ≠ b5 := ne_fresh (rd_dom o0) hb5
  (repeat' (first
    | simp -implicitDefEqProofs only [WV_seq, WV_cond, WV_block, WV_skip, WV_ret, WV_exit, WV_region, WV_draw, WV_loop, thenQ_normal, thenQ_ret, thenQ_exit, blockQ_normal, blockQ_ret, blockQ_exit, V_nil, V_cons, KV_eq, VL_nil, VL_cons, KL_eq, vcl_zero, vcl_one, vcl_two, isV_same, isV_eq, monoK_eq, dOk, put, gd_none, gd_some, gdst_eq, gdv_some, gdB_true, gdB_false, gdB_undef, ev_const, ev_tmp, lit_i64, lit_i32, lit_bool, lit_pointer, lit_slice, lit_string, CondW_true, CondW_false, GrdV_true, GrdV_false, GrdL_true, GrdL_false, vc_move, vc_assign, vc_load, vc_store, vc_field, vc_indexAddr, vc_index, vc_box, vc_alloc, vc_build, vc_buildSlice, vc_makeSlice, vc_slice, vc_extract, vc_unOp, vc_convert, vc_bin, vc_pick, vc_call, vc_append, vc_len, vc_min, vc_max, vc_copy, vc_clear, pickK_true, pickK_false, stK_eq, not_bool, min_i64, max_i64, min_u16, max_u16, extract_tuple, vc_nil, nilK_ptr, int_add, int_sub, int_mul, int_eql, int_neq, int_lss, int_leq, int_gtr, int_geq, u8_add, u8_sub, u8_mul, u8_eql, u8_neq, u8_lss, u8_leq, u8_gtr, u8_geq, u16_add, u16_sub, u16_mul, u16_eql, u16_neq, u16_lss, u16_leq, u16_gtr, u16_geq, u32_add, u32_sub, u32_mul, u32_eql, u32_neq, u32_lss, u32_leq, u32_gtr, u32_geq, u64_add, u64_sub, u64_mul, u64_eql, u64_neq, u64_lss, u64_leq, u64_gtr, u64_geq, u8_and, u8_or, u8_xor, u8_andNot, u64_and, u64_or, u64_xor, u64_andNot, u8_shl_u8, u8_shl_u16, u8_shl_u64, u32_shl_u8, u32_shl_u16, u32_shl_u64, u64_shl_u8, u64_shl_u16, u64_shl_u64, u8_shr_u8, u8_shr_u16, u8_shr_u64, u64_shr_u8, u64_shr_u16, u64_shr_u64, u16_quo8, u16_rem8, u16_quo64, u16_rem64, u64_quo8, u64_rem8, u64_quo64, u64_rem64, u32_quo8, u32_rem8, u32_quo64, u32_rem64, int_quo2, int_rem2, int_quo8, int_rem8, int_quo64, int_rem64, u64_shrN, u64_shlN, fold64, fold32, i64_shl_u8, i16_eql, i16_neq, i16_lss, i16_geq, Nat.reduceEqDiff, Nat.reduceLT, Nat.reduceAdd, Nat.reduceMul, Nat.reduceSub, ↓reduceIte, if_true, if_false, eq_self, true_and, and_true, Bool.false_eq_true, Bool.not_true, Bool.not_false, reduceCtorEq, upd_get, List.getElem?_toArray, List.getElem?_cons_zero, List.getElem?_cons_succ, Option.bind_some, rdK_some, List.map_toArray, List.map_cons, List.map_nil, rd_upd, rdO_fblk, wrOk_fblk, wrO_fblk, lget_zero, lget_succ, upd_upd, agg_cells, cells_of_list, List.length_cons, List.length_nil, Nat.add_zero, pv_cells, pl_len, pl_0, pl_1, pl_2, pl_3, pl_4, pl_5, pv_fold, pv_eta, ov_eta, opv_eta, ov_cells, ol_len, ov_fold, opv_cells, opl_len, opv_fold, st_pv, st_ov, st_opv, ol_0, ol_1, ol_2, ol_3, ol_4, ol_5, ol_6, ol_7, ol_8, ol_9, opl_0, opl_1, opl_2, opl_3, opl_4, opl_5, opl_6, opl_7, wrsOk_fblk, wrsO_fblk, fblk_all, Nat.reduceLeDiff, Nat.zero_add, rdsK2, rdsK4, rdsK6, rdsK8, rdsK10, wrsK_nil, wrsK_cons, oneCell_u8, oneCell_u16, oneCell_u32, oneCell_u64, oneCell_i16, oneCell_int, oneCell_bool, oneCell_ptr, oneCell_pointer, oneCell_sl, oneCell_slice, oneCell_string, box_eq, List.all_cons, List.all_nil, Bool.and_self, Ex1_eq, Ex1_and, endQ, resH, res_tmp, res_cell, resC_ptr, tupleOf, Fabg.results65, fa_77_0, ld_26, len_26, lenS_26, cv_3_50, fa_52_3, ld_5, fa_52_4, bd_60_, bd_60_0_1_2_3, bd_60_0_1_2_3_4_5, bd_60_0_1_3, bd_60_0_1_4_5, bd_60_0_2_3, bd_60_0_3, bd_60_0_4_5, k_u8_1, tn_u8_1, al_60, stN_60, ldN_60, call_23, ldN_52, call_124, fa_60_1, ld_50, call_87, ix_26_int, ix_26_u8, ix_26_u16, ix_26_i16, st_30, call_125, cv_5_50, call_126, fa_52_1, fa_52_2, fa_77_5, ld_39, ix_39_int, ix_39_u8, ix_39_u16, ix_39_i16, call_63, upd_same, pv_cells, pl_len, st_pv]
    | refine W_drawL (id := 1) (by kernel_rfl) [0, 0, 0, 0, 0, 0, 0, 0, 0, 0, 0, 1, 2] (by kernel_rfl) ?_
    | refine W_drawL (id := 6) (by kernel_rfl) [0, 0, 0, 0, 0, 0, 0, 0, 0, 0, 0, 0, 0, 0, 2] (by kernel_rfl) ?_
    | refine W_drawL (id := 9) (by kernel_rfl) [0, 0, 0, 0, 0, 0, 0, 0, 0, 0, 0, 0, 0, 0, 0, 2] (by kernel_rfl) ?_
    | refine Alloc.mono ?_
    | (refine CondW_intro (fun hc => ?_) (fun hc => ?_) <;> (try simp only [Bool.not_eq_true', Bool.not_eq_false'] at hc) <;> (try simp only [hc]))
    | (refine GrdV_intro (fun hc => ?_) (fun hc => ?_) <;> (try simp only [Bool.not_eq_true', Bool.not_eq_false'] at hc) <;> (try simp only [hc]))
    | (refine GrdL_intro (fun hc => ?_) (fun hc => ?_) <;> (try simp only [Bool.not_eq_true', Bool.not_eq_false'] at hc) <;> (try simp only [hc]))))
  generalize upd H1 b5 (some (fblk 6 (lget (pl ⟨1, UInt16.ofNat S.len, op.x, op.y, 0, 0⟩)) 60)) = H2 at *
  generalize upd G1 b5 (some (fblk 6 (lget (pl ⟨1, UInt16.ofNat S.len, op.x, op.y, 0, 0⟩)) 60)) = G2 at *
  clear o0 o1 o2 o3 o4 o5 o6 o7 x0 hR hb5 hX1
  obtain ⟨o0, o1, o2, o3, o4, o5, o6, o7⟩ := opAt_of (hX2.le0 _ _ i3')
  obtain ⟨p0, p1, p2, p3, p4, p5⟩ := ptAt_of (hX2.le0 _ _ i5)
  obtain ⟨b', c', hR2⟩ := hX2.rdr hlen.1 hcnt.1
  have cw : Fn Fabg.prog 23 #[pv ⟨1, UInt16.ofNat S.len, op.x, op.y, 0, 0⟩] G2 (fun r H' => r = u16 (wordsL ⟨1, 0, op.x, op.y, 0, 0⟩) ∧ H' = G2) := words_ok _ G2
  have cr := broom_ok g hR2 hS op hl (wordsL ⟨1, 0, op.x, op.y, 0, 0⟩) 1 (by omega)
  have hle2 : Le H0 H2 := hH0.trans hH1
  have hrt := room_true (S := S) (op := op) (w := wordsL ⟨1, 0, op.x, op.y, 0, 0⟩) (hd := 1)
  have hsl := slotB_lt S op.h op.i
  have hmade := fun w hr hw G hX => bd_made (H0 := H0) (H2 := H2) (G := G) (bb := bb) (P := P) g hS op hl ⟨1, 0, op.x, op.y, 0, 0⟩ rfl w hr hw hle2 hX
  have hmf : (roomB S op (wordsL ⟨1, 0, op.x, op.y, 0, 0⟩) 1).2 = false → makeE S op ⟨1, 0, op.x, op.y, 0, 0⟩ = (false, S) := fun h => by unfold makeE; rw [if_pos h]
  have hmt : (roomB S op (wordsL ⟨1, 0, op.x, op.y, 0, 0⟩) 1).2 = true → (makeE S op ⟨1, 0, op.x, op.y, 0, 0⟩).1 = true := fun h => by unfold makeE; rw [if_neg (by rw [h]; simp)]
  have hwp : ∀ at_ : UInt16, at_.toNat < S.len → makeStructL at_ (UInt16.ofNat S.len) op.x op.y = pointerL at_ (newP S ⟨1, 0, op.x, op.y, 0, 0⟩ at_) := by
    intro at_ hat
    unfold newP
    cases c : wlessB ⟨1, 0, op.x, op.y, 0, 0⟩
    · rfl
    · obtain ⟨_, _, w3, w4⟩ := wless_words c
      have w3' : op.y = 0 := w3
      have w4' : op.x = 0 := w4
      show makeStructL at_ (UInt16.ofNat S.len) op.x op.y = makeStructL at_ at_ op.x op.y
      rw [w3', w4']
      exact makeStruct_any (by omega) (by rw [tn16 (by omega)]; omega)
  generalize hmk : makeE S op ⟨1, 0, op.x, op.y, 0, 0⟩ = M at *
  generalize hrm : roomB S op (wordsL ⟨1, 0, op.x, op.y, 0, 0⟩) 1 = R at *
  obtain ⟨at_, ok⟩ := R
  simp only [] at cr hrt hmade hmf hmt
  cases ok with
  | false =>
    (repeat' (first
    | simp -implicitDefEqProofs only [WV_seq, WV_cond, WV_block, WV_skip, WV_ret, WV_exit, WV_region, WV_draw, WV_loop, thenQ_normal, thenQ_ret, thenQ_exit, blockQ_normal, blockQ_ret, blockQ_exit, V_nil, V_cons, KV_eq, VL_nil, VL_cons, KL_eq, vcl_zero, vcl_one, vcl_two, isV_same, isV_eq, monoK_eq, dOk, put, gd_none, gd_some, gdst_eq, gdv_some, gdB_true, gdB_false, gdB_undef, ev_const, ev_tmp, lit_i64, lit_i32, lit_bool, lit_pointer, lit_slice, lit_string, CondW_true, CondW_false, GrdV_true, GrdV_false, GrdL_true, GrdL_false, vc_move, vc_assign, vc_load, vc_store, vc_field, vc_indexAddr, vc_index, vc_box, vc_alloc, vc_build, vc_buildSlice, vc_makeSlice, vc_slice, vc_extract, vc_unOp, vc_convert, vc_bin, vc_pick, vc_call, vc_append, vc_len, vc_min, vc_max, vc_copy, vc_clear, pickK_true, pickK_false, stK_eq, not_bool, min_i64, max_i64, min_u16, max_u16, extract_tuple, vc_nil, nilK_ptr, int_add, int_sub, int_mul, int_eql, int_neq, int_lss, int_leq, int_gtr, int_geq, u8_add, u8_sub, u8_mul, u8_eql, u8_neq, u8_lss, u8_leq, u8_gtr, u8_geq, u16_add, u16_sub, u16_mul, u16_eql, u16_neq, u16_lss, u16_leq, u16_gtr, u16_geq, u32_add, u32_sub, u32_mul, u32_eql, u32_neq, u32_lss, u32_leq, u32_gtr, u32_geq, u64_add, u64_sub, u64_mul, u64_eql, u64_neq, u64_lss, u64_leq, u64_gtr, u64_geq, u8_and, u8_or, u8_xor, u8_andNot, u64_and, u64_or, u64_xor, u64_andNot, u8_shl_u8, u8_shl_u16, u8_shl_u64, u32_shl_u8, u32_shl_u16, u32_shl_u64, u64_shl_u8, u64_shl_u16, u64_shl_u64, u8_shr_u8, u8_shr_u16, u8_shr_u64, u64_shr_u8, u64_shr_u16, u64_shr_u64, u16_quo8, u16_rem8, u16_quo64, u16_rem64, u64_quo8, u64_rem8, u64_quo64, u64_rem64, u32_quo8, u32_rem8, u32_quo64, u32_rem64, int_quo2, int_rem2, int_quo8, int_rem8, int_quo64, int_rem64, u64_shrN, u64_shlN, fold64, fold32, i64_shl_u8, i16_eql, i16_neq, i16_lss, i16_geq, Nat.reduceEqDiff, Nat.reduceLT, Nat.reduceAdd, Nat.reduceMul, Nat.reduceSub, ↓reduceIte, if_true, if_false, eq_self, true_and, and_true, Bool.false_eq_true, Bool.not_true, Bool.not_false, reduceCtorEq, upd_get, List.getElem?_toArray, List.getElem?_cons_zero, List.getElem?_cons_succ, Option.bind_some, rdK_some, List.map_toArray, List.map_cons, List.map_nil, rd_upd, rdO_fblk, wrOk_fblk, wrO_fblk, lget_zero, lget_succ, upd_upd, agg_cells, cells_of_list, List.length_cons, List.length_nil, Nat.add_zero, pv_cells, pl_len, pl_0, pl_1, pl_2, pl_3, pl_4, pl_5, pv_fold, pv_eta, ov_eta, opv_eta, ov_cells, ol_len, ov_fold, opv_cells, opl_len, opv_fold, st_pv, st_ov, st_opv, ol_0, ol_1, ol_2, ol_3, ol_4, ol_5, ol_6, ol_7, ol_8, ol_9, opl_0, opl_1, opl_2, opl_3, opl_4, opl_5, opl_6, opl_7, wrsOk_fblk, wrsO_fblk, fblk_all, Nat.reduceLeDiff, Nat.zero_add, rdsK2, rdsK4, rdsK6, rdsK8, rdsK10, wrsK_nil, wrsK_cons, oneCell_u8, oneCell_u16, oneCell_u32, oneCell_u64, oneCell_i16, oneCell_int, oneCell_bool, oneCell_ptr, oneCell_pointer, oneCell_sl, oneCell_slice, oneCell_string, box_eq, List.all_cons, List.all_nil, Bool.and_self, Ex1_eq, Ex1_and, endQ, resH, res_tmp, res_cell, resC_ptr, tupleOf, Fabg.results65, fa_77_0, ld_26, len_26, lenS_26, cv_3_50, fa_52_3, ld_5, fa_52_4, bd_60_, bd_60_0_1_2_3, bd_60_0_1_2_3_4_5, bd_60_0_1_3, bd_60_0_1_4_5, bd_60_0_2_3, bd_60_0_3, bd_60_0_4_5, k_u8_1, tn_u8_1, al_60, stN_60, ldN_60, call_23, ldN_52, call_124, fa_60_1, ld_50, call_87, ix_26_int, ix_26_u8, ix_26_u16, ix_26_i16, st_30, call_125, cv_5_50, call_126, fa_52_1, fa_52_2, fa_77_5, ld_39, ix_39_int, ix_39_u8, ix_39_u16, ix_39_i16, call_63, o0, o1, o2, o3, o4, o5, o6, o7]
    | refine (cw).use ?_
    | refine (cw).useQ ?_
    | refine (cr).use ?_
    | refine (cr).useQ ?_
    | refine W_drawL (id := 1) (by kernel_rfl) [0, 0, 0, 0, 0, 0, 0, 0, 0, 0, 0, 1, 2] (by kernel_rfl) ?_
    | refine W_drawL (id := 6) (by kernel_rfl) [0, 0, 0, 0, 0, 0, 0, 0, 0, 0, 0, 0, 0, 0, 2] (by kernel_rfl) ?_
    | refine W_drawL (id := 9) (by kernel_rfl) [0, 0, 0, 0, 0, 0, 0, 0, 0, 0, 0, 0, 0, 0, 0, 2] (by kernel_rfl) ?_
    | refine Alloc.mono ?_
    | (refine CondW_intro (fun hc => ?_) (fun hc => ?_) <;> (try simp only [Bool.not_eq_true', Bool.not_eq_false'] at hc) <;> (try simp only [hc]))
    | (refine GrdV_intro (fun hc => ?_) (fun hc => ?_) <;> (try simp only [Bool.not_eq_true', Bool.not_eq_false'] at hc) <;> (try simp only [hc]))
    | (refine GrdL_intro (fun hc => ?_) (fun hc => ?_) <;> (try simp only [Bool.not_eq_true', Bool.not_eq_false'] at hc) <;> (try simp only [hc]))))
    rw [hmf rfl]
    exact ⟨_, Le.refl _, rfl, ⟨P, up, via, dep, hX2.weaken hle2, hS⟩⟩
  | true =>
  obtain ⟨r1, r2, r3, r4, r5, r6⟩ := hrt rfl
  have hat := hsl r2
  rw [← r1] at hat
  obtain ⟨ba, cap, gA, a1, a2, a3, a4, a5, a6, a7⟩ := BdX.openA hX2 hlen.1
  have q2 : (at_.toNat < S.len) = True := eq_true hat
  have q3 : (at_.toNat < cap * 1) = True := eq_true (by omega)
  have z3 : b3 ≠ ba := fun e => by rw [← e, i3'] at a6; cases a6
  have z5' : b5 ≠ ba := fun e => by rw [← e, i5] at a6; cases a6
  (repeat' (first
    | simp -implicitDefEqProofs only [WV_seq, WV_cond, WV_block, WV_skip, WV_ret, WV_exit, WV_region, WV_draw, WV_loop, thenQ_normal, thenQ_ret, thenQ_exit, blockQ_normal, blockQ_ret, blockQ_exit, V_nil, V_cons, KV_eq, VL_nil, VL_cons, KL_eq, vcl_zero, vcl_one, vcl_two, isV_same, isV_eq, monoK_eq, dOk, put, gd_none, gd_some, gdst_eq, gdv_some, gdB_true, gdB_false, gdB_undef, ev_const, ev_tmp, lit_i64, lit_i32, lit_bool, lit_pointer, lit_slice, lit_string, CondW_true, CondW_false, GrdV_true, GrdV_false, GrdL_true, GrdL_false, vc_move, vc_assign, vc_load, vc_store, vc_field, vc_indexAddr, vc_index, vc_box, vc_alloc, vc_build, vc_buildSlice, vc_makeSlice, vc_slice, vc_extract, vc_unOp, vc_convert, vc_bin, vc_pick, vc_call, vc_append, vc_len, vc_min, vc_max, vc_copy, vc_clear, pickK_true, pickK_false, stK_eq, not_bool, min_i64, max_i64, min_u16, max_u16, extract_tuple, vc_nil, nilK_ptr, int_add, int_sub, int_mul, int_eql, int_neq, int_lss, int_leq, int_gtr, int_geq, u8_add, u8_sub, u8_mul, u8_eql, u8_neq, u8_lss, u8_leq, u8_gtr, u8_geq, u16_add, u16_sub, u16_mul, u16_eql, u16_neq, u16_lss, u16_leq, u16_gtr, u16_geq, u32_add, u32_sub, u32_mul, u32_eql, u32_neq, u32_lss, u32_leq, u32_gtr, u32_geq, u64_add, u64_sub, u64_mul, u64_eql, u64_neq, u64_lss, u64_leq, u64_gtr, u64_geq, u8_and, u8_or, u8_xor, u8_andNot, u64_and, u64_or, u64_xor, u64_andNot, u8_shl_u8, u8_shl_u16, u8_shl_u64, u32_shl_u8, u32_shl_u16, u32_shl_u64, u64_shl_u8, u64_shl_u16, u64_shl_u64, u8_shr_u8, u8_shr_u16, u8_shr_u64, u64_shr_u8, u64_shr_u16, u64_shr_u64, u16_quo8, u16_rem8, u16_quo64, u16_rem64, u64_quo8, u64_rem8, u64_quo64, u64_rem64, u32_quo8, u32_rem8, u32_quo64, u32_rem64, int_quo2, int_rem2, int_quo8, int_rem8, int_quo64, int_rem64, u64_shrN, u64_shlN, fold64, fold32, i64_shl_u8, i16_eql, i16_neq, i16_lss, i16_geq, Nat.reduceEqDiff, Nat.reduceLT, Nat.reduceAdd, Nat.reduceMul, Nat.reduceSub, ↓reduceIte, if_true, if_false, eq_self, true_and, and_true, Bool.false_eq_true, Bool.not_true, Bool.not_false, reduceCtorEq, upd_get, List.getElem?_toArray, List.getElem?_cons_zero, List.getElem?_cons_succ, Option.bind_some, rdK_some, List.map_toArray, List.map_cons, List.map_nil, rd_upd, rdO_fblk, wrOk_fblk, wrO_fblk, lget_zero, lget_succ, upd_upd, agg_cells, cells_of_list, List.length_cons, List.length_nil, Nat.add_zero, pv_cells, pl_len, pl_0, pl_1, pl_2, pl_3, pl_4, pl_5, pv_fold, pv_eta, ov_eta, opv_eta, ov_cells, ol_len, ov_fold, opv_cells, opl_len, opv_fold, st_pv, st_ov, st_opv, ol_0, ol_1, ol_2, ol_3, ol_4, ol_5, ol_6, ol_7, ol_8, ol_9, opl_0, opl_1, opl_2, opl_3, opl_4, opl_5, opl_6, opl_7, wrsOk_fblk, wrsO_fblk, fblk_all, Nat.reduceLeDiff, Nat.zero_add, rdsK2, rdsK4, rdsK6, rdsK8, rdsK10, wrsK_nil, wrsK_cons, oneCell_u8, oneCell_u16, oneCell_u32, oneCell_u64, oneCell_i16, oneCell_int, oneCell_bool, oneCell_ptr, oneCell_pointer, oneCell_sl, oneCell_slice, oneCell_string, box_eq, List.all_cons, List.all_nil, Bool.and_self, Ex1_eq, Ex1_and, endQ, resH, res_tmp, res_cell, resC_ptr, tupleOf, Fabg.results65, fa_77_0, ld_26, len_26, lenS_26, cv_3_50, fa_52_3, ld_5, fa_52_4, bd_60_, bd_60_0_1_2_3, bd_60_0_1_2_3_4_5, bd_60_0_1_3, bd_60_0_1_4_5, bd_60_0_2_3, bd_60_0_3, bd_60_0_4_5, k_u8_1, tn_u8_1, al_60, stN_60, ldN_60, call_23, ldN_52, call_124, fa_60_1, ld_50, call_87, ix_26_int, ix_26_u8, ix_26_u16, ix_26_i16, st_30, call_125, cv_5_50, call_126, fa_52_1, fa_52_2, fa_77_5, ld_39, ix_39_int, ix_39_u8, ix_39_u16, ix_39_i16, call_63, o0, o1, o2, o3, o4, o5, o6, o7, p0, p1, p2, p3, p4, p5, a1, a3, q2, q3, z3, z5']
    | refine (cw).use ?_
    | refine (cw).useQ ?_
    | refine (cr).use ?_
    | refine (cr).useQ ?_
    | refine (makeStruct_ok _ _ _ _ _).use ?_
    | refine (makeStruct_ok _ _ _ _ _).useQ ?_
    | refine W_drawL (id := 1) (by kernel_rfl) [0, 0, 0, 0, 0, 0, 0, 0, 0, 0, 0, 1, 2] (by kernel_rfl) ?_
    | refine W_drawL (id := 6) (by kernel_rfl) [0, 0, 0, 0, 0, 0, 0, 0, 0, 0, 0, 0, 0, 0, 2] (by kernel_rfl) ?_
    | refine W_drawL (id := 9) (by kernel_rfl) [0, 0, 0, 0, 0, 0, 0, 0, 0, 0, 0, 0, 0, 0, 0, 2] (by kernel_rfl) ?_
    | refine Alloc.mono ?_
    | (refine CondW_intro (fun hc => ?_) (fun hc => ?_) <;> (try simp only [Bool.not_eq_true', Bool.not_eq_false'] at hc) <;> (try simp only [hc]))
    | (refine GrdV_intro (fun hc => ?_) (fun hc => ?_) <;> (try simp only [Bool.not_eq_true', Bool.not_eq_false'] at hc) <;> (try simp only [hc]))
    | (refine GrdL_intro (fun hc => ?_) (fun hc => ?_) <;> (try simp only [Bool.not_eq_true', Bool.not_eq_false'] at hc) <;> (try simp only [hc]))))
  have hX3 := a7 at_.toNat (makeStructL at_ (UInt16.ofNat S.len) op.x op.y) hat
  generalize upd G2 ba (some (fblk (cap * 1) (upd gA at_.toNat (u64 (makeStructL at_ (UInt16.ofNat S.len) op.x op.y))) 30)) = G3 at *
  refine (bdX_grow hX3 (wordsL ⟨1, 0, op.x, op.y, 0, 0⟩) (by show S.len + _ ≤ 1000; omega)).mono ?_
  rintro _ G4 ⟨rfl, hX4⟩
  obtain ⟨o0, o1, o2, o3, o4, o5, o6, o7⟩ := opAt_of (hX4.le0 _ _ i3')
  obtain ⟨p0, p1, p2, p3, p4, p5⟩ := ptAt_of (hX4.le0 _ _ i5)
  (repeat' (first
    | simp -implicitDefEqProofs only [WV_seq, WV_cond, WV_block, WV_skip, WV_ret, WV_exit, WV_region, WV_draw, WV_loop, thenQ_normal, thenQ_ret, thenQ_exit, blockQ_normal, blockQ_ret, blockQ_exit, V_nil, V_cons, KV_eq, VL_nil, VL_cons, KL_eq, vcl_zero, vcl_one, vcl_two, isV_same, isV_eq, monoK_eq, dOk, put, gd_none, gd_some, gdst_eq, gdv_some, gdB_true, gdB_false, gdB_undef, ev_const, ev_tmp, lit_i64, lit_i32, lit_bool, lit_pointer, lit_slice, lit_string, CondW_true, CondW_false, GrdV_true, GrdV_false, GrdL_true, GrdL_false, vc_move, vc_assign, vc_load, vc_store, vc_field, vc_indexAddr, vc_index, vc_box, vc_alloc, vc_build, vc_buildSlice, vc_makeSlice, vc_slice, vc_extract, vc_unOp, vc_convert, vc_bin, vc_pick, vc_call, vc_append, vc_len, vc_min, vc_max, vc_copy, vc_clear, pickK_true, pickK_false, stK_eq, not_bool, min_i64, max_i64, min_u16, max_u16, extract_tuple, vc_nil, nilK_ptr, int_add, int_sub, int_mul, int_eql, int_neq, int_lss, int_leq, int_gtr, int_geq, u8_add, u8_sub, u8_mul, u8_eql, u8_neq, u8_lss, u8_leq, u8_gtr, u8_geq, u16_add, u16_sub, u16_mul, u16_eql, u16_neq, u16_lss, u16_leq, u16_gtr, u16_geq, u32_add, u32_sub, u32_mul, u32_eql, u32_neq, u32_lss, u32_leq, u32_gtr, u32_geq, u64_add, u64_sub, u64_mul, u64_eql, u64_neq, u64_lss, u64_leq, u64_gtr, u64_geq, u8_and, u8_or, u8_xor, u8_andNot, u64_and, u64_or, u64_xor, u64_andNot, u8_shl_u8, u8_shl_u16, u8_shl_u64, u32_shl_u8, u32_shl_u16, u32_shl_u64, u64_shl_u8, u64_shl_u16, u64_shl_u64, u8_shr_u8, u8_shr_u16, u8_shr_u64, u64_shr_u8, u64_shr_u16, u64_shr_u64, u16_quo8, u16_rem8, u16_quo64, u16_rem64, u64_quo8, u64_rem8, u64_quo64, u64_rem64, u32_quo8, u32_rem8, u32_quo64, u32_rem64, int_quo2, int_rem2, int_quo8, int_rem8, int_quo64, int_rem64, u64_shrN, u64_shlN, fold64, fold32, i64_shl_u8, i16_eql, i16_neq, i16_lss, i16_geq, Nat.reduceEqDiff, Nat.reduceLT, Nat.reduceAdd, Nat.reduceMul, Nat.reduceSub, ↓reduceIte, if_true, if_false, eq_self, true_and, and_true, Bool.false_eq_true, Bool.not_true, Bool.not_false, reduceCtorEq, upd_get, List.getElem?_toArray, List.getElem?_cons_zero, List.getElem?_cons_succ, Option.bind_some, rdK_some, List.map_toArray, List.map_cons, List.map_nil, rd_upd, rdO_fblk, wrOk_fblk, wrO_fblk, lget_zero, lget_succ, upd_upd, agg_cells, cells_of_list, List.length_cons, List.length_nil, Nat.add_zero, pv_cells, pl_len, pl_0, pl_1, pl_2, pl_3, pl_4, pl_5, pv_fold, pv_eta, ov_eta, opv_eta, ov_cells, ol_len, ov_fold, opv_cells, opl_len, opv_fold, st_pv, st_ov, st_opv, ol_0, ol_1, ol_2, ol_3, ol_4, ol_5, ol_6, ol_7, ol_8, ol_9, opl_0, opl_1, opl_2, opl_3, opl_4, opl_5, opl_6, opl_7, wrsOk_fblk, wrsO_fblk, fblk_all, Nat.reduceLeDiff, Nat.zero_add, rdsK2, rdsK4, rdsK6, rdsK8, rdsK10, wrsK_nil, wrsK_cons, oneCell_u8, oneCell_u16, oneCell_u32, oneCell_u64, oneCell_i16, oneCell_int, oneCell_bool, oneCell_ptr, oneCell_pointer, oneCell_sl, oneCell_slice, oneCell_string, box_eq, List.all_cons, List.all_nil, Bool.and_self, Ex1_eq, Ex1_and, endQ, resH, res_tmp, res_cell, resC_ptr, tupleOf, Fabg.results65, fa_77_0, ld_26, len_26, lenS_26, cv_3_50, fa_52_3, ld_5, fa_52_4, bd_60_, bd_60_0_1_2_3, bd_60_0_1_2_3_4_5, bd_60_0_1_3, bd_60_0_1_4_5, bd_60_0_2_3, bd_60_0_3, bd_60_0_4_5, k_u8_1, tn_u8_1, al_60, stN_60, ldN_60, call_23, ldN_52, call_124, fa_60_1, ld_50, call_87, ix_26_int, ix_26_u8, ix_26_u16, ix_26_i16, st_30, call_125, cv_5_50, call_126, fa_52_1, fa_52_2, fa_77_5, ld_39, ix_39_int, ix_39_u8, ix_39_u16, ix_39_i16, call_63, o0, o1, o2, o3, o4, o5, o6, o7, p0, p1, p2, p3, p4, p5]
    | refine W_drawL (id := 1) (by kernel_rfl) [0, 0, 0, 0, 0, 0, 0, 0, 0, 0, 0, 1, 2] (by kernel_rfl) ?_
    | refine W_drawL (id := 6) (by kernel_rfl) [0, 0, 0, 0, 0, 0, 0, 0, 0, 0, 0, 0, 0, 0, 2] (by kernel_rfl) ?_
    | refine W_drawL (id := 9) (by kernel_rfl) [0, 0, 0, 0, 0, 0, 0, 0, 0, 0, 0, 0, 0, 0, 0, 2] (by kernel_rfl) ?_
    | refine Alloc.mono ?_
    | (refine CondW_intro (fun hc => ?_) (fun hc => ?_) <;> (try simp only [Bool.not_eq_true', Bool.not_eq_false'] at hc) <;> (try simp only [hc]))
    | (refine GrdV_intro (fun hc => ?_) (fun hc => ?_) <;> (try simp only [Bool.not_eq_true', Bool.not_eq_false'] at hc) <;> (try simp only [hc]))
    | (refine GrdL_intro (fun hc => ?_) (fun hc => ?_) <;> (try simp only [Bool.not_eq_true', Bool.not_eq_false'] at hc) <;> (try simp only [hc]))))
  refine (mark_ok hX4 _ _ _).mono ?_
  rintro _ G5 ⟨rfl, hX5⟩
  obtain ⟨o0, o1, o2, o3, o4, o5, o6, o7⟩ := opAt_of (hX5.le0 _ _ i3')
  obtain ⟨p0, p1, p2, p3, p4, p5⟩ := ptAt_of (hX5.le0 _ _ i5)
  obtain ⟨b'', c'', hR5⟩ := BdH.rdr hX5 (by show 1 ≤ S.len + _; omega) hcnt.1
  have y4 := hR5.r4
  have yd := hR5.d op.h.toNat hl.1
  have q4 : (op.h.toNat < S.cnt) = True := eq_true hl.1
  have y4' : rd G5 bb 8 = some (sl (b'' 4) 0 S.cnt (c'' 4)) := y4
  (repeat' (first
    | simp -implicitDefEqProofs only [WV_seq, WV_cond, WV_block, WV_skip, WV_ret, WV_exit, WV_region, WV_draw, WV_loop, thenQ_normal, thenQ_ret, thenQ_exit, blockQ_normal, blockQ_ret, blockQ_exit, V_nil, V_cons, KV_eq, VL_nil, VL_cons, KL_eq, vcl_zero, vcl_one, vcl_two, isV_same, isV_eq, monoK_eq, dOk, put, gd_none, gd_some, gdst_eq, gdv_some, gdB_true, gdB_false, gdB_undef, ev_const, ev_tmp, lit_i64, lit_i32, lit_bool, lit_pointer, lit_slice, lit_string, CondW_true, CondW_false, GrdV_true, GrdV_false, GrdL_true, GrdL_false, vc_move, vc_assign, vc_load, vc_store, vc_field, vc_indexAddr, vc_index, vc_box, vc_alloc, vc_build, vc_buildSlice, vc_makeSlice, vc_slice, vc_extract, vc_unOp, vc_convert, vc_bin, vc_pick, vc_call, vc_append, vc_len, vc_min, vc_max, vc_copy, vc_clear, pickK_true, pickK_false, stK_eq, not_bool, min_i64, max_i64, min_u16, max_u16, extract_tuple, vc_nil, nilK_ptr, int_add, int_sub, int_mul, int_eql, int_neq, int_lss, int_leq, int_gtr, int_geq, u8_add, u8_sub, u8_mul, u8_eql, u8_neq, u8_lss, u8_leq, u8_gtr, u8_geq, u16_add, u16_sub, u16_mul, u16_eql, u16_neq, u16_lss, u16_leq, u16_gtr, u16_geq, u32_add, u32_sub, u32_mul, u32_eql, u32_neq, u32_lss, u32_leq, u32_gtr, u32_geq, u64_add, u64_sub, u64_mul, u64_eql, u64_neq, u64_lss, u64_leq, u64_gtr, u64_geq, u8_and, u8_or, u8_xor, u8_andNot, u64_and, u64_or, u64_xor, u64_andNot, u8_shl_u8, u8_shl_u16, u8_shl_u64, u32_shl_u8, u32_shl_u16, u32_shl_u64, u64_shl_u8, u64_shl_u16, u64_shl_u64, u8_shr_u8, u8_shr_u16, u8_shr_u64, u64_shr_u8, u64_shr_u16, u64_shr_u64, u16_quo8, u16_rem8, u16_quo64, u16_rem64, u64_quo8, u64_rem8, u64_quo64, u64_rem64, u32_quo8, u32_rem8, u32_quo64, u32_rem64, int_quo2, int_rem2, int_quo8, int_rem8, int_quo64, int_rem64, u64_shrN, u64_shlN, fold64, fold32, i64_shl_u8, i16_eql, i16_neq, i16_lss, i16_geq, Nat.reduceEqDiff, Nat.reduceLT, Nat.reduceAdd, Nat.reduceMul, Nat.reduceSub, ↓reduceIte, if_true, if_false, eq_self, true_and, and_true, Bool.false_eq_true, Bool.not_true, Bool.not_false, reduceCtorEq, upd_get, List.getElem?_toArray, List.getElem?_cons_zero, List.getElem?_cons_succ, Option.bind_some, rdK_some, List.map_toArray, List.map_cons, List.map_nil, rd_upd, rdO_fblk, wrOk_fblk, wrO_fblk, lget_zero, lget_succ, upd_upd, agg_cells, cells_of_list, List.length_cons, List.length_nil, Nat.add_zero, pv_cells, pl_len, pl_0, pl_1, pl_2, pl_3, pl_4, pl_5, pv_fold, pv_eta, ov_eta, opv_eta, ov_cells, ol_len, ov_fold, opv_cells, opl_len, opv_fold, st_pv, st_ov, st_opv, ol_0, ol_1, ol_2, ol_3, ol_4, ol_5, ol_6, ol_7, ol_8, ol_9, opl_0, opl_1, opl_2, opl_3, opl_4, opl_5, opl_6, opl_7, wrsOk_fblk, wrsO_fblk, fblk_all, Nat.reduceLeDiff, Nat.zero_add, rdsK2, rdsK4, rdsK6, rdsK8, rdsK10, wrsK_nil, wrsK_cons, oneCell_u8, oneCell_u16, oneCell_u32, oneCell_u64, oneCell_i16, oneCell_int, oneCell_bool, oneCell_ptr, oneCell_pointer, oneCell_sl, oneCell_slice, oneCell_string, box_eq, List.all_cons, List.all_nil, Bool.and_self, Ex1_eq, Ex1_and, endQ, resH, res_tmp, res_cell, resC_ptr, tupleOf, Fabg.results65, fa_77_0, ld_26, len_26, lenS_26, cv_3_50, fa_52_3, ld_5, fa_52_4, bd_60_, bd_60_0_1_2_3, bd_60_0_1_2_3_4_5, bd_60_0_1_3, bd_60_0_1_4_5, bd_60_0_2_3, bd_60_0_3, bd_60_0_4_5, k_u8_1, tn_u8_1, al_60, stN_60, ldN_60, call_23, ldN_52, call_124, fa_60_1, ld_50, call_87, ix_26_int, ix_26_u8, ix_26_u16, ix_26_i16, st_30, call_125, cv_5_50, call_126, fa_52_1, fa_52_2, fa_77_5, ld_39, ix_39_int, ix_39_u8, ix_39_u16, ix_39_i16, call_63, o0, o1, o2, o3, o4, o5, o6, o7, p0, p1, p2, p3, p4, p5, y4', yd, q4, Nat.zero_add, Nat.mul_one]
    | refine W_drawL (id := 1) (by kernel_rfl) [0, 0, 0, 0, 0, 0, 0, 0, 0, 0, 0, 1, 2] (by kernel_rfl) ?_
    | refine W_drawL (id := 6) (by kernel_rfl) [0, 0, 0, 0, 0, 0, 0, 0, 0, 0, 0, 0, 0, 0, 2] (by kernel_rfl) ?_
    | refine W_drawL (id := 9) (by kernel_rfl) [0, 0, 0, 0, 0, 0, 0, 0, 0, 0, 0, 0, 0, 0, 0, 2] (by kernel_rfl) ?_
    | refine Alloc.mono ?_
    | (refine CondW_intro (fun hc => ?_) (fun hc => ?_) <;> (try simp only [Bool.not_eq_true', Bool.not_eq_false'] at hc) <;> (try simp only [hc]))
    | (refine GrdV_intro (fun hc => ?_) (fun hc => ?_) <;> (try simp only [Bool.not_eq_true', Bool.not_eq_false'] at hc) <;> (try simp only [hc]))
    | (refine GrdL_intro (fun hc => ?_) (fun hc => ?_) <;> (try simp only [Bool.not_eq_true', Bool.not_eq_false'] at hc) <;> (try simp only [hc]))))
  refine (bdX_hang hX5 ⟨1, UInt16.ofNat S.len, op.x, op.y, 0, 0⟩ op.h op.i (dep op.h.toNat + 1) ⟨newP S ⟨1, 0, op.x, op.y, 0, 0⟩ at_, Int16.ofInt (op.h.toNat : Int), op.i, false, false⟩ rfl (by show S.len + _ ≤ 900; omega) (by show S.cnt ≤ 900; omega)).mono ?_
  rintro _ G6 ⟨rfl, hX6⟩
  (repeat' (first
    | simp -implicitDefEqProofs only [WV_seq, WV_cond, WV_block, WV_skip, WV_ret, WV_exit, WV_region, WV_draw, WV_loop, thenQ_normal, thenQ_ret, thenQ_exit, blockQ_normal, blockQ_ret, blockQ_exit, V_nil, V_cons, KV_eq, VL_nil, VL_cons, KL_eq, vcl_zero, vcl_one, vcl_two, isV_same, isV_eq, monoK_eq, dOk, put, gd_none, gd_some, gdst_eq, gdv_some, gdB_true, gdB_false, gdB_undef, ev_const, ev_tmp, lit_i64, lit_i32, lit_bool, lit_pointer, lit_slice, lit_string, CondW_true, CondW_false, GrdV_true, GrdV_false, GrdL_true, GrdL_false, vc_move, vc_assign, vc_load, vc_store, vc_field, vc_indexAddr, vc_index, vc_box, vc_alloc, vc_build, vc_buildSlice, vc_makeSlice, vc_slice, vc_extract, vc_unOp, vc_convert, vc_bin, vc_pick, vc_call, vc_append, vc_len, vc_min, vc_max, vc_copy, vc_clear, pickK_true, pickK_false, stK_eq, not_bool, min_i64, max_i64, min_u16, max_u16, extract_tuple, vc_nil, nilK_ptr, int_add, int_sub, int_mul, int_eql, int_neq, int_lss, int_leq, int_gtr, int_geq, u8_add, u8_sub, u8_mul, u8_eql, u8_neq, u8_lss, u8_leq, u8_gtr, u8_geq, u16_add, u16_sub, u16_mul, u16_eql, u16_neq, u16_lss, u16_leq, u16_gtr, u16_geq, u32_add, u32_sub, u32_mul, u32_eql, u32_neq, u32_lss, u32_leq, u32_gtr, u32_geq, u64_add, u64_sub, u64_mul, u64_eql, u64_neq, u64_lss, u64_leq, u64_gtr, u64_geq, u8_and, u8_or, u8_xor, u8_andNot, u64_and, u64_or, u64_xor, u64_andNot, u8_shl_u8, u8_shl_u16, u8_shl_u64, u32_shl_u8, u32_shl_u16, u32_shl_u64, u64_shl_u8, u64_shl_u16, u64_shl_u64, u8_shr_u8, u8_shr_u16, u8_shr_u64, u64_shr_u8, u64_shr_u16, u64_shr_u64, u16_quo8, u16_rem8, u16_quo64, u16_rem64, u64_quo8, u64_rem8, u64_quo64, u64_rem64, u32_quo8, u32_rem8, u32_quo64, u32_rem64, int_quo2, int_rem2, int_quo8, int_rem8, int_quo64, int_rem64, u64_shrN, u64_shlN, fold64, fold32, i64_shl_u8, i16_eql, i16_neq, i16_lss, i16_geq, Nat.reduceEqDiff, Nat.reduceLT, Nat.reduceAdd, Nat.reduceMul, Nat.reduceSub, ↓reduceIte, if_true, if_false, eq_self, true_and, and_true, Bool.false_eq_true, Bool.not_true, Bool.not_false, reduceCtorEq, upd_get, List.getElem?_toArray, List.getElem?_cons_zero, List.getElem?_cons_succ, Option.bind_some, rdK_some, List.map_toArray, List.map_cons, List.map_nil, rd_upd, rdO_fblk, wrOk_fblk, wrO_fblk, lget_zero, lget_succ, upd_upd, agg_cells, cells_of_list, List.length_cons, List.length_nil, Nat.add_zero, pv_cells, pl_len, pl_0, pl_1, pl_2, pl_3, pl_4, pl_5, pv_fold, pv_eta, ov_eta, opv_eta, ov_cells, ol_len, ov_fold, opv_cells, opl_len, opv_fold, st_pv, st_ov, st_opv, ol_0, ol_1, ol_2, ol_3, ol_4, ol_5, ol_6, ol_7, ol_8, ol_9, opl_0, opl_1, opl_2, opl_3, opl_4, opl_5, opl_6, opl_7, wrsOk_fblk, wrsO_fblk, fblk_all, Nat.reduceLeDiff, Nat.zero_add, rdsK2, rdsK4, rdsK6, rdsK8, rdsK10, wrsK_nil, wrsK_cons, oneCell_u8, oneCell_u16, oneCell_u32, oneCell_u64, oneCell_i16, oneCell_int, oneCell_bool, oneCell_ptr, oneCell_pointer, oneCell_sl, oneCell_slice, oneCell_string, box_eq, List.all_cons, List.all_nil, Bool.and_self, Ex1_eq, Ex1_and, endQ, resH, res_tmp, res_cell, resC_ptr, tupleOf, Fabg.results65, fa_77_0, ld_26, len_26, lenS_26, cv_3_50, fa_52_3, ld_5, fa_52_4, bd_60_, bd_60_0_1_2_3, bd_60_0_1_2_3_4_5, bd_60_0_1_3, bd_60_0_1_4_5, bd_60_0_2_3, bd_60_0_3, bd_60_0_4_5, k_u8_1, tn_u8_1, al_60, stN_60, ldN_60, call_23, ldN_52, call_124, fa_60_1, ld_50, call_87, ix_26_int, ix_26_u8, ix_26_u16, ix_26_i16, st_30, call_125, cv_5_50, call_126, fa_52_1, fa_52_2, fa_77_5, ld_39, ix_39_int, ix_39_u8, ix_39_u16, ix_39_i16, call_63]
    | refine W_drawL (id := 1) (by kernel_rfl) [0, 0, 0, 0, 0, 0, 0, 0, 0, 0, 0, 1, 2] (by kernel_rfl) ?_
    | refine W_drawL (id := 6) (by kernel_rfl) [0, 0, 0, 0, 0, 0, 0, 0, 0, 0, 0, 0, 0, 0, 2] (by kernel_rfl) ?_
    | refine W_drawL (id := 9) (by kernel_rfl) [0, 0, 0, 0, 0, 0, 0, 0, 0, 0, 0, 0, 0, 0, 0, 2] (by kernel_rfl) ?_
    | refine Alloc.mono ?_
    | (refine CondW_intro (fun hc => ?_) (fun hc => ?_) <;> (try simp only [Bool.not_eq_true', Bool.not_eq_false'] at hc) <;> (try simp only [hc]))
    | (refine GrdV_intro (fun hc => ?_) (fun hc => ?_) <;> (try simp only [Bool.not_eq_true', Bool.not_eq_false'] at hc) <;> (try simp only [hc]))
    | (refine GrdL_intro (fun hc => ?_) (fun hc => ?_) <;> (try simp only [Bool.not_eq_true', Bool.not_eq_false'] at hc) <;> (try simp only [hc]))))
  rw [hmt rfl]
  have hfin := hmade (makeStructL at_ (UInt16.ofNat S.len) op.x op.y) rfl (hwp at_ hat) G6 hX6
  first | exact ⟨_, Le.refl _, rfl, hfin⟩ | exact ⟨_, Le.refl _, hfin⟩
end Eng
end Go.Proofs.Ygcfab
