/-
  Package build: a builder that stands for an editor; slot, room, even.
-/
import Derived.Test.YgcfabBd3
set_option linter.unusedSimpArgs false
set_option linter.unusedVariables false
set_option maxRecDepth 100000
namespace Go.Proofs.Ygcfab
namespace Eng
structure Sim (S : Ed) (P : Nat → Ptr) (up via dep : Nat → UInt8) : Prop where
  p : ∀ k, Lv S k → P k = (S.O k).p ∨ (wlessB (S.O k).p = true ∧ ∃ a, P k = { (S.O k).p with at_ := a })
  up : ∀ k, 1 ≤ k → k < S.cnt → Hs S k (up k).toNat ∧ (up k).toNat < k ∧ (S.O k).via = via k
  dep : ∀ k, Lv S k → (dep k).toNat = depN S 40 k
  ends : ∀ k, Lv S k → Ends S 30 k
def bnS (S : Ed) : Nat → Nat := fun i => if i = 0 then S.len else S.cnt
def bfS (S : Ed) (P : Nat → Ptr) (up via dep : Nat → UInt8) : Nat → Nat → Value := fun i j =>
  if i = 0 then u64 (S.A j) else if i = 1 then lget (pl (P (j / 6))) (j % 6) else if i = 2 then u8 (up j) else if i = 3 then u8 (via j) else if i = 4 then u8 (dep j) else .bool (S.O j).dead
structure BdS (H0 G : Heap) (bb : Nat) (S : Ed) : Prop where
  is : ∃ P up via dep, BdH H0 G bb (bnS S) (bfS S P up via dep) ∧ Sim S P up via dep
/-- a builder as it is read -/
structure BdR (G : Heap) (bb : Nat) (S : Ed) (P : Nat → Ptr) (up via dep : Nat → UInt8) (b c : Nat → Nat) : Prop where
  r0 : rd G bb 0 = some (sl (b 0) 0 S.len (c 0))
  r1 : rd G bb 5 = some (sl (b 1) 0 S.cnt (c 1))
  r2 : rd G bb 6 = some (sl (b 2) 0 S.cnt (c 2))
  r3 : rd G bb 7 = some (sl (b 3) 0 S.cnt (c 3))
  r4 : rd G bb 8 = some (sl (b 4) 0 S.cnt (c 4))
  r5 : rd G bb 9 = some (sl (b 5) 0 S.cnt (c 5))
  a : ∀ i, i < S.len → rd G (b 0) i = some (u64 (S.A i))
  p : ∀ k, k < S.cnt → ∀ j, j < 6 → rd G (b 1) (k * 6 + j) = some (lget (pl (P k)) j)
  u : ∀ k, k < S.cnt → rd G (b 2) k = some (u8 (up k))
  v : ∀ k, k < S.cnt → rd G (b 3) k = some (u8 (via k))
  d : ∀ k, k < S.cnt → rd G (b 4) k = some (u8 (dep k))
  k : ∀ k, k < S.cnt → rd G (b 5) k = some (.bool (S.O k).dead)
section
variable {H0 G : Heap} {bb : Nat} {S : Ed} {P : Nat → Ptr} {up via dep : Nat → UInt8}
theorem BdR.le {b c : Nat → Nat} {G' : Heap} (h : BdR G bb S P up via dep b c) (l : Le G G') : BdR G' bb S P up via dep b c :=
  ⟨hcell_le l h.r0, hcell_le l h.r1, hcell_le l h.r2, hcell_le l h.r3, hcell_le l h.r4, hcell_le l h.r5, fun i hi => hcell_le l (h.a i hi), fun k hk j hj => hcell_le l (h.p k hk j hj), fun k hk => hcell_le l (h.u k hk), fun k hk => hcell_le l (h.v k hk), fun k hk => hcell_le l (h.d k hk), fun k hk => hcell_le l (h.k k hk)⟩
theorem BdH.rdr (h : BdH H0 G bb (bnS S) (bfS S P up via dep)) (h1 : 1 ≤ S.len) (h2 : 1 ≤ S.cnt) : ∃ b c, BdR G bb S P up via dep b c := by
  obtain ⟨v, w, hf, hV⟩ := h.is
  have e0 : bnS S 0 = S.len := rfl
  have e1 : ∀ i, i ≠ 0 → bnS S i = S.cnt := fun i hi => by unfold bnS; rw [if_neg hi]
  obtain ⟨b0, c0, g0, a0, l0, m0, f0, _⟩ := hV.wopen 0 (by omega) (by rw [e0]; exact h1)
  obtain ⟨b1, c1, g1, a1, l1, m1, f1, _⟩ := hV.wopen 1 (by omega) (by rw [e1 1 (by omega)]; exact h2)
  obtain ⟨b2, c2, g2, a2, l2, m2, f2, _⟩ := hV.wopen 2 (by omega) (by rw [e1 2 (by omega)]; exact h2)
  obtain ⟨b3, c3, g3, a3, l3, m3, f3, _⟩ := hV.wopen 3 (by omega) (by rw [e1 3 (by omega)]; exact h2)
  obtain ⟨b4, c4, g4, a4, l4, m4, f4, _⟩ := hV.wopen 4 (by omega) (by rw [e1 4 (by omega)]; exact h2)
  obtain ⟨b5, c5, g5, a5, l5, m5, f5, _⟩ := hV.wopen 5 (by omega) (by rw [e1 5 (by omega)]; exact h2)
  rw [e0] at a0 l0 f0
  rw [e1 1 (by omega)] at a1 l1 f1
  rw [e1 2 (by omega)] at a2 l2 f2
  rw [e1 3 (by omega)] at a3 l3 f3
  rw [e1 4 (by omega)] at a4 l4 f4
  rw [e1 5 (by omega)] at a5 l5 f5
  have hc : ∀ j, j < 10 → rd G bb j = some (bc v w j) := fun j hj => by rw [rd_eq, hf, rdO_fblk, if_pos hj]
  refine ⟨fun i => if i = 0 then b0 else if i = 1 then b1 else if i = 2 then b2 else if i = 3 then b3 else if i = 4 then b4 else b5, fun i => if i = 0 then c0 else if i = 1 then c1 else if i = 2 then c2 else if i = 3 then c3 else if i = 4 then c4 else c5, ?_, ?_, ?_, ?_, ?_, ?_, ?_, ?_, ?_, ?_, ?_, ?_⟩
  · rw [hc 0 (by omega), bc_0, a0]; rfl
  · rw [hc 5 (by omega), bc_5, a1]; rfl
  · rw [hc 6 (by omega), bc_6, a2]; rfl
  · rw [hc 7 (by omega), bc_7, a3]; rfl
  · rw [hc 8 (by omega), bc_8, a4]; rfl
  · rw [hc 9 (by omega), bc_9, a5]; rfl
  · intro i hi
    show rd G b0 i = _
    have hb : bs 0 = 1 := rfl
    rw [rd_eq, m0, rdO_fblk, if_pos (by rw [hb]; omega), f0 i (by rw [hb]; omega)]
    rfl
  · intro k hk j hj
    show rd G b1 (k * 6 + j) = _
    have hb : bs 1 = 6 := rfl
    rw [rd_eq, m1, rdO_fblk, if_pos (by rw [hb]; omega), f1 (k * 6 + j) (by rw [hb]; omega)]
    show some (lget (pl (P ((k * 6 + j) / 6))) ((k * 6 + j) % 6)) = _
    rw [show (k * 6 + j) / 6 = k by omega, show (k * 6 + j) % 6 = j by omega]
  · intro k hk
    show rd G b2 k = _
    have hb : bs 2 = 1 := rfl
    rw [rd_eq, m2, rdO_fblk, if_pos (by rw [hb]; omega), f2 k (by rw [hb]; omega)]
    rfl
  · intro k hk
    show rd G b3 k = _
    have hb : bs 3 = 1 := rfl
    rw [rd_eq, m3, rdO_fblk, if_pos (by rw [hb]; omega), f3 k (by rw [hb]; omega)]
    rfl
  · intro k hk
    show rd G b4 k = _
    have hb : bs 4 = 1 := rfl
    rw [rd_eq, m4, rdO_fblk, if_pos (by rw [hb]; omega), f4 k (by rw [hb]; omega)]
    rfl
  · intro k hk
    show rd G b5 k = _
    have hb : bs 5 = 1 := rfl
    rw [rd_eq, m5, rdO_fblk, if_pos (by rw [hb]; omega), f5 k (by rw [hb]; omega)]
    rfl
theorem even_ok {b c : Nat → Nat} (hR : BdR G bb S P up via dep b c) (h1 : 1 ≤ S.len ∧ S.len ≤ 256) (h2 : 1 ≤ S.cnt ∧ S.cnt ≤ 256) : Fn Fabg.prog 64 #[ptr bb 0] G (fun r H' => r = .bool true ∧ H' = G) := by
  obtain ⟨r0, r1, r2, r3, r4, r5, _, _, _, _, _, _⟩ := hR
  refine Fn_of Fabg.func64 rfl Fabg.ntmps64 (by simp) (WV_sound _ _ _ _ ?_)
  rw [argEnv1]
  have q1 : decide ((S.len : Int) < 1) = false := decide_eq_false (by omega)
  have q2 : decide ((S.len : Int) > 256) = false := decide_eq_false (by omega)
  have q3 : decide ((S.cnt : Int) ≥ 1) = true := decide_eq_true (by omega)
  have q4 : decide ((S.cnt : Int) ≤ 256) = true := decide_eq_true (by omega)
  (repeat' (first
    | simp -implicitDefEqProofs only [WV_seq, WV_cond, WV_block, WV_skip, WV_ret, WV_exit, WV_region, WV_draw, WV_loop, thenQ_normal, thenQ_ret, thenQ_exit, blockQ_normal, blockQ_ret, blockQ_exit, V_nil, V_cons, KV_eq, VL_nil, VL_cons, KL_eq, vcl_zero, vcl_one, vcl_two, isV_same, isV_eq, monoK_eq, dOk, put, gd_none, gd_some, gdst_eq, gdv_some, gdB_true, gdB_false, gdB_undef, ev_const, ev_tmp, lit_i64, lit_i32, lit_bool, lit_pointer, lit_slice, lit_string, CondW_true, CondW_false, GrdV_true, GrdV_false, GrdL_true, GrdL_false, vc_move, vc_assign, vc_load, vc_store, vc_field, vc_indexAddr, vc_index, vc_box, vc_alloc, vc_build, vc_buildSlice, vc_makeSlice, vc_slice, vc_extract, vc_unOp, vc_convert, vc_bin, vc_pick, vc_call, vc_append, vc_len, vc_min, vc_max, vc_copy, vc_clear, pickK_true, pickK_false, stK_eq, not_bool, min_i64, max_i64, min_u16, max_u16, extract_tuple, vc_nil, nilK_ptr, int_add, int_sub, int_mul, int_eql, int_neq, int_lss, int_leq, int_gtr, int_geq, u8_add, u8_sub, u8_mul, u8_eql, u8_neq, u8_lss, u8_leq, u8_gtr, u8_geq, u16_add, u16_sub, u16_mul, u16_eql, u16_neq, u16_lss, u16_leq, u16_gtr, u16_geq, u32_add, u32_sub, u32_mul, u32_eql, u32_neq, u32_lss, u32_leq, u32_gtr, u32_geq, u64_add, u64_sub, u64_mul, u64_eql, u64_neq, u64_lss, u64_leq, u64_gtr, u64_geq, u8_and, u8_or, u8_xor, u8_andNot, u64_and, u64_or, u64_xor, u64_andNot, u8_shl_u8, u8_shl_u16, u8_shl_u64, u32_shl_u8, u32_shl_u16, u32_shl_u64, u64_shl_u8, u64_shl_u16, u64_shl_u64, u8_shr_u8, u8_shr_u16, u8_shr_u64, u64_shr_u8, u64_shr_u16, u64_shr_u64, u16_quo8, u16_rem8, u16_quo64, u16_rem64, u64_quo8, u64_rem8, u64_quo64, u64_rem64, u32_quo8, u32_rem8, u32_quo64, u32_rem64, int_quo2, int_rem2, int_quo8, int_rem8, int_quo64, int_rem64, u64_shrN, u64_shlN, fold64, fold32, i64_shl_u8, i16_eql, i16_neq, i16_lss, i16_geq, Nat.reduceEqDiff, Nat.reduceLT, Nat.reduceAdd, Nat.reduceMul, Nat.reduceSub, ↓reduceIte, if_true, if_false, eq_self, true_and, and_true, Bool.false_eq_true, Bool.not_true, Bool.not_false, reduceCtorEq, upd_get, List.getElem?_toArray, List.getElem?_cons_zero, List.getElem?_cons_succ, Option.bind_some, rdK_some, List.map_toArray, List.map_cons, List.map_nil, rd_upd, rdO_fblk, wrOk_fblk, wrO_fblk, lget_zero, lget_succ, upd_upd, agg_cells, cells_of_list, List.length_cons, List.length_nil, Nat.add_zero, pv_cells, pl_len, pl_0, pl_1, pl_2, pl_3, pl_4, pl_5, pv_fold, pv_eta, ov_eta, opv_eta, ov_cells, ol_len, ov_fold, opv_cells, opl_len, opv_fold, st_pv, st_ov, st_opv, ol_0, ol_1, ol_2, ol_3, ol_4, ol_5, ol_6, ol_7, ol_8, ol_9, opl_0, opl_1, opl_2, opl_3, opl_4, opl_5, opl_6, opl_7, wrsOk_fblk, wrsO_fblk, fblk_all, Nat.reduceLeDiff, Nat.zero_add, rdsK2, rdsK4, rdsK6, rdsK8, rdsK10, wrsK_nil, wrsK_cons, oneCell_u8, oneCell_u16, oneCell_u32, oneCell_u64, oneCell_i16, oneCell_int, oneCell_bool, oneCell_ptr, oneCell_pointer, oneCell_sl, oneCell_slice, oneCell_string, box_eq, List.all_cons, List.all_nil, Bool.and_self, Ex1_eq, Ex1_and, endQ, resH, res_tmp, res_cell, resC_ptr, tupleOf, Fabg.results64, eqn_72, fa_77_0, ld_26, len_26, lenS_26, fa_77_2, ld_74, len_74, lenS_74, fa_77_3, ld_39, len_39, lenS_39, fa_77_4, fa_77_5, fa_77_6, ld_75, len_75, lenS_75, r0, r1, r2, r3, r4, r5, q1, q2, q3, q4, beq_self_eq_true]
    | refine Alloc.mono ?_
    | (refine CondW_intro (fun hc => ?_) (fun hc => ?_) <;> (try simp only [Bool.not_eq_true', Bool.not_eq_false'] at hc) <;> (try simp only [hc]))
    | (refine GrdV_intro (fun hc => ?_) (fun hc => ?_) <;> (try simp only [Bool.not_eq_true', Bool.not_eq_false'] at hc) <;> (try simp only [hc]))
    | (refine GrdL_intro (fun hc => ?_) (fun hc => ?_) <;> (try simp only [Bool.not_eq_true', Bool.not_eq_false'] at hc) <;> (try simp only [hc]))))
  exact ⟨_, Le.refl _, rfl⟩
theorem bslot_ok {b c : Nat → Nat} (g : Gd S) (hR : BdR G bb S P up via dep b c) (hS : Sim S P up via dep) (h i : UInt8) (hl : Lv S h.toNat) : Fn Fabg.prog 132 #[ptr bb 0, u8 h, u8 i] G (fun r H' => r = .tuple #[u16 (slotB S h i).1, .bool (slotB S h i).2] ∧ H' = G) := by
  have hp := hR.p h.toNat hl.1
  have r0' := hR.r0
  have r1' := hR.r1
  have p0 : rd G (b 1) (h.toNat * 6) = some (u8 (P h.toNat).kind) := hp 0 (by omega)
  have p1 : rd G (b 1) (h.toNat * 6 + 1) = some (u16 (P h.toNat).at_) := hp 1 (by omega)
  have p2 : rd G (b 1) (h.toNat * 6 + 2) = some (u8 (P h.toNat).data) := hp 2 (by omega)
  have p3 : rd G (b 1) (h.toNat * 6 + 3) = some (u8 (P h.toNat).ptrs) := hp 3 (by omega)
  have p4 : rd G (b 1) (h.toNat * 6 + 4) = some (u8 (P h.toNat).code) := hp 4 (by omega)
  have p5 : rd G (b 1) (h.toNat * 6 + 5) = some (u16 (P h.toNat).count) := hp 5 (by omega)
  have q1 : (h.toNat < S.cnt) = True := eq_true hl.1
  have es : slotB S h i = if (P h.toNat).kind = 1 ∧ i < (P h.toNat).ptrs then ((P h.toNat).at_ + (P h.toNat).data.toUInt16 + i.toUInt16, decide (((P h.toNat).at_ + (P h.toNat).data.toUInt16 + i.toUInt16).toNat < S.len))
      else if (P h.toNat).kind = 2 ∧ (P h.toNat).code = 6 ∧ i.toUInt16 < (P h.toNat).count then ((P h.toNat).at_ + i.toUInt16, decide (((P h.toNat).at_ + i.toUInt16).toNat < S.len)) else (0, false) := by
    unfold slotB
    rcases hS.p _ hl with e | ⟨hw, a, e⟩
    · rw [e]
    · obtain ⟨w1, w2, w3, w4⟩ := wless_words hw
      rw [e]
      have n1 : ¬ ((S.O h.toNat).p.kind = 1 ∧ i < (S.O h.toNat).p.ptrs) := by
        rw [w3]; rintro ⟨_, h⟩; exact absurd (UInt8.lt_iff_toNat_lt.1 h) (Nat.not_lt_zero _)
      have n2 : ¬ ((S.O h.toNat).p.kind = 2 ∧ (S.O h.toNat).p.code = 6 ∧ i.toUInt16 < (S.O h.toNat).p.count) := by
        rw [w2]; rintro ⟨h, _⟩; exact absurd h (by decide)
      rw [if_neg n1, if_neg n2]
      show _ = if (S.O h.toNat).p.kind = 1 ∧ i < (S.O h.toNat).p.ptrs then _ else if (S.O h.toNat).p.kind = 2 ∧ (S.O h.toNat).p.code = 6 ∧ i.toUInt16 < (S.O h.toNat).p.count then _ else _
      rw [if_neg n1, if_neg n2]
  refine Fn_of Fabg.func132 rfl Fabg.ntmps132 (by simp) (WV_sound _ _ _ _ ?_)
  rw [argEnv3]
  (repeat' (first
    | simp -implicitDefEqProofs only [WV_seq, WV_cond, WV_block, WV_skip, WV_ret, WV_exit, WV_region, WV_draw, WV_loop, thenQ_normal, thenQ_ret, thenQ_exit, blockQ_normal, blockQ_ret, blockQ_exit, V_nil, V_cons, KV_eq, VL_nil, VL_cons, KL_eq, vcl_zero, vcl_one, vcl_two, isV_same, isV_eq, monoK_eq, dOk, put, gd_none, gd_some, gdst_eq, gdv_some, gdB_true, gdB_false, gdB_undef, ev_const, ev_tmp, lit_i64, lit_i32, lit_bool, lit_pointer, lit_slice, lit_string, CondW_true, CondW_false, GrdV_true, GrdV_false, GrdL_true, GrdL_false, vc_move, vc_assign, vc_load, vc_store, vc_field, vc_indexAddr, vc_index, vc_box, vc_alloc, vc_build, vc_buildSlice, vc_makeSlice, vc_slice, vc_extract, vc_unOp, vc_convert, vc_bin, vc_pick, vc_call, vc_append, vc_len, vc_min, vc_max, vc_copy, vc_clear, pickK_true, pickK_false, stK_eq, not_bool, min_i64, max_i64, min_u16, max_u16, extract_tuple, vc_nil, nilK_ptr, int_add, int_sub, int_mul, int_eql, int_neq, int_lss, int_leq, int_gtr, int_geq, u8_add, u8_sub, u8_mul, u8_eql, u8_neq, u8_lss, u8_leq, u8_gtr, u8_geq, u16_add, u16_sub, u16_mul, u16_eql, u16_neq, u16_lss, u16_leq, u16_gtr, u16_geq, u32_add, u32_sub, u32_mul, u32_eql, u32_neq, u32_lss, u32_leq, u32_gtr, u32_geq, u64_add, u64_sub, u64_mul, u64_eql, u64_neq, u64_lss, u64_leq, u64_gtr, u64_geq, u8_and, u8_or, u8_xor, u8_andNot, u64_and, u64_or, u64_xor, u64_andNot, u8_shl_u8, u8_shl_u16, u8_shl_u64, u32_shl_u8, u32_shl_u16, u32_shl_u64, u64_shl_u8, u64_shl_u16, u64_shl_u64, u8_shr_u8, u8_shr_u16, u8_shr_u64, u64_shr_u8, u64_shr_u16, u64_shr_u64, u16_quo8, u16_rem8, u16_quo64, u16_rem64, u64_quo8, u64_rem8, u64_quo64, u64_rem64, u32_quo8, u32_rem8, u32_quo64, u32_rem64, int_quo2, int_rem2, int_quo8, int_rem8, int_quo64, int_rem64, u64_shrN, u64_shlN, fold64, fold32, i64_shl_u8, i16_eql, i16_neq, i16_lss, i16_geq, Nat.reduceEqDiff, Nat.reduceLT, Nat.reduceAdd, Nat.reduceMul, Nat.reduceSub, ↓reduceIte, if_true, if_false, eq_self, true_and, and_true, Bool.false_eq_true, Bool.not_true, Bool.not_false, reduceCtorEq, upd_get, List.getElem?_toArray, List.getElem?_cons_zero, List.getElem?_cons_succ, Option.bind_some, rdK_some, List.map_toArray, List.map_cons, List.map_nil, rd_upd, rdO_fblk, wrOk_fblk, wrO_fblk, lget_zero, lget_succ, upd_upd, agg_cells, cells_of_list, List.length_cons, List.length_nil, Nat.add_zero, pv_cells, pl_len, pl_0, pl_1, pl_2, pl_3, pl_4, pl_5, pv_fold, pv_eta, ov_eta, opv_eta, ov_cells, ol_len, ov_fold, opv_cells, opl_len, opv_fold, st_pv, st_ov, st_opv, ol_0, ol_1, ol_2, ol_3, ol_4, ol_5, ol_6, ol_7, ol_8, ol_9, opl_0, opl_1, opl_2, opl_3, opl_4, opl_5, opl_6, opl_7, wrsOk_fblk, wrsO_fblk, fblk_all, Nat.reduceLeDiff, Nat.zero_add, rdsK2, rdsK4, rdsK6, rdsK8, rdsK10, wrsK_nil, wrsK_cons, oneCell_u8, oneCell_u16, oneCell_u32, oneCell_u64, oneCell_i16, oneCell_int, oneCell_bool, oneCell_ptr, oneCell_pointer, oneCell_sl, oneCell_slice, oneCell_string, box_eq, List.all_cons, List.all_nil, Bool.and_self, Ex1_eq, Ex1_and, endQ, resH, res_tmp, res_cell, resC_ptr, tupleOf, Fabg.results132, k_u16_0, fa_77_2, ld_74, ix_74_int, ix_74_u8, ix_74_u16, ix_74_i16, ldN_60, al_60, stN_60, fa_60_0, ld_5, k_u8_1, tn_u8_1, fa_60_3, fa_60_1, ld_50, fa_60_2, cv_5_50, k_u8_2, tn_u8_2, fa_60_4, k_u8_6, tn_u8_6, fa_60_5, cv_50_3, fa_77_0, ld_26, len_26, lenS_26, r1', p0, p1, p2, p3, p4, p5, q1, Nat.zero_add]
    | refine W_drawL (id := 8) (by kernel_rfl) [0, 0, 0, 0, 0, 0, 0, 0, 0, 0, 0] (by kernel_rfl) ?_
    | refine Alloc.mono ?_
    | (refine CondW_intro (fun hc => ?_) (fun hc => ?_) <;> (try simp only [Bool.not_eq_true', Bool.not_eq_false'] at hc) <;> (try simp only [hc]))
    | (refine GrdV_intro (fun hc => ?_) (fun hc => ?_) <;> (try simp only [Bool.not_eq_true', Bool.not_eq_false'] at hc) <;> (try simp only [hc]))
    | (refine GrdL_intro (fun hc => ?_) (fun hc => ?_) <;> (try simp only [Bool.not_eq_true', Bool.not_eq_false'] at hc) <;> (try simp only [hc]))))
  refine ⟨fun bx hbx => ?_⟩
  have z1 := ne_fresh (rd_dom r0') hbx
  have hL : ∀ x, Le G (upd G bx x) := fun x => Le.fresh (Le.refl _) hbx _
  generalize slotB S h i = sb at *
  have fin : ∀ x (v : UInt16) (w : Bool), sb = (v, w) → ∃ H', Le H' (upd G bx x) ∧ Value.tuple #[u16 v, Value.bool w] = Value.tuple #[u16 sb.1, Value.bool sb.2] ∧ H' = G :=
    fun x v w e => ⟨_, hL x, by rw [e], rfl⟩
  have dn : ∀ x : UInt16, decide ((x.toNat : Int) < (S.len : Int)) = decide (x.toNat < S.len) := fun x => by rw [decide_eq_decide]; omega
  generalize P h.toNat = q at *
  by_cases c1 : q.kind = 1 ∧ i < q.ptrs
  · rw [if_pos c1] at es
    have k1 : (q.kind == 1) = true := by simp [c1.1]
    have k2 : decide (i < q.ptrs) = true := decide_eq_true c1.2
    (repeat' (first
    | simp -implicitDefEqProofs only [WV_seq, WV_cond, WV_block, WV_skip, WV_ret, WV_exit, WV_region, WV_draw, WV_loop, thenQ_normal, thenQ_ret, thenQ_exit, blockQ_normal, blockQ_ret, blockQ_exit, V_nil, V_cons, KV_eq, VL_nil, VL_cons, KL_eq, vcl_zero, vcl_one, vcl_two, isV_same, isV_eq, monoK_eq, dOk, put, gd_none, gd_some, gdst_eq, gdv_some, gdB_true, gdB_false, gdB_undef, ev_const, ev_tmp, lit_i64, lit_i32, lit_bool, lit_pointer, lit_slice, lit_string, CondW_true, CondW_false, GrdV_true, GrdV_false, GrdL_true, GrdL_false, vc_move, vc_assign, vc_load, vc_store, vc_field, vc_indexAddr, vc_index, vc_box, vc_alloc, vc_build, vc_buildSlice, vc_makeSlice, vc_slice, vc_extract, vc_unOp, vc_convert, vc_bin, vc_pick, vc_call, vc_append, vc_len, vc_min, vc_max, vc_copy, vc_clear, pickK_true, pickK_false, stK_eq, not_bool, min_i64, max_i64, min_u16, max_u16, extract_tuple, vc_nil, nilK_ptr, int_add, int_sub, int_mul, int_eql, int_neq, int_lss, int_leq, int_gtr, int_geq, u8_add, u8_sub, u8_mul, u8_eql, u8_neq, u8_lss, u8_leq, u8_gtr, u8_geq, u16_add, u16_sub, u16_mul, u16_eql, u16_neq, u16_lss, u16_leq, u16_gtr, u16_geq, u32_add, u32_sub, u32_mul, u32_eql, u32_neq, u32_lss, u32_leq, u32_gtr, u32_geq, u64_add, u64_sub, u64_mul, u64_eql, u64_neq, u64_lss, u64_leq, u64_gtr, u64_geq, u8_and, u8_or, u8_xor, u8_andNot, u64_and, u64_or, u64_xor, u64_andNot, u8_shl_u8, u8_shl_u16, u8_shl_u64, u32_shl_u8, u32_shl_u16, u32_shl_u64, u64_shl_u8, u64_shl_u16, u64_shl_u64, u8_shr_u8, u8_shr_u16, u8_shr_u64, u64_shr_u8, u64_shr_u16, u64_shr_u64, u16_quo8, u16_rem8, u16_quo64, u16_rem64, u64_quo8, u64_rem8, u64_quo64, u64_rem64, u32_quo8, u32_rem8, u32_quo64, u32_rem64, int_quo2, int_rem2, int_quo8, int_rem8, int_quo64, int_rem64, u64_shrN, u64_shlN, fold64, fold32, i64_shl_u8, i16_eql, i16_neq, i16_lss, i16_geq, Nat.reduceEqDiff, Nat.reduceLT, Nat.reduceAdd, Nat.reduceMul, Nat.reduceSub, ↓reduceIte, if_true, if_false, eq_self, true_and, and_true, Bool.false_eq_true, Bool.not_true, Bool.not_false, reduceCtorEq, upd_get, List.getElem?_toArray, List.getElem?_cons_zero, List.getElem?_cons_succ, Option.bind_some, rdK_some, List.map_toArray, List.map_cons, List.map_nil, rd_upd, rdO_fblk, wrOk_fblk, wrO_fblk, lget_zero, lget_succ, upd_upd, agg_cells, cells_of_list, List.length_cons, List.length_nil, Nat.add_zero, pv_cells, pl_len, pl_0, pl_1, pl_2, pl_3, pl_4, pl_5, pv_fold, pv_eta, ov_eta, opv_eta, ov_cells, ol_len, ov_fold, opv_cells, opl_len, opv_fold, st_pv, st_ov, st_opv, ol_0, ol_1, ol_2, ol_3, ol_4, ol_5, ol_6, ol_7, ol_8, ol_9, opl_0, opl_1, opl_2, opl_3, opl_4, opl_5, opl_6, opl_7, wrsOk_fblk, wrsO_fblk, fblk_all, Nat.reduceLeDiff, Nat.zero_add, rdsK2, rdsK4, rdsK6, rdsK8, rdsK10, wrsK_nil, wrsK_cons, oneCell_u8, oneCell_u16, oneCell_u32, oneCell_u64, oneCell_i16, oneCell_int, oneCell_bool, oneCell_ptr, oneCell_pointer, oneCell_sl, oneCell_slice, oneCell_string, box_eq, List.all_cons, List.all_nil, Bool.and_self, Ex1_eq, Ex1_and, endQ, resH, res_tmp, res_cell, resC_ptr, tupleOf, Fabg.results132, k_u16_0, fa_77_2, ld_74, ix_74_int, ix_74_u8, ix_74_u16, ix_74_i16, ldN_60, al_60, stN_60, fa_60_0, ld_5, k_u8_1, tn_u8_1, fa_60_3, fa_60_1, ld_50, fa_60_2, cv_5_50, k_u8_2, tn_u8_2, fa_60_4, k_u8_6, tn_u8_6, fa_60_5, cv_50_3, fa_77_0, ld_26, len_26, lenS_26, r0', z1, k1, k2, dn, upd_same]
    | refine W_drawL (id := 8) (by kernel_rfl) [0, 0, 0, 0, 0, 0, 0, 0, 0, 0, 0] (by kernel_rfl) ?_
    | refine Alloc.mono ?_
    | (refine CondW_intro (fun hc => ?_) (fun hc => ?_) <;> (try simp only [Bool.not_eq_true', Bool.not_eq_false'] at hc) <;> (try simp only [hc]))
    | (refine GrdV_intro (fun hc => ?_) (fun hc => ?_) <;> (try simp only [Bool.not_eq_true', Bool.not_eq_false'] at hc) <;> (try simp only [hc]))
    | (refine GrdL_intro (fun hc => ?_) (fun hc => ?_) <;> (try simp only [Bool.not_eq_true', Bool.not_eq_false'] at hc) <;> (try simp only [hc]))))
    exact fin _ _ _ es
  · rw [if_neg c1] at es
    by_cases c2 : q.kind = 2 ∧ q.code = 6 ∧ i.toUInt16 < q.count
    · rw [if_pos c2] at es
      have k1 : (q.kind == 1) = false := by rw [c2.1]; rfl
      have k2 : (q.kind == 2) = true := by simp [c2.1]
      have k3 : (q.code == 6) = true := by simp [c2.2.1]
      have k4 : decide (i.toUInt16 < q.count) = true := decide_eq_true c2.2.2
      (repeat' (first
    | simp -implicitDefEqProofs only [WV_seq, WV_cond, WV_block, WV_skip, WV_ret, WV_exit, WV_region, WV_draw, WV_loop, thenQ_normal, thenQ_ret, thenQ_exit, blockQ_normal, blockQ_ret, blockQ_exit, V_nil, V_cons, KV_eq, VL_nil, VL_cons, KL_eq, vcl_zero, vcl_one, vcl_two, isV_same, isV_eq, monoK_eq, dOk, put, gd_none, gd_some, gdst_eq, gdv_some, gdB_true, gdB_false, gdB_undef, ev_const, ev_tmp, lit_i64, lit_i32, lit_bool, lit_pointer, lit_slice, lit_string, CondW_true, CondW_false, GrdV_true, GrdV_false, GrdL_true, GrdL_false, vc_move, vc_assign, vc_load, vc_store, vc_field, vc_indexAddr, vc_index, vc_box, vc_alloc, vc_build, vc_buildSlice, vc_makeSlice, vc_slice, vc_extract, vc_unOp, vc_convert, vc_bin, vc_pick, vc_call, vc_append, vc_len, vc_min, vc_max, vc_copy, vc_clear, pickK_true, pickK_false, stK_eq, not_bool, min_i64, max_i64, min_u16, max_u16, extract_tuple, vc_nil, nilK_ptr, int_add, int_sub, int_mul, int_eql, int_neq, int_lss, int_leq, int_gtr, int_geq, u8_add, u8_sub, u8_mul, u8_eql, u8_neq, u8_lss, u8_leq, u8_gtr, u8_geq, u16_add, u16_sub, u16_mul, u16_eql, u16_neq, u16_lss, u16_leq, u16_gtr, u16_geq, u32_add, u32_sub, u32_mul, u32_eql, u32_neq, u32_lss, u32_leq, u32_gtr, u32_geq, u64_add, u64_sub, u64_mul, u64_eql, u64_neq, u64_lss, u64_leq, u64_gtr, u64_geq, u8_and, u8_or, u8_xor, u8_andNot, u64_and, u64_or, u64_xor, u64_andNot, u8_shl_u8, u8_shl_u16, u8_shl_u64, u32_shl_u8, u32_shl_u16, u32_shl_u64, u64_shl_u8, u64_shl_u16, u64_shl_u64, u8_shr_u8, u8_shr_u16, u8_shr_u64, u64_shr_u8, u64_shr_u16, u64_shr_u64, u16_quo8, u16_rem8, u16_quo64, u16_rem64, u64_quo8, u64_rem8, u64_quo64, u64_rem64, u32_quo8, u32_rem8, u32_quo64, u32_rem64, int_quo2, int_rem2, int_quo8, int_rem8, int_quo64, int_rem64, u64_shrN, u64_shlN, fold64, fold32, i64_shl_u8, i16_eql, i16_neq, i16_lss, i16_geq, Nat.reduceEqDiff, Nat.reduceLT, Nat.reduceAdd, Nat.reduceMul, Nat.reduceSub, ↓reduceIte, if_true, if_false, eq_self, true_and, and_true, Bool.false_eq_true, Bool.not_true, Bool.not_false, reduceCtorEq, upd_get, List.getElem?_toArray, List.getElem?_cons_zero, List.getElem?_cons_succ, Option.bind_some, rdK_some, List.map_toArray, List.map_cons, List.map_nil, rd_upd, rdO_fblk, wrOk_fblk, wrO_fblk, lget_zero, lget_succ, upd_upd, agg_cells, cells_of_list, List.length_cons, List.length_nil, Nat.add_zero, pv_cells, pl_len, pl_0, pl_1, pl_2, pl_3, pl_4, pl_5, pv_fold, pv_eta, ov_eta, opv_eta, ov_cells, ol_len, ov_fold, opv_cells, opl_len, opv_fold, st_pv, st_ov, st_opv, ol_0, ol_1, ol_2, ol_3, ol_4, ol_5, ol_6, ol_7, ol_8, ol_9, opl_0, opl_1, opl_2, opl_3, opl_4, opl_5, opl_6, opl_7, wrsOk_fblk, wrsO_fblk, fblk_all, Nat.reduceLeDiff, Nat.zero_add, rdsK2, rdsK4, rdsK6, rdsK8, rdsK10, wrsK_nil, wrsK_cons, oneCell_u8, oneCell_u16, oneCell_u32, oneCell_u64, oneCell_i16, oneCell_int, oneCell_bool, oneCell_ptr, oneCell_pointer, oneCell_sl, oneCell_slice, oneCell_string, box_eq, List.all_cons, List.all_nil, Bool.and_self, Ex1_eq, Ex1_and, endQ, resH, res_tmp, res_cell, resC_ptr, tupleOf, Fabg.results132, k_u16_0, fa_77_2, ld_74, ix_74_int, ix_74_u8, ix_74_u16, ix_74_i16, ldN_60, al_60, stN_60, fa_60_0, ld_5, k_u8_1, tn_u8_1, fa_60_3, fa_60_1, ld_50, fa_60_2, cv_5_50, k_u8_2, tn_u8_2, fa_60_4, k_u8_6, tn_u8_6, fa_60_5, cv_50_3, fa_77_0, ld_26, len_26, lenS_26, r0', z1, k1, k2, k3, k4, dn, upd_same]
    | refine W_drawL (id := 8) (by kernel_rfl) [0, 0, 0, 0, 0, 0, 0, 0, 0, 0, 0] (by kernel_rfl) ?_
    | refine Alloc.mono ?_
    | (refine CondW_intro (fun hc => ?_) (fun hc => ?_) <;> (try simp only [Bool.not_eq_true', Bool.not_eq_false'] at hc) <;> (try simp only [hc]))
    | (refine GrdV_intro (fun hc => ?_) (fun hc => ?_) <;> (try simp only [Bool.not_eq_true', Bool.not_eq_false'] at hc) <;> (try simp only [hc]))
    | (refine GrdL_intro (fun hc => ?_) (fun hc => ?_) <;> (try simp only [Bool.not_eq_true', Bool.not_eq_false'] at hc) <;> (try simp only [hc]))))
      exact fin _ _ _ es
    · rw [if_neg c2] at es
      (repeat' (first
    | simp -implicitDefEqProofs only [WV_seq, WV_cond, WV_block, WV_skip, WV_ret, WV_exit, WV_region, WV_draw, WV_loop, thenQ_normal, thenQ_ret, thenQ_exit, blockQ_normal, blockQ_ret, blockQ_exit, V_nil, V_cons, KV_eq, VL_nil, VL_cons, KL_eq, vcl_zero, vcl_one, vcl_two, isV_same, isV_eq, monoK_eq, dOk, put, gd_none, gd_some, gdst_eq, gdv_some, gdB_true, gdB_false, gdB_undef, ev_const, ev_tmp, lit_i64, lit_i32, lit_bool, lit_pointer, lit_slice, lit_string, CondW_true, CondW_false, GrdV_true, GrdV_false, GrdL_true, GrdL_false, vc_move, vc_assign, vc_load, vc_store, vc_field, vc_indexAddr, vc_index, vc_box, vc_alloc, vc_build, vc_buildSlice, vc_makeSlice, vc_slice, vc_extract, vc_unOp, vc_convert, vc_bin, vc_pick, vc_call, vc_append, vc_len, vc_min, vc_max, vc_copy, vc_clear, pickK_true, pickK_false, stK_eq, not_bool, min_i64, max_i64, min_u16, max_u16, extract_tuple, vc_nil, nilK_ptr, int_add, int_sub, int_mul, int_eql, int_neq, int_lss, int_leq, int_gtr, int_geq, u8_add, u8_sub, u8_mul, u8_eql, u8_neq, u8_lss, u8_leq, u8_gtr, u8_geq, u16_add, u16_sub, u16_mul, u16_eql, u16_neq, u16_lss, u16_leq, u16_gtr, u16_geq, u32_add, u32_sub, u32_mul, u32_eql, u32_neq, u32_lss, u32_leq, u32_gtr, u32_geq, u64_add, u64_sub, u64_mul, u64_eql, u64_neq, u64_lss, u64_leq, u64_gtr, u64_geq, u8_and, u8_or, u8_xor, u8_andNot, u64_and, u64_or, u64_xor, u64_andNot, u8_shl_u8, u8_shl_u16, u8_shl_u64, u32_shl_u8, u32_shl_u16, u32_shl_u64, u64_shl_u8, u64_shl_u16, u64_shl_u64, u8_shr_u8, u8_shr_u16, u8_shr_u64, u64_shr_u8, u64_shr_u16, u64_shr_u64, u16_quo8, u16_rem8, u16_quo64, u16_rem64, u64_quo8, u64_rem8, u64_quo64, u64_rem64, u32_quo8, u32_rem8, u32_quo64, u32_rem64, int_quo2, int_rem2, int_quo8, int_rem8, int_quo64, int_rem64, u64_shrN, u64_shlN, fold64, fold32, i64_shl_u8, i16_eql, i16_neq, i16_lss, i16_geq, Nat.reduceEqDiff, Nat.reduceLT, Nat.reduceAdd, Nat.reduceMul, Nat.reduceSub, ↓reduceIte, if_true, if_false, eq_self, true_and, and_true, Bool.false_eq_true, Bool.not_true, Bool.not_false, reduceCtorEq, upd_get, List.getElem?_toArray, List.getElem?_cons_zero, List.getElem?_cons_succ, Option.bind_some, rdK_some, List.map_toArray, List.map_cons, List.map_nil, rd_upd, rdO_fblk, wrOk_fblk, wrO_fblk, lget_zero, lget_succ, upd_upd, agg_cells, cells_of_list, List.length_cons, List.length_nil, Nat.add_zero, pv_cells, pl_len, pl_0, pl_1, pl_2, pl_3, pl_4, pl_5, pv_fold, pv_eta, ov_eta, opv_eta, ov_cells, ol_len, ov_fold, opv_cells, opl_len, opv_fold, st_pv, st_ov, st_opv, ol_0, ol_1, ol_2, ol_3, ol_4, ol_5, ol_6, ol_7, ol_8, ol_9, opl_0, opl_1, opl_2, opl_3, opl_4, opl_5, opl_6, opl_7, wrsOk_fblk, wrsO_fblk, fblk_all, Nat.reduceLeDiff, Nat.zero_add, rdsK2, rdsK4, rdsK6, rdsK8, rdsK10, wrsK_nil, wrsK_cons, oneCell_u8, oneCell_u16, oneCell_u32, oneCell_u64, oneCell_i16, oneCell_int, oneCell_bool, oneCell_ptr, oneCell_pointer, oneCell_sl, oneCell_slice, oneCell_string, box_eq, List.all_cons, List.all_nil, Bool.and_self, Ex1_eq, Ex1_and, endQ, resH, res_tmp, res_cell, resC_ptr, tupleOf, Fabg.results132, k_u16_0, fa_77_2, ld_74, ix_74_int, ix_74_u8, ix_74_u16, ix_74_i16, ldN_60, al_60, stN_60, fa_60_0, ld_5, k_u8_1, tn_u8_1, fa_60_3, fa_60_1, ld_50, fa_60_2, cv_5_50, k_u8_2, tn_u8_2, fa_60_4, k_u8_6, tn_u8_6, fa_60_5, cv_50_3, fa_77_0, ld_26, len_26, lenS_26, r0', z1, dn, upd_same]
    | refine W_drawL (id := 8) (by kernel_rfl) [0, 0, 0, 0, 0, 0, 0, 0, 0, 0, 0] (by kernel_rfl) ?_
    | refine Alloc.mono ?_
    | (refine CondW_intro (fun hc => ?_) (fun hc => ?_) <;> (try simp only [Bool.not_eq_true', Bool.not_eq_false'] at hc) <;> (try simp only [hc]))
    | (refine GrdV_intro (fun hc => ?_) (fun hc => ?_) <;> (try simp only [Bool.not_eq_true', Bool.not_eq_false'] at hc) <;> (try simp only [hc]))
    | (refine GrdL_intro (fun hc => ?_) (fun hc => ?_) <;> (try simp only [Bool.not_eq_true', Bool.not_eq_false'] at hc) <;> (try simp only [hc]))))
      all_goals first | exact fin _ _ _ es | (exfalso; simp only [beq_iff_eq, decide_eq_true_eq] at *; first | exact c1 ⟨by assumption, by assumption⟩ | exact c2 ⟨by assumption, by assumption, by assumption⟩)
end
end Eng
end Go.Proofs.Ygcfab
