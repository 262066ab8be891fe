/-
  The walks of package tree: what reads a tree.
-/
import Derived.Test.YgcfabWalk2
set_option linter.unusedSimpArgs false
set_option linter.unusedVariables false
set_option maxRecDepth 100000
namespace Go.Proofs.Ygcfab
namespace Eng

/-- a loop with a middle: what holds behind it is said once -/
theorem W_loopM {P : Program} {n id : Nat} {c : Code} {K : Env → Heap → Prop} {Q : Exit → Env → Heap → Prop} (I : Nat → Env → Heap → Prop) (M : Env → Heap → Prop)
    (round : ∀ m T H, I m T H → W P n c (thenQ (fun T' H' => ∃ m', m' < m ∧ I m' T' H') (blockQ id (thenQ M Q))) T H) (m : Nat) (T : Env) (H : Heap) (h : I m T H)
    (cont : ∀ T H, M T H → K T H) : W P n (.loop c) (blockQ id (thenQ K Q)) T H := by
  refine W_mono ?_ (W_loop I round m T H h)
  intro e T H hq
  cases e with
  | normal => exact cont T H hq
  | exit id' =>
    simp only [blockQ] at hq ⊢
    split
    · rename_i he
      rw [if_pos he] at hq
      exact cont T H hq
    · rename_i he
      rw [if_neg he] at hq
      exact hq
  | _ => exact hq

structure NodeL where
  kind : UInt8
  code : UInt8
  nd : Nat
  dat : Nat → UInt64
  nk : Nat
  kid : Nat → Int16

/-- a slice of int16 -/
def SlI (H : Heap) (v : Value) (len : Nat) (A : Nat → Int16) : Prop :=
  (∃ a cap, v = .slice a 0 cap ∧ len = 0) ∨ (∃ b o cap, v = sl b o len cap ∧ 0 < len ∧ ∀ i, i < len → rd H b (o + i) = some (i16 (A i)))
theorem SlI.le {H G : Heap} {v : Value} {len : Nat} {A : Nat → Int16} (h : SlI H v len A) (l : Le H G) : SlI G v len A := by
  rcases h with h | ⟨b, o, cap, h1, h2, h3⟩
  · exact .inl h
  · exact .inr ⟨b, o, cap, h1, h2, fun i hi => hcell_le l (h3 i hi)⟩
theorem SlI.form {H : Heap} {v : Value} {len : Nat} {A : Nat → Int16} (h : SlI H v len A) : ∃ a cap, v = .slice a len cap := by
  rcases h with ⟨a, cap, h, rfl⟩ | ⟨b, o, cap, h, _⟩
  · exact ⟨a, cap, h⟩
  · exact ⟨_, cap, h⟩
theorem SlU.pos {H : Heap} {a : Option Addr} {len cap : Nat} {A : Nat → UInt64} (h : SlU H (.slice a len cap) len A) (hp : 0 < len) : ∃ b o, Value.slice a len cap = sl b o len cap ∧ ∀ i, i < len → rd H b (o + i) = some (u64 (A i)) := by
  rcases h with ⟨a', cap', h, rfl⟩ | ⟨b, o, cap', h, _, h3⟩
  · omega
  · cases h
    exact ⟨b, o, rfl, h3⟩
theorem SlI.pos {H : Heap} {a : Option Addr} {len cap : Nat} {A : Nat → Int16} (h : SlI H (.slice a len cap) len A) (hp : 0 < len) : ∃ b o, Value.slice a len cap = sl b o len cap ∧ ∀ i, i < len → rd H b (o + i) = some (i16 (A i)) := by
  rcases h with ⟨a', cap', h, rfl⟩ | ⟨b, o, cap', h, _, h3⟩
  · omega
  · cases h
    exact ⟨b, o, rfl, h3⟩

/-- a node stands at the address -/
def NodeAt (H : Heap) (b o : Nat) (n : NodeL) : Prop :=
  ∃ vd vk, rd H b o = some (u8 n.kind) ∧ rd H b (o + 1) = some (u8 n.code) ∧ rd H b (o + 2) = some vd ∧ rd H b (o + 3) = some vk ∧ SlU H vd n.nd n.dat ∧ SlI H vk n.nk n.kid ∧ n.nd ≤ 9223372036854775807 ∧ n.nk ≤ 9223372036854775807
theorem NodeAt.le {H G : Heap} {b o : Nat} {n : NodeL} (h : NodeAt H b o n) (l : Le H G) : NodeAt G b o n := by
  obtain ⟨vd, vk, h1, h2, h3, h4, h5, h6, h7⟩ := h
  exact ⟨vd, vk, hcell_le l h1, hcell_le l h2, hcell_le l h3, hcell_le l h4, h5.le l, h6.le l, h7⟩
/-- a slice of nodes -/
def SlN (H : Heap) (v : Value) (cnt : Nat) (N : Nat → NodeL) : Prop :=
  (∃ a cap, v = .slice a 0 cap ∧ cnt = 0) ∨ (∃ b o cap, v = sl b o cnt cap ∧ 0 < cnt ∧ ∀ i, i < cnt → NodeAt H b (o + i * 4) (N i))
theorem SlN.le {H G : Heap} {v : Value} {len : Nat} {A : Nat → NodeL} (h : SlN H v len A) (l : Le H G) : SlN G v len A := by
  rcases h with h | ⟨b, o, cap, h1, h2, h3⟩
  · exact .inl h
  · exact .inr ⟨b, o, cap, h1, h2, fun i hi => (h3 i hi).le l⟩
theorem SlN.form {H : Heap} {v : Value} {len : Nat} {A : Nat → NodeL} (h : SlN H v len A) : ∃ a cap, v = .slice a len cap := by
  rcases h with ⟨a, cap, h, rfl⟩ | ⟨b, o, cap, h, _⟩
  · exact ⟨a, cap, h⟩
  · exact ⟨_, cap, h⟩
theorem SlN.pos {H : Heap} {a : Option Addr} {len cap : Nat} {A : Nat → NodeL} (h : SlN H (.slice a len cap) len A) (hp : 0 < len) : ∃ b o, Value.slice a len cap = sl b o len cap ∧ ∀ i, i < len → NodeAt H b (o + i * 4) (A i) := by
  rcases h with ⟨a', cap', h, rfl⟩ | ⟨b, o, cap', h, _, h3⟩
  · omega
  · cases h
    exact ⟨b, o, rfl, h3⟩
/-- a tree stands in block b, at offset o -/
def TreeAt (H : Heap) (b o : Nat) (N : Nat → NodeL) (cnt : Nat) (root : Int16) : Prop :=
  ∃ v, rd H b o = some v ∧ rd H b (o + 1) = some (i16 root) ∧ SlN H v cnt N ∧ cnt ≤ 9223372036854775807
theorem TreeAt.le {H G : Heap} {b o cnt : Nat} {N : Nat → NodeL} {root : Int16} (h : TreeAt H b o N cnt root) (l : Le H G) : TreeAt G b o N cnt root := by
  obtain ⟨v, h1, h2, h3, h4⟩ := h
  exact ⟨v, hcell_le l h1, hcell_le l h2, h3.le l, h4⟩

def trimD (g : Nat → UInt64) : Nat → Nat
  | 0 => 0
  | k + 1 => if g k = 0 then trimD g k else k + 1
def trimK (g : Nat → Int16) : Nat → Nat
  | 0 => 0
  | k + 1 => if g k = -1 then trimK g k else k + 1

theorem trimmed_ok (b o : Nat) (n : NodeL) (H : Heap) (h : NodeAt H b o n) :
    Fn Fabg.prog 84 #[ptr b o] H (fun r H' => r = .tuple #[.int .i64 (trimD n.dat n.nd : Nat), .int .i64 (trimK n.kid n.nk : Nat)] ∧ H' = H) := by
  obtain ⟨vd, vk, h1, h2, h3, h4, h5, h6, h7, h8⟩ := h
  obtain ⟨ad, cd, rfl⟩ := h5.form
  obtain ⟨ak, ck, rfl⟩ := h6.form
  refine Fn_of Fabg.func84 rfl Fabg.ntmps84 (by simp) (WV_sound _ _ _ _ ?_)
  rw [argEnv1]
  (repeat' (first
    | simp -implicitDefEqProofs only [WV_seq, WV_cond, WV_block, WV_skip, WV_ret, WV_exit, WV_region, WV_draw, WV_loop, thenQ_normal, thenQ_ret, thenQ_exit, blockQ_normal, blockQ_ret, blockQ_exit, V_nil, V_cons, KV_eq, VL_nil, VL_cons, KL_eq, vcl_zero, vcl_one, vcl_two, isV_same, isV_eq, monoK_eq, dOk, put, gd_none, gd_some, gdst_eq, gdv_some, gdB_true, gdB_false, gdB_undef, ev_const, ev_tmp, lit_i64, lit_i32, lit_bool, lit_pointer, lit_slice, lit_string, CondW_true, CondW_false, GrdV_true, GrdV_false, GrdL_true, GrdL_false, vc_move, vc_assign, vc_load, vc_store, vc_field, vc_indexAddr, vc_index, vc_box, vc_alloc, vc_build, vc_buildSlice, vc_makeSlice, vc_slice, vc_extract, vc_unOp, vc_convert, vc_bin, vc_pick, vc_call, vc_append, vc_len, vc_min, vc_max, vc_copy, vc_clear, pickK_true, pickK_false, stK_eq, not_bool, min_i64, max_i64, min_u16, max_u16, extract_tuple, vc_nil, nilK_ptr, int_add, int_sub, int_mul, int_eql, int_neq, int_lss, int_leq, int_gtr, int_geq, u8_add, u8_sub, u8_mul, u8_eql, u8_neq, u8_lss, u8_leq, u8_gtr, u8_geq, u16_add, u16_sub, u16_mul, u16_eql, u16_neq, u16_lss, u16_leq, u16_gtr, u16_geq, u32_add, u32_sub, u32_mul, u32_eql, u32_neq, u32_lss, u32_leq, u32_gtr, u32_geq, u64_add, u64_sub, u64_mul, u64_eql, u64_neq, u64_lss, u64_leq, u64_gtr, u64_geq, u8_and, u8_or, u8_xor, u8_andNot, u64_and, u64_or, u64_xor, u64_andNot, u8_shl_u8, u8_shl_u16, u8_shl_u64, u32_shl_u8, u32_shl_u16, u32_shl_u64, u64_shl_u8, u64_shl_u16, u64_shl_u64, u8_shr_u8, u8_shr_u16, u8_shr_u64, u64_shr_u8, u64_shr_u16, u64_shr_u64, u16_quo8, u16_rem8, u16_quo64, u16_rem64, u64_quo8, u64_rem8, u64_quo64, u64_rem64, u32_quo8, u32_rem8, u32_quo64, u32_rem64, int_quo2, int_rem2, int_quo8, int_rem8, int_quo64, int_rem64, u64_shrN, u64_shlN, fold64, fold32, i64_shl_u8, i16_eql, i16_neq, i16_lss, i16_geq, Nat.reduceEqDiff, Nat.reduceLT, Nat.reduceAdd, Nat.reduceMul, Nat.reduceSub, ↓reduceIte, if_true, if_false, eq_self, true_and, and_true, Bool.false_eq_true, Bool.not_true, Bool.not_false, reduceCtorEq, upd_get, List.getElem?_toArray, List.getElem?_cons_zero, List.getElem?_cons_succ, Option.bind_some, rdK_some, List.map_toArray, List.map_cons, List.map_nil, rd_upd, rdO_fblk, wrOk_fblk, wrO_fblk, lget_zero, lget_succ, upd_upd, agg_cells, cells_of_list, List.length_cons, List.length_nil, Nat.add_zero, pv_cells, pl_len, pl_0, pl_1, pl_2, pl_3, pl_4, pl_5, pv_fold, pv_eta, ov_eta, opv_eta, ov_cells, ol_len, ov_fold, opv_cells, opl_len, opv_fold, st_pv, st_ov, st_opv, ol_0, ol_1, ol_2, ol_3, ol_4, ol_5, ol_6, ol_7, ol_8, ol_9, opl_0, opl_1, opl_2, opl_3, opl_4, opl_5, opl_6, opl_7, wrsOk_fblk, wrsO_fblk, fblk_all, Nat.reduceLeDiff, Nat.zero_add, rdsK2, rdsK4, rdsK6, rdsK8, rdsK10, wrsK_nil, wrsK_cons, oneCell_u8, oneCell_u16, oneCell_u32, oneCell_u64, oneCell_i16, oneCell_int, oneCell_bool, oneCell_ptr, oneCell_pointer, oneCell_sl, oneCell_slice, oneCell_string, box_eq, List.all_cons, List.all_nil, Bool.and_self, Ex1_eq, Ex1_and, endQ, resH, res_tmp, res_cell, resC_ptr, tupleOf, Fabg.results84, fa_102_2, ld_26, len_26, lenS_26, fa_102_3, ld_100, len_100, lenS_100, ix_26_int, ix_26_u8, ix_26_u16, ix_26_i16, ld_30, k_u64_0, tn_u64_0, ix_100_int, ix_100_u8, ix_100_u16, ix_100_i16, ld_23, k_i16_m1, h1, h2, h3, h4]
    | refine W_drawL (id := 1) (by kernel_rfl) [0, 0, 0, 0, 0, 0, 0, 0, 0, 0, 0, 0] (by kernel_rfl) ?_
    | refine Alloc.mono ?_
    | (refine CondW_intro (fun hc => ?_) (fun hc => ?_) <;> (try simp only [Bool.not_eq_true', Bool.not_eq_false'] at hc) <;> (try simp only [hc]))
    | (refine GrdV_intro (fun hc => ?_) (fun hc => ?_) <;> (try simp only [Bool.not_eq_true', Bool.not_eq_false'] at hc) <;> (try simp only [hc]))
    | (refine GrdL_intro (fun hc => ?_) (fun hc => ?_) <;> (try simp only [Bool.not_eq_true', Bool.not_eq_false'] at hc) <;> (try simp only [hc]))))
  refine W_loopM (fun m T G => G = H ∧ m ≤ n.nd ∧ trimD n.dat n.nd = trimD n.dat m ∧ T 0 = ptr b o ∧ T 2 = .int .i64 (m : Nat) ∧ T 3 = .int .i64 n.nk)
    (fun T G => G = H ∧ T 0 = ptr b o ∧ T 2 = .int .i64 (trimD n.dat n.nd : Nat) ∧ T 3 = .int .i64 n.nk) ?_ n.nd _ _ ?_ ?_
  · rintro m T G ⟨rfl, hm, he, t0, t2, t3⟩
    refine WV_sound _ _ _ _ ?_
    cases m with
    | zero =>
      have q : decide (((0 : Nat) : Int) > 0) = false := rfl
      have q1 : trimD n.dat 0 = 0 := rfl
      (repeat' (first
    | simp -implicitDefEqProofs only [WV_seq, WV_cond, WV_block, WV_skip, WV_ret, WV_exit, WV_region, WV_draw, WV_loop, thenQ_normal, thenQ_ret, thenQ_exit, blockQ_normal, blockQ_ret, blockQ_exit, V_nil, V_cons, KV_eq, VL_nil, VL_cons, KL_eq, vcl_zero, vcl_one, vcl_two, isV_same, isV_eq, monoK_eq, dOk, put, gd_none, gd_some, gdst_eq, gdv_some, gdB_true, gdB_false, gdB_undef, ev_const, ev_tmp, lit_i64, lit_i32, lit_bool, lit_pointer, lit_slice, lit_string, CondW_true, CondW_false, GrdV_true, GrdV_false, GrdL_true, GrdL_false, vc_move, vc_assign, vc_load, vc_store, vc_field, vc_indexAddr, vc_index, vc_box, vc_alloc, vc_build, vc_buildSlice, vc_makeSlice, vc_slice, vc_extract, vc_unOp, vc_convert, vc_bin, vc_pick, vc_call, vc_append, vc_len, vc_min, vc_max, vc_copy, vc_clear, pickK_true, pickK_false, stK_eq, not_bool, min_i64, max_i64, min_u16, max_u16, extract_tuple, vc_nil, nilK_ptr, int_add, int_sub, int_mul, int_eql, int_neq, int_lss, int_leq, int_gtr, int_geq, u8_add, u8_sub, u8_mul, u8_eql, u8_neq, u8_lss, u8_leq, u8_gtr, u8_geq, u16_add, u16_sub, u16_mul, u16_eql, u16_neq, u16_lss, u16_leq, u16_gtr, u16_geq, u32_add, u32_sub, u32_mul, u32_eql, u32_neq, u32_lss, u32_leq, u32_gtr, u32_geq, u64_add, u64_sub, u64_mul, u64_eql, u64_neq, u64_lss, u64_leq, u64_gtr, u64_geq, u8_and, u8_or, u8_xor, u8_andNot, u64_and, u64_or, u64_xor, u64_andNot, u8_shl_u8, u8_shl_u16, u8_shl_u64, u32_shl_u8, u32_shl_u16, u32_shl_u64, u64_shl_u8, u64_shl_u16, u64_shl_u64, u8_shr_u8, u8_shr_u16, u8_shr_u64, u64_shr_u8, u64_shr_u16, u64_shr_u64, u16_quo8, u16_rem8, u16_quo64, u16_rem64, u64_quo8, u64_rem8, u64_quo64, u64_rem64, u32_quo8, u32_rem8, u32_quo64, u32_rem64, int_quo2, int_rem2, int_quo8, int_rem8, int_quo64, int_rem64, u64_shrN, u64_shlN, fold64, fold32, i64_shl_u8, i16_eql, i16_neq, i16_lss, i16_geq, Nat.reduceEqDiff, Nat.reduceLT, Nat.reduceAdd, Nat.reduceMul, Nat.reduceSub, ↓reduceIte, if_true, if_false, eq_self, true_and, and_true, Bool.false_eq_true, Bool.not_true, Bool.not_false, reduceCtorEq, upd_get, List.getElem?_toArray, List.getElem?_cons_zero, List.getElem?_cons_succ, Option.bind_some, rdK_some, List.map_toArray, List.map_cons, List.map_nil, rd_upd, rdO_fblk, wrOk_fblk, wrO_fblk, lget_zero, lget_succ, upd_upd, agg_cells, cells_of_list, List.length_cons, List.length_nil, Nat.add_zero, pv_cells, pl_len, pl_0, pl_1, pl_2, pl_3, pl_4, pl_5, pv_fold, pv_eta, ov_eta, opv_eta, ov_cells, ol_len, ov_fold, opv_cells, opl_len, opv_fold, st_pv, st_ov, st_opv, ol_0, ol_1, ol_2, ol_3, ol_4, ol_5, ol_6, ol_7, ol_8, ol_9, opl_0, opl_1, opl_2, opl_3, opl_4, opl_5, opl_6, opl_7, wrsOk_fblk, wrsO_fblk, fblk_all, Nat.reduceLeDiff, Nat.zero_add, rdsK2, rdsK4, rdsK6, rdsK8, rdsK10, wrsK_nil, wrsK_cons, oneCell_u8, oneCell_u16, oneCell_u32, oneCell_u64, oneCell_i16, oneCell_int, oneCell_bool, oneCell_ptr, oneCell_pointer, oneCell_sl, oneCell_slice, oneCell_string, box_eq, List.all_cons, List.all_nil, Bool.and_self, Ex1_eq, Ex1_and, endQ, resH, res_tmp, res_cell, resC_ptr, tupleOf, Fabg.results84, fa_102_2, ld_26, len_26, lenS_26, fa_102_3, ld_100, len_100, lenS_100, ix_26_int, ix_26_u8, ix_26_u16, ix_26_i16, ld_30, k_u64_0, tn_u64_0, ix_100_int, ix_100_u8, ix_100_u16, ix_100_i16, ld_23, k_i16_m1, h1, h2, h3, h4, t0, t2, t3, q, he, q1]
    | refine W_drawL (id := 1) (by kernel_rfl) [0, 0, 0, 0, 0, 0, 0, 0, 0, 0, 0, 0] (by kernel_rfl) ?_
    | refine Alloc.mono ?_
    | (refine CondW_intro (fun hc => ?_) (fun hc => ?_) <;> (try simp only [Bool.not_eq_true', Bool.not_eq_false'] at hc) <;> (try simp only [hc]))
    | (refine GrdV_intro (fun hc => ?_) (fun hc => ?_) <;> (try simp only [Bool.not_eq_true', Bool.not_eq_false'] at hc) <;> (try simp only [hc]))
    | (refine GrdL_intro (fun hc => ?_) (fun hc => ?_) <;> (try simp only [Bool.not_eq_true', Bool.not_eq_false'] at hc) <;> (try simp only [hc]))))
    | succ m =>
      obtain ⟨bd, od, ed, hd⟩ := h5.pos (by omega)
      rw [ed] at h3
      have q : decide (((m + 1 : Nat) : Int) > 0) = true := by simp
      have q1 : w64 (((m + 1 : Nat) : Int) - 1) = (m : Nat) := by rw [w64_id] <;> omega
      have q2 := hd m (by omega)
      have q3 : ((m : Int) < (n.nd : Int)) = True := by simp; omega
      have q4 : trimD n.dat (m + 1) = if n.dat m = 0 then trimD n.dat m else m + 1 := rfl
      rw [q4] at he
      (repeat' (first
    | simp -implicitDefEqProofs only [WV_seq, WV_cond, WV_block, WV_skip, WV_ret, WV_exit, WV_region, WV_draw, WV_loop, thenQ_normal, thenQ_ret, thenQ_exit, blockQ_normal, blockQ_ret, blockQ_exit, V_nil, V_cons, KV_eq, VL_nil, VL_cons, KL_eq, vcl_zero, vcl_one, vcl_two, isV_same, isV_eq, monoK_eq, dOk, put, gd_none, gd_some, gdst_eq, gdv_some, gdB_true, gdB_false, gdB_undef, ev_const, ev_tmp, lit_i64, lit_i32, lit_bool, lit_pointer, lit_slice, lit_string, CondW_true, CondW_false, GrdV_true, GrdV_false, GrdL_true, GrdL_false, vc_move, vc_assign, vc_load, vc_store, vc_field, vc_indexAddr, vc_index, vc_box, vc_alloc, vc_build, vc_buildSlice, vc_makeSlice, vc_slice, vc_extract, vc_unOp, vc_convert, vc_bin, vc_pick, vc_call, vc_append, vc_len, vc_min, vc_max, vc_copy, vc_clear, pickK_true, pickK_false, stK_eq, not_bool, min_i64, max_i64, min_u16, max_u16, extract_tuple, vc_nil, nilK_ptr, int_add, int_sub, int_mul, int_eql, int_neq, int_lss, int_leq, int_gtr, int_geq, u8_add, u8_sub, u8_mul, u8_eql, u8_neq, u8_lss, u8_leq, u8_gtr, u8_geq, u16_add, u16_sub, u16_mul, u16_eql, u16_neq, u16_lss, u16_leq, u16_gtr, u16_geq, u32_add, u32_sub, u32_mul, u32_eql, u32_neq, u32_lss, u32_leq, u32_gtr, u32_geq, u64_add, u64_sub, u64_mul, u64_eql, u64_neq, u64_lss, u64_leq, u64_gtr, u64_geq, u8_and, u8_or, u8_xor, u8_andNot, u64_and, u64_or, u64_xor, u64_andNot, u8_shl_u8, u8_shl_u16, u8_shl_u64, u32_shl_u8, u32_shl_u16, u32_shl_u64, u64_shl_u8, u64_shl_u16, u64_shl_u64, u8_shr_u8, u8_shr_u16, u8_shr_u64, u64_shr_u8, u64_shr_u16, u64_shr_u64, u16_quo8, u16_rem8, u16_quo64, u16_rem64, u64_quo8, u64_rem8, u64_quo64, u64_rem64, u32_quo8, u32_rem8, u32_quo64, u32_rem64, int_quo2, int_rem2, int_quo8, int_rem8, int_quo64, int_rem64, u64_shrN, u64_shlN, fold64, fold32, i64_shl_u8, i16_eql, i16_neq, i16_lss, i16_geq, Nat.reduceEqDiff, Nat.reduceLT, Nat.reduceAdd, Nat.reduceMul, Nat.reduceSub, ↓reduceIte, if_true, if_false, eq_self, true_and, and_true, Bool.false_eq_true, Bool.not_true, Bool.not_false, reduceCtorEq, upd_get, List.getElem?_toArray, List.getElem?_cons_zero, List.getElem?_cons_succ, Option.bind_some, rdK_some, List.map_toArray, List.map_cons, List.map_nil, rd_upd, rdO_fblk, wrOk_fblk, wrO_fblk, lget_zero, lget_succ, upd_upd, agg_cells, cells_of_list, List.length_cons, List.length_nil, Nat.add_zero, pv_cells, pl_len, pl_0, pl_1, pl_2, pl_3, pl_4, pl_5, pv_fold, pv_eta, ov_eta, opv_eta, ov_cells, ol_len, ov_fold, opv_cells, opl_len, opv_fold, st_pv, st_ov, st_opv, ol_0, ol_1, ol_2, ol_3, ol_4, ol_5, ol_6, ol_7, ol_8, ol_9, opl_0, opl_1, opl_2, opl_3, opl_4, opl_5, opl_6, opl_7, wrsOk_fblk, wrsO_fblk, fblk_all, Nat.reduceLeDiff, Nat.zero_add, rdsK2, rdsK4, rdsK6, rdsK8, rdsK10, wrsK_nil, wrsK_cons, oneCell_u8, oneCell_u16, oneCell_u32, oneCell_u64, oneCell_i16, oneCell_int, oneCell_bool, oneCell_ptr, oneCell_pointer, oneCell_sl, oneCell_slice, oneCell_string, box_eq, List.all_cons, List.all_nil, Bool.and_self, Ex1_eq, Ex1_and, endQ, resH, res_tmp, res_cell, resC_ptr, tupleOf, Fabg.results84, fa_102_2, ld_26, len_26, lenS_26, fa_102_3, ld_100, len_100, lenS_100, ix_26_int, ix_26_u8, ix_26_u16, ix_26_i16, ld_30, k_u64_0, tn_u64_0, ix_100_int, ix_100_u8, ix_100_u16, ix_100_i16, ld_23, k_i16_m1, h1, h2, h3, h4, t0, t2, t3, q, q1, q2, q3, Int.toNat_natCast, Int.natCast_nonneg, he]
    | refine W_drawL (id := 1) (by kernel_rfl) [0, 0, 0, 0, 0, 0, 0, 0, 0, 0, 0, 0] (by kernel_rfl) ?_
    | refine Alloc.mono ?_
    | (refine CondW_intro (fun hc => ?_) (fun hc => ?_) <;> (try simp only [Bool.not_eq_true', Bool.not_eq_false'] at hc) <;> (try simp only [hc]))
    | (refine GrdV_intro (fun hc => ?_) (fun hc => ?_) <;> (try simp only [Bool.not_eq_true', Bool.not_eq_false'] at hc) <;> (try simp only [hc]))
    | (refine GrdL_intro (fun hc => ?_) (fun hc => ?_) <;> (try simp only [Bool.not_eq_true', Bool.not_eq_false'] at hc) <;> (try simp only [hc]))))
      · have h0 : n.dat m = 0 := by simpa using hc
        exact ⟨m, by omega, by omega, by rw [if_pos h0], rfl⟩
      · have h0 : ¬ n.dat m = 0 := by simpa using hc
        rw [if_neg h0]
  · exact ⟨rfl, by omega, rfl, by simp [upd_get], by simp [upd_get], by simp [upd_get]⟩
  · rintro T G ⟨rfl, t0, t2, t3⟩
    refine W_loopM (fun m T G' => G' = G ∧ m ≤ n.nk ∧ trimK n.kid n.nk = trimK n.kid m ∧ T 0 = ptr b o ∧ T 2 = .int .i64 (trimD n.dat n.nd : Nat) ∧ T 3 = .int .i64 (m : Nat))
      (fun T G' => G' = G ∧ T 2 = .int .i64 (trimD n.dat n.nd : Nat) ∧ T 3 = .int .i64 (trimK n.kid n.nk : Nat)) ?_ n.nk _ _ ?_ ?_
    · rintro m T G ⟨rfl, hm, he, t0, t2, t3⟩
      refine WV_sound _ _ _ _ ?_
      cases m with
      | zero =>
        have q : decide (((0 : Nat) : Int) > 0) = false := rfl
        have q1 : trimK n.kid 0 = 0 := rfl
        (repeat' (first
    | simp -implicitDefEqProofs only [WV_seq, WV_cond, WV_block, WV_skip, WV_ret, WV_exit, WV_region, WV_draw, WV_loop, thenQ_normal, thenQ_ret, thenQ_exit, blockQ_normal, blockQ_ret, blockQ_exit, V_nil, V_cons, KV_eq, VL_nil, VL_cons, KL_eq, vcl_zero, vcl_one, vcl_two, isV_same, isV_eq, monoK_eq, dOk, put, gd_none, gd_some, gdst_eq, gdv_some, gdB_true, gdB_false, gdB_undef, ev_const, ev_tmp, lit_i64, lit_i32, lit_bool, lit_pointer, lit_slice, lit_string, CondW_true, CondW_false, GrdV_true, GrdV_false, GrdL_true, GrdL_false, vc_move, vc_assign, vc_load, vc_store, vc_field, vc_indexAddr, vc_index, vc_box, vc_alloc, vc_build, vc_buildSlice, vc_makeSlice, vc_slice, vc_extract, vc_unOp, vc_convert, vc_bin, vc_pick, vc_call, vc_append, vc_len, vc_min, vc_max, vc_copy, vc_clear, pickK_true, pickK_false, stK_eq, not_bool, min_i64, max_i64, min_u16, max_u16, extract_tuple, vc_nil, nilK_ptr, int_add, int_sub, int_mul, int_eql, int_neq, int_lss, int_leq, int_gtr, int_geq, u8_add, u8_sub, u8_mul, u8_eql, u8_neq, u8_lss, u8_leq, u8_gtr, u8_geq, u16_add, u16_sub, u16_mul, u16_eql, u16_neq, u16_lss, u16_leq, u16_gtr, u16_geq, u32_add, u32_sub, u32_mul, u32_eql, u32_neq, u32_lss, u32_leq, u32_gtr, u32_geq, u64_add, u64_sub, u64_mul, u64_eql, u64_neq, u64_lss, u64_leq, u64_gtr, u64_geq, u8_and, u8_or, u8_xor, u8_andNot, u64_and, u64_or, u64_xor, u64_andNot, u8_shl_u8, u8_shl_u16, u8_shl_u64, u32_shl_u8, u32_shl_u16, u32_shl_u64, u64_shl_u8, u64_shl_u16, u64_shl_u64, u8_shr_u8, u8_shr_u16, u8_shr_u64, u64_shr_u8, u64_shr_u16, u64_shr_u64, u16_quo8, u16_rem8, u16_quo64, u16_rem64, u64_quo8, u64_rem8, u64_quo64, u64_rem64, u32_quo8, u32_rem8, u32_quo64, u32_rem64, int_quo2, int_rem2, int_quo8, int_rem8, int_quo64, int_rem64, u64_shrN, u64_shlN, fold64, fold32, i64_shl_u8, i16_eql, i16_neq, i16_lss, i16_geq, Nat.reduceEqDiff, Nat.reduceLT, Nat.reduceAdd, Nat.reduceMul, Nat.reduceSub, ↓reduceIte, if_true, if_false, eq_self, true_and, and_true, Bool.false_eq_true, Bool.not_true, Bool.not_false, reduceCtorEq, upd_get, List.getElem?_toArray, List.getElem?_cons_zero, List.getElem?_cons_succ, Option.bind_some, rdK_some, List.map_toArray, List.map_cons, List.map_nil, rd_upd, rdO_fblk, wrOk_fblk, wrO_fblk, lget_zero, lget_succ, upd_upd, agg_cells, cells_of_list, List.length_cons, List.length_nil, Nat.add_zero, pv_cells, pl_len, pl_0, pl_1, pl_2, pl_3, pl_4, pl_5, pv_fold, pv_eta, ov_eta, opv_eta, ov_cells, ol_len, ov_fold, opv_cells, opl_len, opv_fold, st_pv, st_ov, st_opv, ol_0, ol_1, ol_2, ol_3, ol_4, ol_5, ol_6, ol_7, ol_8, ol_9, opl_0, opl_1, opl_2, opl_3, opl_4, opl_5, opl_6, opl_7, wrsOk_fblk, wrsO_fblk, fblk_all, Nat.reduceLeDiff, Nat.zero_add, rdsK2, rdsK4, rdsK6, rdsK8, rdsK10, wrsK_nil, wrsK_cons, oneCell_u8, oneCell_u16, oneCell_u32, oneCell_u64, oneCell_i16, oneCell_int, oneCell_bool, oneCell_ptr, oneCell_pointer, oneCell_sl, oneCell_slice, oneCell_string, box_eq, List.all_cons, List.all_nil, Bool.and_self, Ex1_eq, Ex1_and, endQ, resH, res_tmp, res_cell, resC_ptr, tupleOf, Fabg.results84, fa_102_2, ld_26, len_26, lenS_26, fa_102_3, ld_100, len_100, lenS_100, ix_26_int, ix_26_u8, ix_26_u16, ix_26_i16, ld_30, k_u64_0, tn_u64_0, ix_100_int, ix_100_u8, ix_100_u16, ix_100_i16, ld_23, k_i16_m1, h1, h2, h3, h4, t0, t2, t3, q, he, q1]
    | refine W_drawL (id := 1) (by kernel_rfl) [0, 0, 0, 0, 0, 0, 0, 0, 0, 0, 0, 0] (by kernel_rfl) ?_
    | refine Alloc.mono ?_
    | (refine CondW_intro (fun hc => ?_) (fun hc => ?_) <;> (try simp only [Bool.not_eq_true', Bool.not_eq_false'] at hc) <;> (try simp only [hc]))
    | (refine GrdV_intro (fun hc => ?_) (fun hc => ?_) <;> (try simp only [Bool.not_eq_true', Bool.not_eq_false'] at hc) <;> (try simp only [hc]))
    | (refine GrdL_intro (fun hc => ?_) (fun hc => ?_) <;> (try simp only [Bool.not_eq_true', Bool.not_eq_false'] at hc) <;> (try simp only [hc]))))
      | succ m =>
        obtain ⟨bd, od, ed, hd⟩ := h6.pos (by omega)
        rw [ed] at h4
        have q : decide (((m + 1 : Nat) : Int) > 0) = true := by simp
        have q1 : w64 (((m + 1 : Nat) : Int) - 1) = (m : Nat) := by rw [w64_id] <;> omega
        have q2 := hd m (by omega)
        have q3 : ((m : Int) < (n.nk : Int)) = True := by simp; omega
        have q4 : trimK n.kid (m + 1) = if n.kid m = -1 then trimK n.kid m else m + 1 := rfl
        rw [q4] at he
        (repeat' (first
    | simp -implicitDefEqProofs only [WV_seq, WV_cond, WV_block, WV_skip, WV_ret, WV_exit, WV_region, WV_draw, WV_loop, thenQ_normal, thenQ_ret, thenQ_exit, blockQ_normal, blockQ_ret, blockQ_exit, V_nil, V_cons, KV_eq, VL_nil, VL_cons, KL_eq, vcl_zero, vcl_one, vcl_two, isV_same, isV_eq, monoK_eq, dOk, put, gd_none, gd_some, gdst_eq, gdv_some, gdB_true, gdB_false, gdB_undef, ev_const, ev_tmp, lit_i64, lit_i32, lit_bool, lit_pointer, lit_slice, lit_string, CondW_true, CondW_false, GrdV_true, GrdV_false, GrdL_true, GrdL_false, vc_move, vc_assign, vc_load, vc_store, vc_field, vc_indexAddr, vc_index, vc_box, vc_alloc, vc_build, vc_buildSlice, vc_makeSlice, vc_slice, vc_extract, vc_unOp, vc_convert, vc_bin, vc_pick, vc_call, vc_append, vc_len, vc_min, vc_max, vc_copy, vc_clear, pickK_true, pickK_false, stK_eq, not_bool, min_i64, max_i64, min_u16, max_u16, extract_tuple, vc_nil, nilK_ptr, int_add, int_sub, int_mul, int_eql, int_neq, int_lss, int_leq, int_gtr, int_geq, u8_add, u8_sub, u8_mul, u8_eql, u8_neq, u8_lss, u8_leq, u8_gtr, u8_geq, u16_add, u16_sub, u16_mul, u16_eql, u16_neq, u16_lss, u16_leq, u16_gtr, u16_geq, u32_add, u32_sub, u32_mul, u32_eql, u32_neq, u32_lss, u32_leq, u32_gtr, u32_geq, u64_add, u64_sub, u64_mul, u64_eql, u64_neq, u64_lss, u64_leq, u64_gtr, u64_geq, u8_and, u8_or, u8_xor, u8_andNot, u64_and, u64_or, u64_xor, u64_andNot, u8_shl_u8, u8_shl_u16, u8_shl_u64, u32_shl_u8, u32_shl_u16, u32_shl_u64, u64_shl_u8, u64_shl_u16, u64_shl_u64, u8_shr_u8, u8_shr_u16, u8_shr_u64, u64_shr_u8, u64_shr_u16, u64_shr_u64, u16_quo8, u16_rem8, u16_quo64, u16_rem64, u64_quo8, u64_rem8, u64_quo64, u64_rem64, u32_quo8, u32_rem8, u32_quo64, u32_rem64, int_quo2, int_rem2, int_quo8, int_rem8, int_quo64, int_rem64, u64_shrN, u64_shlN, fold64, fold32, i64_shl_u8, i16_eql, i16_neq, i16_lss, i16_geq, Nat.reduceEqDiff, Nat.reduceLT, Nat.reduceAdd, Nat.reduceMul, Nat.reduceSub, ↓reduceIte, if_true, if_false, eq_self, true_and, and_true, Bool.false_eq_true, Bool.not_true, Bool.not_false, reduceCtorEq, upd_get, List.getElem?_toArray, List.getElem?_cons_zero, List.getElem?_cons_succ, Option.bind_some, rdK_some, List.map_toArray, List.map_cons, List.map_nil, rd_upd, rdO_fblk, wrOk_fblk, wrO_fblk, lget_zero, lget_succ, upd_upd, agg_cells, cells_of_list, List.length_cons, List.length_nil, Nat.add_zero, pv_cells, pl_len, pl_0, pl_1, pl_2, pl_3, pl_4, pl_5, pv_fold, pv_eta, ov_eta, opv_eta, ov_cells, ol_len, ov_fold, opv_cells, opl_len, opv_fold, st_pv, st_ov, st_opv, ol_0, ol_1, ol_2, ol_3, ol_4, ol_5, ol_6, ol_7, ol_8, ol_9, opl_0, opl_1, opl_2, opl_3, opl_4, opl_5, opl_6, opl_7, wrsOk_fblk, wrsO_fblk, fblk_all, Nat.reduceLeDiff, Nat.zero_add, rdsK2, rdsK4, rdsK6, rdsK8, rdsK10, wrsK_nil, wrsK_cons, oneCell_u8, oneCell_u16, oneCell_u32, oneCell_u64, oneCell_i16, oneCell_int, oneCell_bool, oneCell_ptr, oneCell_pointer, oneCell_sl, oneCell_slice, oneCell_string, box_eq, List.all_cons, List.all_nil, Bool.and_self, Ex1_eq, Ex1_and, endQ, resH, res_tmp, res_cell, resC_ptr, tupleOf, Fabg.results84, fa_102_2, ld_26, len_26, lenS_26, fa_102_3, ld_100, len_100, lenS_100, ix_26_int, ix_26_u8, ix_26_u16, ix_26_i16, ld_30, k_u64_0, tn_u64_0, ix_100_int, ix_100_u8, ix_100_u16, ix_100_i16, ld_23, k_i16_m1, h1, h2, h3, h4, t0, t2, t3, q, q1, q2, q3, Int.toNat_natCast, Int.natCast_nonneg, he]
    | refine W_drawL (id := 1) (by kernel_rfl) [0, 0, 0, 0, 0, 0, 0, 0, 0, 0, 0, 0] (by kernel_rfl) ?_
    | refine Alloc.mono ?_
    | (refine CondW_intro (fun hc => ?_) (fun hc => ?_) <;> (try simp only [Bool.not_eq_true', Bool.not_eq_false'] at hc) <;> (try simp only [hc]))
    | (refine GrdV_intro (fun hc => ?_) (fun hc => ?_) <;> (try simp only [Bool.not_eq_true', Bool.not_eq_false'] at hc) <;> (try simp only [hc]))
    | (refine GrdL_intro (fun hc => ?_) (fun hc => ?_) <;> (try simp only [Bool.not_eq_true', Bool.not_eq_false'] at hc) <;> (try simp only [hc]))))
        · have h0 : n.kid m = -1 := by simpa using hc
          exact ⟨m, by omega, by omega, by rw [if_pos h0], rfl⟩
        · have h0 : ¬ n.kid m = -1 := by simpa using hc
          rw [if_neg h0]
    · exact ⟨rfl, by omega, rfl, t0, t2, t3⟩
    · rintro T G ⟨rfl, t2, t3⟩
      (repeat' (first
    | simp -implicitDefEqProofs only [WV_seq, WV_cond, WV_block, WV_skip, WV_ret, WV_exit, WV_region, WV_draw, WV_loop, thenQ_normal, thenQ_ret, thenQ_exit, blockQ_normal, blockQ_ret, blockQ_exit, V_nil, V_cons, KV_eq, VL_nil, VL_cons, KL_eq, vcl_zero, vcl_one, vcl_two, isV_same, isV_eq, monoK_eq, dOk, put, gd_none, gd_some, gdst_eq, gdv_some, gdB_true, gdB_false, gdB_undef, ev_const, ev_tmp, lit_i64, lit_i32, lit_bool, lit_pointer, lit_slice, lit_string, CondW_true, CondW_false, GrdV_true, GrdV_false, GrdL_true, GrdL_false, vc_move, vc_assign, vc_load, vc_store, vc_field, vc_indexAddr, vc_index, vc_box, vc_alloc, vc_build, vc_buildSlice, vc_makeSlice, vc_slice, vc_extract, vc_unOp, vc_convert, vc_bin, vc_pick, vc_call, vc_append, vc_len, vc_min, vc_max, vc_copy, vc_clear, pickK_true, pickK_false, stK_eq, not_bool, min_i64, max_i64, min_u16, max_u16, extract_tuple, vc_nil, nilK_ptr, int_add, int_sub, int_mul, int_eql, int_neq, int_lss, int_leq, int_gtr, int_geq, u8_add, u8_sub, u8_mul, u8_eql, u8_neq, u8_lss, u8_leq, u8_gtr, u8_geq, u16_add, u16_sub, u16_mul, u16_eql, u16_neq, u16_lss, u16_leq, u16_gtr, u16_geq, u32_add, u32_sub, u32_mul, u32_eql, u32_neq, u32_lss, u32_leq, u32_gtr, u32_geq, u64_add, u64_sub, u64_mul, u64_eql, u64_neq, u64_lss, u64_leq, u64_gtr, u64_geq, u8_and, u8_or, u8_xor, u8_andNot, u64_and, u64_or, u64_xor, u64_andNot, u8_shl_u8, u8_shl_u16, u8_shl_u64, u32_shl_u8, u32_shl_u16, u32_shl_u64, u64_shl_u8, u64_shl_u16, u64_shl_u64, u8_shr_u8, u8_shr_u16, u8_shr_u64, u64_shr_u8, u64_shr_u16, u64_shr_u64, u16_quo8, u16_rem8, u16_quo64, u16_rem64, u64_quo8, u64_rem8, u64_quo64, u64_rem64, u32_quo8, u32_rem8, u32_quo64, u32_rem64, int_quo2, int_rem2, int_quo8, int_rem8, int_quo64, int_rem64, u64_shrN, u64_shlN, fold64, fold32, i64_shl_u8, i16_eql, i16_neq, i16_lss, i16_geq, Nat.reduceEqDiff, Nat.reduceLT, Nat.reduceAdd, Nat.reduceMul, Nat.reduceSub, ↓reduceIte, if_true, if_false, eq_self, true_and, and_true, Bool.false_eq_true, Bool.not_true, Bool.not_false, reduceCtorEq, upd_get, List.getElem?_toArray, List.getElem?_cons_zero, List.getElem?_cons_succ, Option.bind_some, rdK_some, List.map_toArray, List.map_cons, List.map_nil, rd_upd, rdO_fblk, wrOk_fblk, wrO_fblk, lget_zero, lget_succ, upd_upd, agg_cells, cells_of_list, List.length_cons, List.length_nil, Nat.add_zero, pv_cells, pl_len, pl_0, pl_1, pl_2, pl_3, pl_4, pl_5, pv_fold, pv_eta, ov_eta, opv_eta, ov_cells, ol_len, ov_fold, opv_cells, opl_len, opv_fold, st_pv, st_ov, st_opv, ol_0, ol_1, ol_2, ol_3, ol_4, ol_5, ol_6, ol_7, ol_8, ol_9, opl_0, opl_1, opl_2, opl_3, opl_4, opl_5, opl_6, opl_7, wrsOk_fblk, wrsO_fblk, fblk_all, Nat.reduceLeDiff, Nat.zero_add, rdsK2, rdsK4, rdsK6, rdsK8, rdsK10, wrsK_nil, wrsK_cons, oneCell_u8, oneCell_u16, oneCell_u32, oneCell_u64, oneCell_i16, oneCell_int, oneCell_bool, oneCell_ptr, oneCell_pointer, oneCell_sl, oneCell_slice, oneCell_string, box_eq, List.all_cons, List.all_nil, Bool.and_self, Ex1_eq, Ex1_and, endQ, resH, res_tmp, res_cell, resC_ptr, tupleOf, Fabg.results84, fa_102_2, ld_26, len_26, lenS_26, fa_102_3, ld_100, len_100, lenS_100, ix_26_int, ix_26_u8, ix_26_u16, ix_26_i16, ld_30, k_u64_0, tn_u64_0, ix_100_int, ix_100_u8, ix_100_u16, ix_100_i16, ld_23, k_i16_m1, t2, t3]
    | refine W_drawL (id := 1) (by kernel_rfl) [0, 0, 0, 0, 0, 0, 0, 0, 0, 0, 0, 0] (by kernel_rfl) ?_
    | refine Alloc.mono ?_
    | (refine CondW_intro (fun hc => ?_) (fun hc => ?_) <;> (try simp only [Bool.not_eq_true', Bool.not_eq_false'] at hc) <;> (try simp only [hc]))
    | (refine GrdV_intro (fun hc => ?_) (fun hc => ?_) <;> (try simp only [Bool.not_eq_true', Bool.not_eq_false'] at hc) <;> (try simp only [hc]))
    | (refine GrdL_intro (fun hc => ?_) (fun hc => ?_) <;> (try simp only [Bool.not_eq_true', Bool.not_eq_false'] at hc) <;> (try simp only [hc]))))
      exact ⟨_, Le.refl _, rfl⟩

theorem trimD_le (g : Nat → UInt64) : ∀ k, trimD g k ≤ k
  | 0 => by simp [trimD]
  | k + 1 => by
    have := trimD_le g k
    rw [trimD]; split <;> omega
theorem trimK_le (g : Nat → Int16) : ∀ k, trimK g k ≤ k
  | 0 => by simp [trimK]
  | k + 1 => by
    have := trimK_le g k
    rw [trimK]; split <;> omega
def kidN (N : Nat → NodeL) (n : NodeL) (j : Nat) : NodeL := N (n.kid j).toInt.toNat
def evTo (N : Nat → NodeL) (n : NodeL) : Nat → Nat × Nat
  | 0 => (0, 0)
  | k + 1 => (max (evTo N n k).1 (trimD (kidN N n k).dat (kidN N n k).nd), max (evTo N n k).2 (trimK (kidN N n k).kid (kidN N n k).nk))
def evenL (N : Nat → NodeL) (n : NodeL) : Nat × Nat :=
  if 0 < n.nk ∧ (evTo N n n.nk).1 + (evTo N n n.nk).2 = 0 then (1, (evTo N n n.nk).2) else evTo N n n.nk
theorem evTo_le (N : Nat → NodeL) (n : NodeL) (h : ∀ j, j < n.nk → (kidN N n j).nd ≤ 8 ∧ (kidN N n j).nk ≤ 8) : ∀ k, k ≤ n.nk → (evTo N n k).1 ≤ 8 ∧ (evTo N n k).2 ≤ 8
  | 0, _ => by simp [evTo]
  | k + 1, hk => by
    have ih := evTo_le N n h k (by omega)
    have h1 := h k (by omega)
    have h2 := trimD_le (kidN N n k).dat (kidN N n k).nd
    have h3 := trimK_le (kidN N n k).kid (kidN N n k).nk
    simp only [evTo]
    omega
theorem maxN (a b : Nat) : max (a : Int) (b : Int) = ((max a b : Nat) : Int) := by omega
theorem evened_ok (tb to b o : Nat) (N : Nat → NodeL) (cnt : Nat) (root : Int16) (n : NodeL) (H : Heap) (ht : TreeAt H tb to N cnt root) (hn : NodeAt H b o n)
    (hk : ∀ j, j < n.nk → 0 ≤ (n.kid j).toInt ∧ (n.kid j).toInt < cnt) (h8 : ∀ j, j < n.nk → (kidN N n j).nd ≤ 8 ∧ (kidN N n j).nk ≤ 8) :
    Fn Fabg.prog 86 #[ptr tb to, ptr b o] H (fun r H' => r = .tuple #[.int .i64 (evenL N n).1, .int .i64 (evenL N n).2] ∧ H' = H) := by
  obtain ⟨vd, vk, h1, h2, h3, h4, h5, h6, h7, hm⟩ := hn
  obtain ⟨vN, g1, g2, g3, g4⟩ := ht
  obtain ⟨aN, cN, rfl⟩ := g3.form
  obtain ⟨ak, ck, rfl⟩ := h6.form
  refine Fn_of Fabg.func86 rfl Fabg.ntmps86 (by simp) (WV_sound _ _ _ _ ?_)
  rw [argEnv2]
  (repeat' (first
    | simp -implicitDefEqProofs only [WV_seq, WV_cond, WV_block, WV_skip, WV_ret, WV_exit, WV_region, WV_draw, WV_loop, thenQ_normal, thenQ_ret, thenQ_exit, blockQ_normal, blockQ_ret, blockQ_exit, V_nil, V_cons, KV_eq, VL_nil, VL_cons, KL_eq, vcl_zero, vcl_one, vcl_two, isV_same, isV_eq, monoK_eq, dOk, put, gd_none, gd_some, gdst_eq, gdv_some, gdB_true, gdB_false, gdB_undef, ev_const, ev_tmp, lit_i64, lit_i32, lit_bool, lit_pointer, lit_slice, lit_string, CondW_true, CondW_false, GrdV_true, GrdV_false, GrdL_true, GrdL_false, vc_move, vc_assign, vc_load, vc_store, vc_field, vc_indexAddr, vc_index, vc_box, vc_alloc, vc_build, vc_buildSlice, vc_makeSlice, vc_slice, vc_extract, vc_unOp, vc_convert, vc_bin, vc_pick, vc_call, vc_append, vc_len, vc_min, vc_max, vc_copy, vc_clear, pickK_true, pickK_false, stK_eq, not_bool, min_i64, max_i64, min_u16, max_u16, extract_tuple, vc_nil, nilK_ptr, int_add, int_sub, int_mul, int_eql, int_neq, int_lss, int_leq, int_gtr, int_geq, u8_add, u8_sub, u8_mul, u8_eql, u8_neq, u8_lss, u8_leq, u8_gtr, u8_geq, u16_add, u16_sub, u16_mul, u16_eql, u16_neq, u16_lss, u16_leq, u16_gtr, u16_geq, u32_add, u32_sub, u32_mul, u32_eql, u32_neq, u32_lss, u32_leq, u32_gtr, u32_geq, u64_add, u64_sub, u64_mul, u64_eql, u64_neq, u64_lss, u64_leq, u64_gtr, u64_geq, u8_and, u8_or, u8_xor, u8_andNot, u64_and, u64_or, u64_xor, u64_andNot, u8_shl_u8, u8_shl_u16, u8_shl_u64, u32_shl_u8, u32_shl_u16, u32_shl_u64, u64_shl_u8, u64_shl_u16, u64_shl_u64, u8_shr_u8, u8_shr_u16, u8_shr_u64, u64_shr_u8, u64_shr_u16, u64_shr_u64, u16_quo8, u16_rem8, u16_quo64, u16_rem64, u64_quo8, u64_rem8, u64_quo64, u64_rem64, u32_quo8, u32_rem8, u32_quo64, u32_rem64, int_quo2, int_rem2, int_quo8, int_rem8, int_quo64, int_rem64, u64_shrN, u64_shlN, fold64, fold32, i64_shl_u8, i16_eql, i16_neq, i16_lss, i16_geq, Nat.reduceEqDiff, Nat.reduceLT, Nat.reduceAdd, Nat.reduceMul, Nat.reduceSub, ↓reduceIte, if_true, if_false, eq_self, true_and, and_true, Bool.false_eq_true, Bool.not_true, Bool.not_false, reduceCtorEq, upd_get, List.getElem?_toArray, List.getElem?_cons_zero, List.getElem?_cons_succ, Option.bind_some, rdK_some, List.map_toArray, List.map_cons, List.map_nil, rd_upd, rdO_fblk, wrOk_fblk, wrO_fblk, lget_zero, lget_succ, upd_upd, agg_cells, cells_of_list, List.length_cons, List.length_nil, Nat.add_zero, pv_cells, pl_len, pl_0, pl_1, pl_2, pl_3, pl_4, pl_5, pv_fold, pv_eta, ov_eta, opv_eta, ov_cells, ol_len, ov_fold, opv_cells, opl_len, opv_fold, st_pv, st_ov, st_opv, ol_0, ol_1, ol_2, ol_3, ol_4, ol_5, ol_6, ol_7, ol_8, ol_9, opl_0, opl_1, opl_2, opl_3, opl_4, opl_5, opl_6, opl_7, wrsOk_fblk, wrsO_fblk, fblk_all, Nat.reduceLeDiff, Nat.zero_add, rdsK2, rdsK4, rdsK6, rdsK8, rdsK10, wrsK_nil, wrsK_cons, oneCell_u8, oneCell_u16, oneCell_u32, oneCell_u64, oneCell_i16, oneCell_int, oneCell_bool, oneCell_ptr, oneCell_pointer, oneCell_sl, oneCell_slice, oneCell_string, box_eq, List.all_cons, List.all_nil, Bool.and_self, Ex1_eq, Ex1_and, endQ, resH, res_tmp, res_cell, resC_ptr, tupleOf, Fabg.results86, fa_102_3, ld_100, len_100, lenS_100, ix_100_int, ix_100_u8, ix_100_u16, ix_100_i16, ld_23, fa_25_0, ld_22, ix_22_int, ix_22_u8, ix_22_u16, ix_22_i16, call_84, h4, g1]
    | refine Alloc.mono ?_
    | (refine CondW_intro (fun hc => ?_) (fun hc => ?_) <;> (try simp only [Bool.not_eq_true', Bool.not_eq_false'] at hc) <;> (try simp only [hc]))
    | (refine GrdV_intro (fun hc => ?_) (fun hc => ?_) <;> (try simp only [Bool.not_eq_true', Bool.not_eq_false'] at hc) <;> (try simp only [hc]))
    | (refine GrdL_intro (fun hc => ?_) (fun hc => ?_) <;> (try simp only [Bool.not_eq_true', Bool.not_eq_false'] at hc) <;> (try simp only [hc]))))
  refine W_loopM (fun m T G => ∃ k : Nat, G = H ∧ m + k = n.nk ∧ T 0 = ptr tb to ∧ T 1 = ptr b o ∧ T 13 = Value.slice ak n.nk ck ∧ T 14 = .int .i64 n.nk ∧ T 15 = .int .i64 (k : Nat) ∧ T 4 = .int .i64 (evTo N n k).1 ∧ T 5 = .int .i64 (evTo N n k).2)
    (fun T G => G = H ∧ T 1 = ptr b o ∧ T 4 = .int .i64 (evTo N n n.nk).1 ∧ T 5 = .int .i64 (evTo N n n.nk).2) ?_ n.nk _ _ ?_ ?_
  · rintro m T G ⟨k, rfl, hmk, t0, t1, t13, t14, t15, t4, t5⟩
    refine WV_sound _ _ _ _ ?_
    by_cases hlt : k < n.nk
    · have q : decide ((k : Int) < (n.nk : Int)) = true := by simp; omega
      have q' : ((k : Int) < (n.nk : Int)) = True := by simp; omega
      obtain ⟨bk, ok, ek, hkr⟩ := h6.pos (by omega)
      rw [ek] at t13 h4
      have q1 := hkr k hlt
      have hki := hk k hlt
      obtain ⟨bN, oN, eN, hN⟩ := g3.pos (by omega)
      rw [eN] at g1
      have q2 : (0 ≤ (n.kid k).toInt) = True := by simp; omega
      have q3 : ((n.kid k).toInt < (cnt : Int)) = True := by simp; omega
      have q4 := trimmed_ok bN (oN + (n.kid k).toInt.toNat * 4) (kidN N n k) G (hN _ (by omega))
      have q5 : w64 ((k : Int) + 1) = ((k + 1 : Nat) : Int) := by rw [w64_id] <;> omega
      (repeat' (first
    | simp -implicitDefEqProofs only [WV_seq, WV_cond, WV_block, WV_skip, WV_ret, WV_exit, WV_region, WV_draw, WV_loop, thenQ_normal, thenQ_ret, thenQ_exit, blockQ_normal, blockQ_ret, blockQ_exit, V_nil, V_cons, KV_eq, VL_nil, VL_cons, KL_eq, vcl_zero, vcl_one, vcl_two, isV_same, isV_eq, monoK_eq, dOk, put, gd_none, gd_some, gdst_eq, gdv_some, gdB_true, gdB_false, gdB_undef, ev_const, ev_tmp, lit_i64, lit_i32, lit_bool, lit_pointer, lit_slice, lit_string, CondW_true, CondW_false, GrdV_true, GrdV_false, GrdL_true, GrdL_false, vc_move, vc_assign, vc_load, vc_store, vc_field, vc_indexAddr, vc_index, vc_box, vc_alloc, vc_build, vc_buildSlice, vc_makeSlice, vc_slice, vc_extract, vc_unOp, vc_convert, vc_bin, vc_pick, vc_call, vc_append, vc_len, vc_min, vc_max, vc_copy, vc_clear, pickK_true, pickK_false, stK_eq, not_bool, min_i64, max_i64, min_u16, max_u16, extract_tuple, vc_nil, nilK_ptr, int_add, int_sub, int_mul, int_eql, int_neq, int_lss, int_leq, int_gtr, int_geq, u8_add, u8_sub, u8_mul, u8_eql, u8_neq, u8_lss, u8_leq, u8_gtr, u8_geq, u16_add, u16_sub, u16_mul, u16_eql, u16_neq, u16_lss, u16_leq, u16_gtr, u16_geq, u32_add, u32_sub, u32_mul, u32_eql, u32_neq, u32_lss, u32_leq, u32_gtr, u32_geq, u64_add, u64_sub, u64_mul, u64_eql, u64_neq, u64_lss, u64_leq, u64_gtr, u64_geq, u8_and, u8_or, u8_xor, u8_andNot, u64_and, u64_or, u64_xor, u64_andNot, u8_shl_u8, u8_shl_u16, u8_shl_u64, u32_shl_u8, u32_shl_u16, u32_shl_u64, u64_shl_u8, u64_shl_u16, u64_shl_u64, u8_shr_u8, u8_shr_u16, u8_shr_u64, u64_shr_u8, u64_shr_u16, u64_shr_u64, u16_quo8, u16_rem8, u16_quo64, u16_rem64, u64_quo8, u64_rem8, u64_quo64, u64_rem64, u32_quo8, u32_rem8, u32_quo64, u32_rem64, int_quo2, int_rem2, int_quo8, int_rem8, int_quo64, int_rem64, u64_shrN, u64_shlN, fold64, fold32, i64_shl_u8, i16_eql, i16_neq, i16_lss, i16_geq, Nat.reduceEqDiff, Nat.reduceLT, Nat.reduceAdd, Nat.reduceMul, Nat.reduceSub, ↓reduceIte, if_true, if_false, eq_self, true_and, and_true, Bool.false_eq_true, Bool.not_true, Bool.not_false, reduceCtorEq, upd_get, List.getElem?_toArray, List.getElem?_cons_zero, List.getElem?_cons_succ, Option.bind_some, rdK_some, List.map_toArray, List.map_cons, List.map_nil, rd_upd, rdO_fblk, wrOk_fblk, wrO_fblk, lget_zero, lget_succ, upd_upd, agg_cells, cells_of_list, List.length_cons, List.length_nil, Nat.add_zero, pv_cells, pl_len, pl_0, pl_1, pl_2, pl_3, pl_4, pl_5, pv_fold, pv_eta, ov_eta, opv_eta, ov_cells, ol_len, ov_fold, opv_cells, opl_len, opv_fold, st_pv, st_ov, st_opv, ol_0, ol_1, ol_2, ol_3, ol_4, ol_5, ol_6, ol_7, ol_8, ol_9, opl_0, opl_1, opl_2, opl_3, opl_4, opl_5, opl_6, opl_7, wrsOk_fblk, wrsO_fblk, fblk_all, Nat.reduceLeDiff, Nat.zero_add, rdsK2, rdsK4, rdsK6, rdsK8, rdsK10, wrsK_nil, wrsK_cons, oneCell_u8, oneCell_u16, oneCell_u32, oneCell_u64, oneCell_i16, oneCell_int, oneCell_bool, oneCell_ptr, oneCell_pointer, oneCell_sl, oneCell_slice, oneCell_string, box_eq, List.all_cons, List.all_nil, Bool.and_self, Ex1_eq, Ex1_and, endQ, resH, res_tmp, res_cell, resC_ptr, tupleOf, Fabg.results86, fa_102_3, ld_100, len_100, lenS_100, ix_100_int, ix_100_u8, ix_100_u16, ix_100_i16, ld_23, fa_25_0, ld_22, ix_22_int, ix_22_u8, ix_22_u16, ix_22_i16, call_84, h4, g1, t0, t1, t13, t14, t15, t4, t5, q', q1, q2, q3, q5, decide_true, Int.toNat_natCast, Int.natCast_nonneg, maxN]
    | refine (q4).use ?_
    | refine Alloc.mono ?_
    | (refine CondW_intro (fun hc => ?_) (fun hc => ?_) <;> (try simp only [Bool.not_eq_true', Bool.not_eq_false'] at hc) <;> (try simp only [hc]))
    | (refine GrdV_intro (fun hc => ?_) (fun hc => ?_) <;> (try simp only [Bool.not_eq_true', Bool.not_eq_false'] at hc) <;> (try simp only [hc]))
    | (refine GrdL_intro (fun hc => ?_) (fun hc => ?_) <;> (try simp only [Bool.not_eq_true', Bool.not_eq_false'] at hc) <;> (try simp only [hc]))))
      exact ⟨m - 1, by omega, k + 1, by omega, ek.symm, rfl, rfl, rfl⟩
    · have q : decide ((k : Int) < (n.nk : Int)) = false := by simp; omega
      have e : k = n.nk := by omega
      subst e
      (repeat' (first
    | simp -implicitDefEqProofs only [WV_seq, WV_cond, WV_block, WV_skip, WV_ret, WV_exit, WV_region, WV_draw, WV_loop, thenQ_normal, thenQ_ret, thenQ_exit, blockQ_normal, blockQ_ret, blockQ_exit, V_nil, V_cons, KV_eq, VL_nil, VL_cons, KL_eq, vcl_zero, vcl_one, vcl_two, isV_same, isV_eq, monoK_eq, dOk, put, gd_none, gd_some, gdst_eq, gdv_some, gdB_true, gdB_false, gdB_undef, ev_const, ev_tmp, lit_i64, lit_i32, lit_bool, lit_pointer, lit_slice, lit_string, CondW_true, CondW_false, GrdV_true, GrdV_false, GrdL_true, GrdL_false, vc_move, vc_assign, vc_load, vc_store, vc_field, vc_indexAddr, vc_index, vc_box, vc_alloc, vc_build, vc_buildSlice, vc_makeSlice, vc_slice, vc_extract, vc_unOp, vc_convert, vc_bin, vc_pick, vc_call, vc_append, vc_len, vc_min, vc_max, vc_copy, vc_clear, pickK_true, pickK_false, stK_eq, not_bool, min_i64, max_i64, min_u16, max_u16, extract_tuple, vc_nil, nilK_ptr, int_add, int_sub, int_mul, int_eql, int_neq, int_lss, int_leq, int_gtr, int_geq, u8_add, u8_sub, u8_mul, u8_eql, u8_neq, u8_lss, u8_leq, u8_gtr, u8_geq, u16_add, u16_sub, u16_mul, u16_eql, u16_neq, u16_lss, u16_leq, u16_gtr, u16_geq, u32_add, u32_sub, u32_mul, u32_eql, u32_neq, u32_lss, u32_leq, u32_gtr, u32_geq, u64_add, u64_sub, u64_mul, u64_eql, u64_neq, u64_lss, u64_leq, u64_gtr, u64_geq, u8_and, u8_or, u8_xor, u8_andNot, u64_and, u64_or, u64_xor, u64_andNot, u8_shl_u8, u8_shl_u16, u8_shl_u64, u32_shl_u8, u32_shl_u16, u32_shl_u64, u64_shl_u8, u64_shl_u16, u64_shl_u64, u8_shr_u8, u8_shr_u16, u8_shr_u64, u64_shr_u8, u64_shr_u16, u64_shr_u64, u16_quo8, u16_rem8, u16_quo64, u16_rem64, u64_quo8, u64_rem8, u64_quo64, u64_rem64, u32_quo8, u32_rem8, u32_quo64, u32_rem64, int_quo2, int_rem2, int_quo8, int_rem8, int_quo64, int_rem64, u64_shrN, u64_shlN, fold64, fold32, i64_shl_u8, i16_eql, i16_neq, i16_lss, i16_geq, Nat.reduceEqDiff, Nat.reduceLT, Nat.reduceAdd, Nat.reduceMul, Nat.reduceSub, ↓reduceIte, if_true, if_false, eq_self, true_and, and_true, Bool.false_eq_true, Bool.not_true, Bool.not_false, reduceCtorEq, upd_get, List.getElem?_toArray, List.getElem?_cons_zero, List.getElem?_cons_succ, Option.bind_some, rdK_some, List.map_toArray, List.map_cons, List.map_nil, rd_upd, rdO_fblk, wrOk_fblk, wrO_fblk, lget_zero, lget_succ, upd_upd, agg_cells, cells_of_list, List.length_cons, List.length_nil, Nat.add_zero, pv_cells, pl_len, pl_0, pl_1, pl_2, pl_3, pl_4, pl_5, pv_fold, pv_eta, ov_eta, opv_eta, ov_cells, ol_len, ov_fold, opv_cells, opl_len, opv_fold, st_pv, st_ov, st_opv, ol_0, ol_1, ol_2, ol_3, ol_4, ol_5, ol_6, ol_7, ol_8, ol_9, opl_0, opl_1, opl_2, opl_3, opl_4, opl_5, opl_6, opl_7, wrsOk_fblk, wrsO_fblk, fblk_all, Nat.reduceLeDiff, Nat.zero_add, rdsK2, rdsK4, rdsK6, rdsK8, rdsK10, wrsK_nil, wrsK_cons, oneCell_u8, oneCell_u16, oneCell_u32, oneCell_u64, oneCell_i16, oneCell_int, oneCell_bool, oneCell_ptr, oneCell_pointer, oneCell_sl, oneCell_slice, oneCell_string, box_eq, List.all_cons, List.all_nil, Bool.and_self, Ex1_eq, Ex1_and, endQ, resH, res_tmp, res_cell, resC_ptr, tupleOf, Fabg.results86, fa_102_3, ld_100, len_100, lenS_100, ix_100_int, ix_100_u8, ix_100_u16, ix_100_i16, ld_23, fa_25_0, ld_22, ix_22_int, ix_22_u8, ix_22_u16, ix_22_i16, call_84, h4, g1, t0, t1, t13, t14, t15, t4, t5, q]
    | refine Alloc.mono ?_
    | (refine CondW_intro (fun hc => ?_) (fun hc => ?_) <;> (try simp only [Bool.not_eq_true', Bool.not_eq_false'] at hc) <;> (try simp only [hc]))
    | (refine GrdV_intro (fun hc => ?_) (fun hc => ?_) <;> (try simp only [Bool.not_eq_true', Bool.not_eq_false'] at hc) <;> (try simp only [hc]))
    | (refine GrdL_intro (fun hc => ?_) (fun hc => ?_) <;> (try simp only [Bool.not_eq_true', Bool.not_eq_false'] at hc) <;> (try simp only [hc]))))
  · exact ⟨0, rfl, by omega, by simp [upd_get], by simp [upd_get], by simp [upd_get], by simp [upd_get], by simp [upd_get], by simp [upd_get, evTo], by simp [upd_get, evTo]⟩
  · rintro T G ⟨rfl, t1, t4, t5⟩
    have hle := evTo_le N n h8 n.nk (Nat.le_refl _)
    have q : decide ((n.nk : Int) > 0) = decide (0 < n.nk) := by rw [decide_eq_decide]; omega
    have q1 : w64 (((evTo N n n.nk).1 : Int) + ((evTo N n n.nk).2 : Int)) = (((evTo N n n.nk).1 + (evTo N n n.nk).2 : Nat) : Int) := by rw [w64_id] <;> omega
    have q2 : ((((evTo N n n.nk).1 + (evTo N n n.nk).2 : Nat) : Int) == 0) = ((evTo N n n.nk).1 + (evTo N n n.nk).2 == 0) := by rw [Bool.eq_iff_iff]; simp; omega
    (repeat' (first
    | simp -implicitDefEqProofs only [WV_seq, WV_cond, WV_block, WV_skip, WV_ret, WV_exit, WV_region, WV_draw, WV_loop, thenQ_normal, thenQ_ret, thenQ_exit, blockQ_normal, blockQ_ret, blockQ_exit, V_nil, V_cons, KV_eq, VL_nil, VL_cons, KL_eq, vcl_zero, vcl_one, vcl_two, isV_same, isV_eq, monoK_eq, dOk, put, gd_none, gd_some, gdst_eq, gdv_some, gdB_true, gdB_false, gdB_undef, ev_const, ev_tmp, lit_i64, lit_i32, lit_bool, lit_pointer, lit_slice, lit_string, CondW_true, CondW_false, GrdV_true, GrdV_false, GrdL_true, GrdL_false, vc_move, vc_assign, vc_load, vc_store, vc_field, vc_indexAddr, vc_index, vc_box, vc_alloc, vc_build, vc_buildSlice, vc_makeSlice, vc_slice, vc_extract, vc_unOp, vc_convert, vc_bin, vc_pick, vc_call, vc_append, vc_len, vc_min, vc_max, vc_copy, vc_clear, pickK_true, pickK_false, stK_eq, not_bool, min_i64, max_i64, min_u16, max_u16, extract_tuple, vc_nil, nilK_ptr, int_add, int_sub, int_mul, int_eql, int_neq, int_lss, int_leq, int_gtr, int_geq, u8_add, u8_sub, u8_mul, u8_eql, u8_neq, u8_lss, u8_leq, u8_gtr, u8_geq, u16_add, u16_sub, u16_mul, u16_eql, u16_neq, u16_lss, u16_leq, u16_gtr, u16_geq, u32_add, u32_sub, u32_mul, u32_eql, u32_neq, u32_lss, u32_leq, u32_gtr, u32_geq, u64_add, u64_sub, u64_mul, u64_eql, u64_neq, u64_lss, u64_leq, u64_gtr, u64_geq, u8_and, u8_or, u8_xor, u8_andNot, u64_and, u64_or, u64_xor, u64_andNot, u8_shl_u8, u8_shl_u16, u8_shl_u64, u32_shl_u8, u32_shl_u16, u32_shl_u64, u64_shl_u8, u64_shl_u16, u64_shl_u64, u8_shr_u8, u8_shr_u16, u8_shr_u64, u64_shr_u8, u64_shr_u16, u64_shr_u64, u16_quo8, u16_rem8, u16_quo64, u16_rem64, u64_quo8, u64_rem8, u64_quo64, u64_rem64, u32_quo8, u32_rem8, u32_quo64, u32_rem64, int_quo2, int_rem2, int_quo8, int_rem8, int_quo64, int_rem64, u64_shrN, u64_shlN, fold64, fold32, i64_shl_u8, i16_eql, i16_neq, i16_lss, i16_geq, Nat.reduceEqDiff, Nat.reduceLT, Nat.reduceAdd, Nat.reduceMul, Nat.reduceSub, ↓reduceIte, if_true, if_false, eq_self, true_and, and_true, Bool.false_eq_true, Bool.not_true, Bool.not_false, reduceCtorEq, upd_get, List.getElem?_toArray, List.getElem?_cons_zero, List.getElem?_cons_succ, Option.bind_some, rdK_some, List.map_toArray, List.map_cons, List.map_nil, rd_upd, rdO_fblk, wrOk_fblk, wrO_fblk, lget_zero, lget_succ, upd_upd, agg_cells, cells_of_list, List.length_cons, List.length_nil, Nat.add_zero, pv_cells, pl_len, pl_0, pl_1, pl_2, pl_3, pl_4, pl_5, pv_fold, pv_eta, ov_eta, opv_eta, ov_cells, ol_len, ov_fold, opv_cells, opl_len, opv_fold, st_pv, st_ov, st_opv, ol_0, ol_1, ol_2, ol_3, ol_4, ol_5, ol_6, ol_7, ol_8, ol_9, opl_0, opl_1, opl_2, opl_3, opl_4, opl_5, opl_6, opl_7, wrsOk_fblk, wrsO_fblk, fblk_all, Nat.reduceLeDiff, Nat.zero_add, rdsK2, rdsK4, rdsK6, rdsK8, rdsK10, wrsK_nil, wrsK_cons, oneCell_u8, oneCell_u16, oneCell_u32, oneCell_u64, oneCell_i16, oneCell_int, oneCell_bool, oneCell_ptr, oneCell_pointer, oneCell_sl, oneCell_slice, oneCell_string, box_eq, List.all_cons, List.all_nil, Bool.and_self, Ex1_eq, Ex1_and, endQ, resH, res_tmp, res_cell, resC_ptr, tupleOf, Fabg.results86, fa_102_3, ld_100, len_100, lenS_100, ix_100_int, ix_100_u8, ix_100_u16, ix_100_i16, ld_23, fa_25_0, ld_22, ix_22_int, ix_22_u8, ix_22_u16, ix_22_i16, call_84, h4, t1, t4, t5, q, q1, q2]
    | refine Alloc.mono ?_
    | (refine CondW_intro (fun hc => ?_) (fun hc => ?_) <;> (try simp only [Bool.not_eq_true', Bool.not_eq_false'] at hc) <;> (try simp only [hc]))
    | (refine GrdV_intro (fun hc => ?_) (fun hc => ?_) <;> (try simp only [Bool.not_eq_true', Bool.not_eq_false'] at hc) <;> (try simp only [hc]))
    | (refine GrdL_intro (fun hc => ?_) (fun hc => ?_) <;> (try simp only [Bool.not_eq_true', Bool.not_eq_false'] at hc) <;> (try simp only [hc]))))
    · have e : evenL N n = (1, (evTo N n n.nk).2) := by rw [evenL, if_pos (by simp at *; omega)]
      exact ⟨_, Le.refl _, by rw [e]; rfl, rfl⟩
    · have e : evenL N n = evTo N n n.nk := by rw [evenL, if_neg (by simp at *; omega)]
      exact ⟨_, Le.refl _, by rw [e], rfl⟩
    · have e : evenL N n = evTo N n n.nk := by rw [evenL, if_neg (by simp at *; omega)]
      exact ⟨_, Le.refl _, by rw [e], rfl⟩

def wordsN (N : Nat → NodeL) (n : NodeL) : Nat :=
  if n.kind = 1 then trimD n.dat n.nd + trimK n.kid n.nk
  else if n.code = 6 then n.nk
  else if n.code = 7 then 1 + n.nk * ((evenL N n).1 + (evenL N n).2)
  else (n.nd * 2 ^ (n.code.toNat - 2) + 7) / 8
theorem wordsN_ok (tb to b o : Nat) (N : Nat → NodeL) (cnt : Nat) (root : Int16) (n : NodeL) (H : Heap) (ht : TreeAt H tb to N cnt root) (hn : NodeAt H b o n) (hd : n.nd ≤ 128) (hnk : n.nk ≤ 128)
    (hcode : n.kind ≠ 1 → 2 ≤ n.code.toNat ∧ n.code.toNat ≤ 7)
    (hk : n.kind ≠ 1 → n.code = 7 → ∀ j, j < n.nk → 0 ≤ (n.kid j).toInt ∧ (n.kid j).toInt < cnt) (h8 : n.kind ≠ 1 → n.code = 7 → ∀ j, j < n.nk → (kidN N n j).nd ≤ 8 ∧ (kidN N n j).nk ≤ 8) :
    Fn Fabg.prog 137 #[ptr tb to, ptr b o] H (fun r H' => r = .int .i64 (wordsN N n : Nat) ∧ H' = H) := by
  have hn' := hn
  obtain ⟨vd, vk, h1, h2, h3, h4, h5, h6, h7, hm⟩ := hn
  obtain ⟨ad, cd, rfl⟩ := h5.form
  obtain ⟨ak, ck, rfl⟩ := h6.form
  refine Fn_of Fabg.func137 rfl Fabg.ntmps137 (by simp) (WV_sound _ _ _ _ ?_)
  rw [argEnv2]
  have c1 := trimmed_ok b o n H hn'
  have e1 := trimD_le n.dat n.nd
  have e2 := trimK_le n.kid n.nk
  have q1 : w64 ((trimD n.dat n.nd : Int) + (trimK n.kid n.nk : Int)) = ((trimD n.dat n.nd + trimK n.kid n.nk : Nat) : Int) := by rw [w64_id] <;> omega
  by_cases hkind : n.kind = 1
  · have qk : (n.kind == 1) = true := by simp [hkind]
    (repeat' (first
    | simp -implicitDefEqProofs only [WV_seq, WV_cond, WV_block, WV_skip, WV_ret, WV_exit, WV_region, WV_draw, WV_loop, thenQ_normal, thenQ_ret, thenQ_exit, blockQ_normal, blockQ_ret, blockQ_exit, V_nil, V_cons, KV_eq, VL_nil, VL_cons, KL_eq, vcl_zero, vcl_one, vcl_two, isV_same, isV_eq, monoK_eq, dOk, put, gd_none, gd_some, gdst_eq, gdv_some, gdB_true, gdB_false, gdB_undef, ev_const, ev_tmp, lit_i64, lit_i32, lit_bool, lit_pointer, lit_slice, lit_string, CondW_true, CondW_false, GrdV_true, GrdV_false, GrdL_true, GrdL_false, vc_move, vc_assign, vc_load, vc_store, vc_field, vc_indexAddr, vc_index, vc_box, vc_alloc, vc_build, vc_buildSlice, vc_makeSlice, vc_slice, vc_extract, vc_unOp, vc_convert, vc_bin, vc_pick, vc_call, vc_append, vc_len, vc_min, vc_max, vc_copy, vc_clear, pickK_true, pickK_false, stK_eq, not_bool, min_i64, max_i64, min_u16, max_u16, extract_tuple, vc_nil, nilK_ptr, int_add, int_sub, int_mul, int_eql, int_neq, int_lss, int_leq, int_gtr, int_geq, u8_add, u8_sub, u8_mul, u8_eql, u8_neq, u8_lss, u8_leq, u8_gtr, u8_geq, u16_add, u16_sub, u16_mul, u16_eql, u16_neq, u16_lss, u16_leq, u16_gtr, u16_geq, u32_add, u32_sub, u32_mul, u32_eql, u32_neq, u32_lss, u32_leq, u32_gtr, u32_geq, u64_add, u64_sub, u64_mul, u64_eql, u64_neq, u64_lss, u64_leq, u64_gtr, u64_geq, u8_and, u8_or, u8_xor, u8_andNot, u64_and, u64_or, u64_xor, u64_andNot, u8_shl_u8, u8_shl_u16, u8_shl_u64, u32_shl_u8, u32_shl_u16, u32_shl_u64, u64_shl_u8, u64_shl_u16, u64_shl_u64, u8_shr_u8, u8_shr_u16, u8_shr_u64, u64_shr_u8, u64_shr_u16, u64_shr_u64, u16_quo8, u16_rem8, u16_quo64, u16_rem64, u64_quo8, u64_rem8, u64_quo64, u64_rem64, u32_quo8, u32_rem8, u32_quo64, u32_rem64, int_quo2, int_rem2, int_quo8, int_rem8, int_quo64, int_rem64, u64_shrN, u64_shlN, fold64, fold32, i64_shl_u8, i16_eql, i16_neq, i16_lss, i16_geq, Nat.reduceEqDiff, Nat.reduceLT, Nat.reduceAdd, Nat.reduceMul, Nat.reduceSub, ↓reduceIte, if_true, if_false, eq_self, true_and, and_true, Bool.false_eq_true, Bool.not_true, Bool.not_false, reduceCtorEq, upd_get, List.getElem?_toArray, List.getElem?_cons_zero, List.getElem?_cons_succ, Option.bind_some, rdK_some, List.map_toArray, List.map_cons, List.map_nil, rd_upd, rdO_fblk, wrOk_fblk, wrO_fblk, lget_zero, lget_succ, upd_upd, agg_cells, cells_of_list, List.length_cons, List.length_nil, Nat.add_zero, pv_cells, pl_len, pl_0, pl_1, pl_2, pl_3, pl_4, pl_5, pv_fold, pv_eta, ov_eta, opv_eta, ov_cells, ol_len, ov_fold, opv_cells, opl_len, opv_fold, st_pv, st_ov, st_opv, ol_0, ol_1, ol_2, ol_3, ol_4, ol_5, ol_6, ol_7, ol_8, ol_9, opl_0, opl_1, opl_2, opl_3, opl_4, opl_5, opl_6, opl_7, wrsOk_fblk, wrsO_fblk, fblk_all, Nat.reduceLeDiff, Nat.zero_add, rdsK2, rdsK4, rdsK6, rdsK8, rdsK10, wrsK_nil, wrsK_cons, oneCell_u8, oneCell_u16, oneCell_u32, oneCell_u64, oneCell_i16, oneCell_int, oneCell_bool, oneCell_ptr, oneCell_pointer, oneCell_sl, oneCell_slice, oneCell_string, box_eq, List.all_cons, List.all_nil, Bool.and_self, Ex1_eq, Ex1_and, endQ, resH, res_tmp, res_cell, resC_ptr, tupleOf, Fabg.results137, fa_102_0, ld_5, k_u8_1, tn_u8_1, call_84, fa_102_1, k_u8_6, tn_u8_6, fa_102_3, ld_100, len_100, lenS_100, k_u8_7, tn_u8_7, call_86, fa_102_2, ld_26, len_26, lenS_26, k_u8_2, tn_u8_2, h1, h2, h3, h4, q1, qk]
    | refine (c1).use ?_
    | refine W_drawL (id := 9) (by kernel_rfl) [0, 0, 0, 0, 0, 0, 0, 0, 0, 0, 0, 0, 0, 0] (by kernel_rfl) ?_
    | refine Alloc.mono ?_
    | (refine CondW_intro (fun hc => ?_) (fun hc => ?_) <;> (try simp only [Bool.not_eq_true', Bool.not_eq_false'] at hc) <;> (try simp only [hc]))
    | (refine GrdV_intro (fun hc => ?_) (fun hc => ?_) <;> (try simp only [Bool.not_eq_true', Bool.not_eq_false'] at hc) <;> (try simp only [hc]))
    | (refine GrdL_intro (fun hc => ?_) (fun hc => ?_) <;> (try simp only [Bool.not_eq_true', Bool.not_eq_false'] at hc) <;> (try simp only [hc]))))
    exact ⟨_, Le.refl _, by rw [wordsN, if_pos hkind], rfl⟩
  have qk : (n.kind == 1) = false := by simp [hkind]
  by_cases hc6 : n.code = 6
  · have q6 : (n.code == 6) = true := by simp [hc6]
    (repeat' (first
    | simp -implicitDefEqProofs only [WV_seq, WV_cond, WV_block, WV_skip, WV_ret, WV_exit, WV_region, WV_draw, WV_loop, thenQ_normal, thenQ_ret, thenQ_exit, blockQ_normal, blockQ_ret, blockQ_exit, V_nil, V_cons, KV_eq, VL_nil, VL_cons, KL_eq, vcl_zero, vcl_one, vcl_two, isV_same, isV_eq, monoK_eq, dOk, put, gd_none, gd_some, gdst_eq, gdv_some, gdB_true, gdB_false, gdB_undef, ev_const, ev_tmp, lit_i64, lit_i32, lit_bool, lit_pointer, lit_slice, lit_string, CondW_true, CondW_false, GrdV_true, GrdV_false, GrdL_true, GrdL_false, vc_move, vc_assign, vc_load, vc_store, vc_field, vc_indexAddr, vc_index, vc_box, vc_alloc, vc_build, vc_buildSlice, vc_makeSlice, vc_slice, vc_extract, vc_unOp, vc_convert, vc_bin, vc_pick, vc_call, vc_append, vc_len, vc_min, vc_max, vc_copy, vc_clear, pickK_true, pickK_false, stK_eq, not_bool, min_i64, max_i64, min_u16, max_u16, extract_tuple, vc_nil, nilK_ptr, int_add, int_sub, int_mul, int_eql, int_neq, int_lss, int_leq, int_gtr, int_geq, u8_add, u8_sub, u8_mul, u8_eql, u8_neq, u8_lss, u8_leq, u8_gtr, u8_geq, u16_add, u16_sub, u16_mul, u16_eql, u16_neq, u16_lss, u16_leq, u16_gtr, u16_geq, u32_add, u32_sub, u32_mul, u32_eql, u32_neq, u32_lss, u32_leq, u32_gtr, u32_geq, u64_add, u64_sub, u64_mul, u64_eql, u64_neq, u64_lss, u64_leq, u64_gtr, u64_geq, u8_and, u8_or, u8_xor, u8_andNot, u64_and, u64_or, u64_xor, u64_andNot, u8_shl_u8, u8_shl_u16, u8_shl_u64, u32_shl_u8, u32_shl_u16, u32_shl_u64, u64_shl_u8, u64_shl_u16, u64_shl_u64, u8_shr_u8, u8_shr_u16, u8_shr_u64, u64_shr_u8, u64_shr_u16, u64_shr_u64, u16_quo8, u16_rem8, u16_quo64, u16_rem64, u64_quo8, u64_rem8, u64_quo64, u64_rem64, u32_quo8, u32_rem8, u32_quo64, u32_rem64, int_quo2, int_rem2, int_quo8, int_rem8, int_quo64, int_rem64, u64_shrN, u64_shlN, fold64, fold32, i64_shl_u8, i16_eql, i16_neq, i16_lss, i16_geq, Nat.reduceEqDiff, Nat.reduceLT, Nat.reduceAdd, Nat.reduceMul, Nat.reduceSub, ↓reduceIte, if_true, if_false, eq_self, true_and, and_true, Bool.false_eq_true, Bool.not_true, Bool.not_false, reduceCtorEq, upd_get, List.getElem?_toArray, List.getElem?_cons_zero, List.getElem?_cons_succ, Option.bind_some, rdK_some, List.map_toArray, List.map_cons, List.map_nil, rd_upd, rdO_fblk, wrOk_fblk, wrO_fblk, lget_zero, lget_succ, upd_upd, agg_cells, cells_of_list, List.length_cons, List.length_nil, Nat.add_zero, pv_cells, pl_len, pl_0, pl_1, pl_2, pl_3, pl_4, pl_5, pv_fold, pv_eta, ov_eta, opv_eta, ov_cells, ol_len, ov_fold, opv_cells, opl_len, opv_fold, st_pv, st_ov, st_opv, ol_0, ol_1, ol_2, ol_3, ol_4, ol_5, ol_6, ol_7, ol_8, ol_9, opl_0, opl_1, opl_2, opl_3, opl_4, opl_5, opl_6, opl_7, wrsOk_fblk, wrsO_fblk, fblk_all, Nat.reduceLeDiff, Nat.zero_add, rdsK2, rdsK4, rdsK6, rdsK8, rdsK10, wrsK_nil, wrsK_cons, oneCell_u8, oneCell_u16, oneCell_u32, oneCell_u64, oneCell_i16, oneCell_int, oneCell_bool, oneCell_ptr, oneCell_pointer, oneCell_sl, oneCell_slice, oneCell_string, box_eq, List.all_cons, List.all_nil, Bool.and_self, Ex1_eq, Ex1_and, endQ, resH, res_tmp, res_cell, resC_ptr, tupleOf, Fabg.results137, fa_102_0, ld_5, k_u8_1, tn_u8_1, call_84, fa_102_1, k_u8_6, tn_u8_6, fa_102_3, ld_100, len_100, lenS_100, k_u8_7, tn_u8_7, call_86, fa_102_2, ld_26, len_26, lenS_26, k_u8_2, tn_u8_2, h1, h2, h3, h4, q1, qk, q6]
    | refine (c1).use ?_
    | refine W_drawL (id := 9) (by kernel_rfl) [0, 0, 0, 0, 0, 0, 0, 0, 0, 0, 0, 0, 0, 0] (by kernel_rfl) ?_
    | refine Alloc.mono ?_
    | (refine CondW_intro (fun hc => ?_) (fun hc => ?_) <;> (try simp only [Bool.not_eq_true', Bool.not_eq_false'] at hc) <;> (try simp only [hc]))
    | (refine GrdV_intro (fun hc => ?_) (fun hc => ?_) <;> (try simp only [Bool.not_eq_true', Bool.not_eq_false'] at hc) <;> (try simp only [hc]))
    | (refine GrdL_intro (fun hc => ?_) (fun hc => ?_) <;> (try simp only [Bool.not_eq_true', Bool.not_eq_false'] at hc) <;> (try simp only [hc]))))
    exact ⟨_, Le.refl _, by rw [wordsN, if_neg hkind, if_pos hc6], rfl⟩
  have q6 : (n.code == 6) = false := by simp [hc6]
  by_cases hc7 : n.code = 7
  · have q7 : (n.code == 7) = true := by simp [hc7]
    have c2 := evened_ok tb to b o N cnt root n H ht hn' (hk hkind hc7) (h8 hkind hc7)
    have hle := evTo_le N n (h8 hkind hc7) n.nk (Nat.le_refl _)
    have hev : (evenL N n).1 ≤ 8 ∧ (evenL N n).2 ≤ 8 := by unfold evenL; split <;> (try simp only []) <;> omega
    have hw : wordsN N n = 1 + n.nk * ((evenL N n).1 + (evenL N n).2) := by rw [wordsN, if_neg hkind, if_neg hc6, if_pos hc7]
    rw [hw]
    clear hw
    generalize evenL N n = ev at *
    have hmul : n.nk * (ev.1 + ev.2) ≤ 128 * 16 := Nat.mul_le_mul hnk (by omega)
    have q2 : w64 ((ev.1 : Int) + (ev.2 : Int)) = ((ev.1 + ev.2 : Nat) : Int) := by rw [w64_id] <;> omega
    have q3 : w64 ((n.nk : Int) * ((ev.1 + ev.2 : Nat) : Int)) = ((n.nk * (ev.1 + ev.2) : Nat) : Int) := by rw [← Int.natCast_mul, w64_id] <;> omega
    have q4 : w64 (1 + ((n.nk * (ev.1 + ev.2) : Nat) : Int)) = ((1 + n.nk * (ev.1 + ev.2) : Nat) : Int) := by rw [w64_id] <;> omega
    (repeat' (first
    | simp -implicitDefEqProofs only [WV_seq, WV_cond, WV_block, WV_skip, WV_ret, WV_exit, WV_region, WV_draw, WV_loop, thenQ_normal, thenQ_ret, thenQ_exit, blockQ_normal, blockQ_ret, blockQ_exit, V_nil, V_cons, KV_eq, VL_nil, VL_cons, KL_eq, vcl_zero, vcl_one, vcl_two, isV_same, isV_eq, monoK_eq, dOk, put, gd_none, gd_some, gdst_eq, gdv_some, gdB_true, gdB_false, gdB_undef, ev_const, ev_tmp, lit_i64, lit_i32, lit_bool, lit_pointer, lit_slice, lit_string, CondW_true, CondW_false, GrdV_true, GrdV_false, GrdL_true, GrdL_false, vc_move, vc_assign, vc_load, vc_store, vc_field, vc_indexAddr, vc_index, vc_box, vc_alloc, vc_build, vc_buildSlice, vc_makeSlice, vc_slice, vc_extract, vc_unOp, vc_convert, vc_bin, vc_pick, vc_call, vc_append, vc_len, vc_min, vc_max, vc_copy, vc_clear, pickK_true, pickK_false, stK_eq, not_bool, min_i64, max_i64, min_u16, max_u16, extract_tuple, vc_nil, nilK_ptr, int_add, int_sub, int_mul, int_eql, int_neq, int_lss, int_leq, int_gtr, int_geq, u8_add, u8_sub, u8_mul, u8_eql, u8_neq, u8_lss, u8_leq, u8_gtr, u8_geq, u16_add, u16_sub, u16_mul, u16_eql, u16_neq, u16_lss, u16_leq, u16_gtr, u16_geq, u32_add, u32_sub, u32_mul, u32_eql, u32_neq, u32_lss, u32_leq, u32_gtr, u32_geq, u64_add, u64_sub, u64_mul, u64_eql, u64_neq, u64_lss, u64_leq, u64_gtr, u64_geq, u8_and, u8_or, u8_xor, u8_andNot, u64_and, u64_or, u64_xor, u64_andNot, u8_shl_u8, u8_shl_u16, u8_shl_u64, u32_shl_u8, u32_shl_u16, u32_shl_u64, u64_shl_u8, u64_shl_u16, u64_shl_u64, u8_shr_u8, u8_shr_u16, u8_shr_u64, u64_shr_u8, u64_shr_u16, u64_shr_u64, u16_quo8, u16_rem8, u16_quo64, u16_rem64, u64_quo8, u64_rem8, u64_quo64, u64_rem64, u32_quo8, u32_rem8, u32_quo64, u32_rem64, int_quo2, int_rem2, int_quo8, int_rem8, int_quo64, int_rem64, u64_shrN, u64_shlN, fold64, fold32, i64_shl_u8, i16_eql, i16_neq, i16_lss, i16_geq, Nat.reduceEqDiff, Nat.reduceLT, Nat.reduceAdd, Nat.reduceMul, Nat.reduceSub, ↓reduceIte, if_true, if_false, eq_self, true_and, and_true, Bool.false_eq_true, Bool.not_true, Bool.not_false, reduceCtorEq, upd_get, List.getElem?_toArray, List.getElem?_cons_zero, List.getElem?_cons_succ, Option.bind_some, rdK_some, List.map_toArray, List.map_cons, List.map_nil, rd_upd, rdO_fblk, wrOk_fblk, wrO_fblk, lget_zero, lget_succ, upd_upd, agg_cells, cells_of_list, List.length_cons, List.length_nil, Nat.add_zero, pv_cells, pl_len, pl_0, pl_1, pl_2, pl_3, pl_4, pl_5, pv_fold, pv_eta, ov_eta, opv_eta, ov_cells, ol_len, ov_fold, opv_cells, opl_len, opv_fold, st_pv, st_ov, st_opv, ol_0, ol_1, ol_2, ol_3, ol_4, ol_5, ol_6, ol_7, ol_8, ol_9, opl_0, opl_1, opl_2, opl_3, opl_4, opl_5, opl_6, opl_7, wrsOk_fblk, wrsO_fblk, fblk_all, Nat.reduceLeDiff, Nat.zero_add, rdsK2, rdsK4, rdsK6, rdsK8, rdsK10, wrsK_nil, wrsK_cons, oneCell_u8, oneCell_u16, oneCell_u32, oneCell_u64, oneCell_i16, oneCell_int, oneCell_bool, oneCell_ptr, oneCell_pointer, oneCell_sl, oneCell_slice, oneCell_string, box_eq, List.all_cons, List.all_nil, Bool.and_self, Ex1_eq, Ex1_and, endQ, resH, res_tmp, res_cell, resC_ptr, tupleOf, Fabg.results137, fa_102_0, ld_5, k_u8_1, tn_u8_1, call_84, fa_102_1, k_u8_6, tn_u8_6, fa_102_3, ld_100, len_100, lenS_100, k_u8_7, tn_u8_7, call_86, fa_102_2, ld_26, len_26, lenS_26, k_u8_2, tn_u8_2, h1, h2, h3, h4, q1, qk, q6, q7, q2, q3, q4]
    | refine (c1).use ?_
    | refine (c2).use ?_
    | refine W_drawL (id := 9) (by kernel_rfl) [0, 0, 0, 0, 0, 0, 0, 0, 0, 0, 0, 0, 0, 0] (by kernel_rfl) ?_
    | refine Alloc.mono ?_
    | (refine CondW_intro (fun hc => ?_) (fun hc => ?_) <;> (try simp only [Bool.not_eq_true', Bool.not_eq_false'] at hc) <;> (try simp only [hc]))
    | (refine GrdV_intro (fun hc => ?_) (fun hc => ?_) <;> (try simp only [Bool.not_eq_true', Bool.not_eq_false'] at hc) <;> (try simp only [hc]))
    | (refine GrdL_intro (fun hc => ?_) (fun hc => ?_) <;> (try simp only [Bool.not_eq_true', Bool.not_eq_false'] at hc) <;> (try simp only [hc]))))
    exact ⟨_, Le.refl _, rfl⟩
  have q7 : (n.code == 7) = false := by simp [hc7]
  have hcd := hcode hkind
  have hne6 : n.code.toNat ≠ 6 := fun h => hc6 (UInt8.toNat_inj.1 h)
  have hne7 : n.code.toNat ≠ 7 := fun h => hc7 (UInt8.toNat_inj.1 h)
  have hs : (n.code - 2).toNat = n.code.toNat - 2 := by rw [UInt8.toNat_sub_of_le _ _ (UInt8.le_iff_toNat_le.2 (by show 2 ≤ _; omega))]; rfl
  (repeat' (first
    | simp -implicitDefEqProofs only [WV_seq, WV_cond, WV_block, WV_skip, WV_ret, WV_exit, WV_region, WV_draw, WV_loop, thenQ_normal, thenQ_ret, thenQ_exit, blockQ_normal, blockQ_ret, blockQ_exit, V_nil, V_cons, KV_eq, VL_nil, VL_cons, KL_eq, vcl_zero, vcl_one, vcl_two, isV_same, isV_eq, monoK_eq, dOk, put, gd_none, gd_some, gdst_eq, gdv_some, gdB_true, gdB_false, gdB_undef, ev_const, ev_tmp, lit_i64, lit_i32, lit_bool, lit_pointer, lit_slice, lit_string, CondW_true, CondW_false, GrdV_true, GrdV_false, GrdL_true, GrdL_false, vc_move, vc_assign, vc_load, vc_store, vc_field, vc_indexAddr, vc_index, vc_box, vc_alloc, vc_build, vc_buildSlice, vc_makeSlice, vc_slice, vc_extract, vc_unOp, vc_convert, vc_bin, vc_pick, vc_call, vc_append, vc_len, vc_min, vc_max, vc_copy, vc_clear, pickK_true, pickK_false, stK_eq, not_bool, min_i64, max_i64, min_u16, max_u16, extract_tuple, vc_nil, nilK_ptr, int_add, int_sub, int_mul, int_eql, int_neq, int_lss, int_leq, int_gtr, int_geq, u8_add, u8_sub, u8_mul, u8_eql, u8_neq, u8_lss, u8_leq, u8_gtr, u8_geq, u16_add, u16_sub, u16_mul, u16_eql, u16_neq, u16_lss, u16_leq, u16_gtr, u16_geq, u32_add, u32_sub, u32_mul, u32_eql, u32_neq, u32_lss, u32_leq, u32_gtr, u32_geq, u64_add, u64_sub, u64_mul, u64_eql, u64_neq, u64_lss, u64_leq, u64_gtr, u64_geq, u8_and, u8_or, u8_xor, u8_andNot, u64_and, u64_or, u64_xor, u64_andNot, u8_shl_u8, u8_shl_u16, u8_shl_u64, u32_shl_u8, u32_shl_u16, u32_shl_u64, u64_shl_u8, u64_shl_u16, u64_shl_u64, u8_shr_u8, u8_shr_u16, u8_shr_u64, u64_shr_u8, u64_shr_u16, u64_shr_u64, u16_quo8, u16_rem8, u16_quo64, u16_rem64, u64_quo8, u64_rem8, u64_quo64, u64_rem64, u32_quo8, u32_rem8, u32_quo64, u32_rem64, int_quo2, int_rem2, int_quo8, int_rem8, int_quo64, int_rem64, u64_shrN, u64_shlN, fold64, fold32, i64_shl_u8, i16_eql, i16_neq, i16_lss, i16_geq, Nat.reduceEqDiff, Nat.reduceLT, Nat.reduceAdd, Nat.reduceMul, Nat.reduceSub, ↓reduceIte, if_true, if_false, eq_self, true_and, and_true, Bool.false_eq_true, Bool.not_true, Bool.not_false, reduceCtorEq, upd_get, List.getElem?_toArray, List.getElem?_cons_zero, List.getElem?_cons_succ, Option.bind_some, rdK_some, List.map_toArray, List.map_cons, List.map_nil, rd_upd, rdO_fblk, wrOk_fblk, wrO_fblk, lget_zero, lget_succ, upd_upd, agg_cells, cells_of_list, List.length_cons, List.length_nil, Nat.add_zero, pv_cells, pl_len, pl_0, pl_1, pl_2, pl_3, pl_4, pl_5, pv_fold, pv_eta, ov_eta, opv_eta, ov_cells, ol_len, ov_fold, opv_cells, opl_len, opv_fold, st_pv, st_ov, st_opv, ol_0, ol_1, ol_2, ol_3, ol_4, ol_5, ol_6, ol_7, ol_8, ol_9, opl_0, opl_1, opl_2, opl_3, opl_4, opl_5, opl_6, opl_7, wrsOk_fblk, wrsO_fblk, fblk_all, Nat.reduceLeDiff, Nat.zero_add, rdsK2, rdsK4, rdsK6, rdsK8, rdsK10, wrsK_nil, wrsK_cons, oneCell_u8, oneCell_u16, oneCell_u32, oneCell_u64, oneCell_i16, oneCell_int, oneCell_bool, oneCell_ptr, oneCell_pointer, oneCell_sl, oneCell_slice, oneCell_string, box_eq, List.all_cons, List.all_nil, Bool.and_self, Ex1_eq, Ex1_and, endQ, resH, res_tmp, res_cell, resC_ptr, tupleOf, Fabg.results137, fa_102_0, ld_5, k_u8_1, tn_u8_1, call_84, fa_102_1, k_u8_6, tn_u8_6, fa_102_3, ld_100, len_100, lenS_100, k_u8_7, tn_u8_7, call_86, fa_102_2, ld_26, len_26, lenS_26, k_u8_2, tn_u8_2, h1, h2, h3, h4, q1, qk, q6, q7, hs]
    | refine (c1).use ?_
    | refine W_drawL (id := 9) (by kernel_rfl) [0, 0, 0, 0, 0, 0, 0, 0, 0, 0, 0, 0, 0, 0] (by kernel_rfl) ?_
    | refine Alloc.mono ?_
    | (refine CondW_intro (fun hc => ?_) (fun hc => ?_) <;> (try simp only [Bool.not_eq_true', Bool.not_eq_false'] at hc) <;> (try simp only [hc]))
    | (refine GrdV_intro (fun hc => ?_) (fun hc => ?_) <;> (try simp only [Bool.not_eq_true', Bool.not_eq_false'] at hc) <;> (try simp only [hc]))
    | (refine GrdL_intro (fun hc => ?_) (fun hc => ?_) <;> (try simp only [Bool.not_eq_true', Bool.not_eq_false'] at hc) <;> (try simp only [hc]))))
  refine ⟨_, Le.refl _, ?_, rfl⟩
  rw [wordsN, if_neg hkind, if_neg hc6, if_neg hc7]
  have hp : ∃ c, n.code.toNat - 2 = c ∧ c ≤ 3 := ⟨_, rfl, by omega⟩
  obtain ⟨c, hc, hc3⟩ := hp
  rw [hc]
  have hp8 : ∃ p : Nat, 2 ^ c = p ∧ ((2 : Int) ^ c) = (p : Int) ∧ p ≤ 8 := ⟨2 ^ c, rfl, by simp, Nat.pow_le_pow_right (n := 2) (by omega) hc3⟩
  obtain ⟨p, e1, e2, e3⟩ := hp8
  rw [Nat.min_eq_left (by omega), e1, e2, ← Int.natCast_mul]
  have hmul : n.nd * p ≤ 128 * 8 := Nat.mul_le_mul hd e3
  generalize n.nd * p = x at *
  rw [w64_id (x := (x : Int)) (by omega) (by omega), w64_id (x := (x : Int) + 7) (by omega) (by omega)]
  have e4 : ((x : Int) + 7).tdiv 8 = (((x + 7) / 8 : Nat) : Int) := by
    rw [Int.tdiv_eq_ediv_of_nonneg (by omega)]; omega
  rw [e4, w64_id (by omega) (by omega)]
end Eng
end Go.Proofs.Ygcfab
