/-
  The walks of package tree: bounded, Check.
-/
import Derived.Test.YgcfabTreeP
set_option linter.unusedSimpArgs false
set_option linter.unusedVariables false
set_option maxRecDepth 100000
namespace Go.Proofs.Ygcfab
namespace Eng

def ShapedAll (N : Nat → NodeL) (cnt : Nat) : Prop := ∀ i, i < cnt → ShapedP N cnt i
theorem ShapedAll.above {N : Nat → NodeL} {cnt : Nat} (h : ShapedAll N cnt) : Above N cnt := fun i hi => (h i hi).kids
theorem ShapedP.le128 {N : Nat → NodeL} {cnt i : Nat} (h : ShapedP N cnt i) : (N i).nd ≤ 128 ∧ (N i).nk ≤ 128 := by
  rcases h.shape with h | h
  · omega
  · omega
theorem ShapedP.code {N : Nat → NodeL} {cnt i : Nat} (h : ShapedP N cnt i) (hk : (N i).kind ≠ 1) : 2 ≤ (N i).code.toNat ∧ (N i).code.toNat ≤ 7 := by
  rcases h.shape with h | ⟨_, _, _, h | ⟨h, _⟩ | ⟨h, _⟩⟩
  · exact absurd h.1 hk
  · omega
  · rw [h]; decide
  · rw [h]; decide
theorem ShapedP.seven {N : Nat → NodeL} {cnt i : Nat} (h : ShapedP N cnt i) (hk : (N i).kind ≠ 1) (h7 : (N i).code = 7) : ∀ j, j < (N i).nk → (N i).kid j ≠ -1 ∧ (kidN N (N i) j).kind = 1 := by
  rcases h.shape with h | ⟨_, _, _, h | ⟨h, _⟩ | ⟨_, _, h⟩⟩
  · exact absurd h.1 hk
  · rw [h7] at h; exact absurd h.2.1 (by decide)
  · rw [h7] at h; exact absurd h (by decide)
  · exact h
theorem ShapedP.struct {N : Nat → NodeL} {cnt i : Nat} (h : ShapedP N cnt i) (hk : (N i).kind = 1) : (N i).nd ≤ 8 ∧ (N i).nk ≤ 8 := by
  rcases h.shape with h | h
  · exact h.2.2
  · rw [hk] at h; exact absurd h.1 (by decide)
theorem wordsN_at {tb to b o : Nat} {N : Nat → NodeL} {cnt : Nat} {root : Int16} {i : Nat} {H : Heap} (ht : TreeAt H tb to N cnt root) (hn : NodeAt H b o (N i)) (hs : ShapedAll N cnt) (hi : i < cnt) :
    Fn Fabg.prog 137 #[ptr tb to, ptr b o] H (fun r H' => r = .int .i64 (wordsN N (N i) : Nat) ∧ H' = H) := by
  have h := hs i hi
  refine wordsN_ok tb to b o N cnt root (N i) H ht hn h.le128.1 h.le128.2 h.code ?_ ?_
  · intro hk h7 j hj
    have h1 := h.seven hk h7 j hj
    have h2 := (h.kids j hj).resolve_left h1.1
    omega
  · intro hk h7 j hj
    have h1 := h.seven hk h7 j hj
    have h2 := (h.kids j hj).resolve_left h1.1
    exact (hs _ (by omega)).struct h1.2
theorem wordsN_le {N : Nat → NodeL} {cnt : Nat} {i : Nat} (hs : ShapedAll N cnt) (hi : i < cnt) : wordsN N (N i) ≤ 2100 := by
  have h := hs i hi
  have h1 := h.le128
  have e1 := trimD_le (N i).dat (N i).nd
  have e2 := trimK_le (N i).kid (N i).nk
  unfold wordsN
  split
  · omega
  rename_i hk
  split
  · omega
  split
  · rename_i h7
    have hle := evTo_le N (N i) (fun j hj => by
      have h1 := h.seven hk h7 j hj
      have h2 := (h.kids j hj).resolve_left h1.1
      exact (hs _ (by omega)).struct h1.2) (N i).nk (Nat.le_refl _)
    have hev : (evenL N (N i)).1 ≤ 8 ∧ (evenL N (N i)).2 ≤ 8 := by unfold evenL; split <;> (try simp only []) <;> omega
    have : (N i).nk * ((evenL N (N i)).1 + (evenL N (N i)).2) ≤ 128 * 16 := Nat.mul_le_mul h1.2 (by omega)
    omega
  · have hc := h.code hk
    rename_i h6 h7
    have : 2 ^ ((N i).code.toNat - 2) ≤ 2 ^ 5 := Nat.pow_le_pow_right (by omega) (by omega)
    have : (N i).nd * 2 ^ ((N i).code.toNat - 2) ≤ 128 * 32 := Nat.mul_le_mul h1.1 (by omega)
    omega

theorem upd_u8 (g : Nat → UInt8) (i : Nat) (x : UInt8) : upd (fun c => u8 (g c)) i (u8 x) = fun c => u8 (upd g i x c) := by
  funext c; simp only [upd_get]; split <;> rfl
theorem upd_bool (g : Nat → Bool) (i : Nat) (x : Bool) : upd (fun c => Value.bool (g c)) i (Value.bool x) = fun c => Value.bool (upd g i x c) := by
  funext c; simp only [upd_get]; split <;> rfl
def depB (dep : Nat → UInt8) : Obj := fblk 512 (fun c => u8 (dep c)) 201
def elB (el : Nat → Bool) : Obj := fblk 512 (fun c => Value.bool (el c)) 202
/-- the state of bounded before node i -/
structure BInv (N : Nat → NodeL) (cnt rt : Nat) (i : Nat) (dep : Nat → UInt8) (el : Nat → Bool) (words aC : Nat) : Prop where
  size : words + sumK (pend (sizeW N cnt) i dep el) cnt = 1 + sizeW N cnt false rt
  count : aC + sumK (pend (cntW N cnt) i dep el) cnt = cntW N cnt false rt
  le : aC ≤ i
  deep : (∀ j, i ≤ j → j < cnt → dep j ≠ 0 → deep N cnt j (dep j).toNat) → deep N cnt rt 1
  from_ : ∀ c, dep c ≠ 0 → c = rt ∨ ∃ i' j, i' < i ∧ j < (N i').nk ∧ (N i').kid j ≠ -1 ∧ kidI (N i') j = c
  eight : ∀ c, (dep c).toNat ≤ 8
  wle : words ≤ 1 + 2100 * i
/-- the state within node i, its first k kids seen -/
structure BKid (N : Nat → NodeL) (cnt i bl k : Nat) (dep : Nat → UInt8) (el : Nat → Bool) (dep' : Nat → UInt8) (el' : Nat → Bool) : Prop where
  size : sumK (pend (sizeW N cnt) (i + 1) dep' el') cnt = sumK (pend (sizeW N cnt) (i + 1) dep el) cnt + sumK (kidW (sizeW N cnt) (N i)) k
  count : sumK (pend (cntW N cnt) (i + 1) dep' el') cnt = sumK (pend (cntW N cnt) (i + 1) dep el) cnt + sumK (kidW (cntW N cnt) (N i)) k
  deep : (∀ j, i + 1 ≤ j → j < cnt → dep' j ≠ 0 → deep N cnt j (dep' j).toNat) → (∀ j, i + 1 ≤ j → j < cnt → dep j ≠ 0 → deep N cnt j (dep j).toNat) ∧ ∀ j, j < k → (N i).kid j ≠ -1 → bl ≤ 8 ∧ deep N cnt (kidI (N i) j) bl
  from_ : ∀ c, dep' c ≠ 0 → dep c ≠ 0 ∨ ∃ j, j < k ∧ (N i).kid j ≠ -1 ∧ kidI (N i) j = c
  eight : ∀ c, (dep' c).toNat ≤ 8
theorem BKid.start {N : Nat → NodeL} {cnt i bl : Nat} {dep : Nat → UInt8} {el : Nat → Bool} (h8 : ∀ c, (dep c).toNat ≤ 8) : BKid N cnt i bl 0 dep el dep el :=
  ⟨by simp [sumK], by simp [sumK], fun h => ⟨h, fun j hj => by omega⟩, fun c hc => .inl hc, h8⟩
theorem BKid.null {N : Nat → NodeL} {cnt i bl k : Nat} {dep : Nat → UInt8} {el : Nat → Bool} {dep' : Nat → UInt8} {el' : Nat → Bool} (h : BKid N cnt i bl k dep el dep' el') (hk : (N i).kid k = -1) : BKid N cnt i bl (k + 1) dep el dep' el' := by
  refine ⟨?_, ?_, ?_, ?_, h.eight⟩
  · rw [h.size, sumK, kidW, if_pos hk]; rfl
  · rw [h.count, sumK, kidW, if_pos hk]; rfl
  · intro hd
    refine ⟨(h.deep hd).1, fun j hj hjk => ?_⟩
    by_cases e : j = k
    · subst e; exact absurd hk hjk
    · exact (h.deep hd).2 j (by omega) hjk
  · intro c hc
    rcases h.from_ c hc with h1 | ⟨j, h1, h2⟩
    · exact .inl h1
    · exact .inr ⟨j, by omega, h2⟩
theorem kid_inj {n n' : NodeL} {j j' : Nat} (h : 0 ≤ (n.kid j).toInt) (h' : 0 ≤ (n'.kid j').toInt) (e : kidI n j = kidI n' j') : n.kid j = n'.kid j' := by
  unfold kidI at e
  exact Int16.toInt_inj.1 (by omega)
theorem BKid.next {N : Nat → NodeL} {cnt rt i k : Nat} {root : Int16} {dep : Nat → UInt8} {el : Nat → Bool} {dep' : Nat → UInt8} {el' : Nat → Bool} {words aC : Nat} {d : UInt8}
    (hI : BInv N cnt rt i dep el words aC) (ho : OneUp N cnt root) (hr : root.toInt = (rt : Nat)) (hs : Above N cnt) (hi : i < cnt)
    (h : BKid N cnt i d.toNat k dep el dep' el') (hkk : k < (N i).nk) (hk : (N i).kid k ≠ -1) (hd0 : d ≠ 0) (hd8 : d.toNat ≤ 8) :
    BKid N cnt i d.toNat (k + 1) dep el (upd dep' (kidI (N i) k) d) (upd el' (kidI (N i) k) (inl (N i))) := by
  have hkid := hs.kid hi hkk hk
  have hkr := (hs i hi k hkk).resolve_left hk
  have hnew : dep' (kidI (N i) k) = 0 := by
    refine Decidable.byContradiction fun hne => ?_
    rcases h.from_ _ hne with h1 | ⟨j, h1, h2, h3⟩
    · rcases hI.from_ _ h1 with h2 | ⟨i', j, h2, h3, h4, h5⟩
      · refine ho.root i k hi hkk hk (Int16.toInt_inj.1 ?_)
        rw [hr, ← h2]
        unfold kidI
        omega
      · have hkr' := (hs i' (by omega) j h3).resolve_left h4
        have := ho.one i k i' j hi (by omega) hkk h3 hk (kid_inj (by omega) (by omega) h5.symm)
        omega
    · have hkr' := (hs i hi j (by omega)).resolve_left h2
      have := ho.one i k i j hi hi hkk (by omega) hk (kid_inj (by omega) (by omega) h3.symm)
      omega
  refine ⟨?_, ?_, ?_, ?_, ?_⟩
  · rw [pend_set _ _ _ _ _ _ _ _ (by omega) hkid.2 hnew hd0, h.size, sumK, kidW, if_neg hk]; omega
  · rw [pend_set _ _ _ _ _ _ _ _ (by omega) hkid.2 hnew hd0, h.count, sumK, kidW, if_neg hk]; omega
  · intro hdp
    have h' := h.deep (fun j h1 h2 h3 => by
      have hne : j ≠ kidI (N i) k := fun e => h3 (e ▸ hnew)
      have := hdp j h1 h2
      rw [upd_ne _ _ _ _ hne] at this
      exact this h3)
    refine ⟨h'.1, fun j hj hjk => ?_⟩
    by_cases e : j = k
    · subst e
      have := hdp (kidI (N i) j) (by omega) hkid.2 (by rw [upd_same]; exact hd0)
      rw [upd_same] at this
      exact ⟨hd8, this⟩
    · exact h'.2 j (by omega) hjk
  · intro c hc
    by_cases e : c = kidI (N i) k
    · exact .inr ⟨k, by omega, hk, e.symm⟩
    · rw [upd_ne _ _ _ _ e] at hc
      rcases h.from_ c hc with h1 | ⟨j, h1, h2⟩
      · exact .inl h1
      · exact .inr ⟨j, by omega, h2⟩
  · intro c
    rw [upd_get]
    split
    · exact hd8
    · exact h.eight c
theorem BInv.next {N : Nat → NodeL} {cnt rt i : Nat} {dep : Nat → UInt8} {el : Nat → Bool} {dep' : Nat → UInt8} {el' : Nat → Bool} {words aC : Nat}
    (hI : BInv N cnt rt i dep el words aC) (hs : ShapedAll N cnt) (hi : i < cnt) (hd : dep i ≠ 0) (h : BKid N cnt i (below (dep i).toNat (N i)) (N i).nk dep el dep' el') :
    BInv N cnt rt (i + 1) dep' el' (words + ownS N (el i) (N i)) (aC + 1) := by
  have hab := hs.above
  refine ⟨?_, ?_, ?_, ?_, ?_, h.eight, ?_⟩
  · have e := hI.size
    rw [pend_step _ i _ _ _ hi, if_pos hd] at e
    have e2 : sizeW N cnt (el i) i = ownS N (el i) (N i) + sumK (kidW (sizeW N cnt) (N i)) (N i).nk := wt_eq (ownS N) hab (el i) i hi
    rw [h.size]
    omega
  · have e := hI.count
    rw [pend_step _ i _ _ _ hi, if_pos hd] at e
    have e2 : cntW N cnt (el i) i = 1 + sumK (kidW (cntW N cnt) (N i)) (N i).nk := wt_eq (fun _ _ => 1) hab (el i) i hi
    rw [h.count]
    omega
  · have := hI.le; omega
  · intro hdp
    have h' := h.deep hdp
    refine hI.deep fun j h1 h2 h3 => ?_
    by_cases e : j = i
    · subst e
      exact deep_of hab hi h'.2
    · exact h'.1 j (by omega) h2 h3
  · intro c hc
    rcases h.from_ c hc with h1 | ⟨j, h1, h2, h3⟩
    · rcases hI.from_ c h1 with e | ⟨i', j, h1, h2⟩
      · exact .inl e
      · exact .inr ⟨i', j, by omega, h2⟩
    · exact .inr ⟨i, j, by omega, h1, h2, h3⟩
  · have h1 := hI.wle
    have h2 := wordsN_le hs hi
    have h3 : ownS N (el i) (N i) ≤ 2100 := by unfold ownS; split <;> omega
    omega
theorem bounded_ok (tb to : Nat) (N : Nat → NodeL) (cnt : Nat) (root : Int16) (H : Heap) (ht : TreeAt H tb to N cnt root) (hs : ShapedAll N cnt) (ho : OneUp N cnt root)
    (hr0 : 0 ≤ root.toInt) (hr1 : root.toInt < cnt) (hcnt : cnt ≤ 512) :
    Fn Fabg.prog 83 #[ptr tb to] H (fun r H' => (∃ v, r = .bool v ∧ (v = true → BoundP N cnt root)) ∧ H' = H) := by
  obtain ⟨vN, g1, g2, g3, g4⟩ := ht
  obtain ⟨aN, cN, rfl⟩ := g3.form
  obtain ⟨bN, oN, eN, hN⟩ := g3.pos (by omega)
  rw [eN] at g1
  have ht : TreeAt H tb to N cnt root := ⟨_, g1, g2, eN ▸ g3, g4⟩
  refine Fn_of Fabg.func83 rfl Fabg.ntmps83 (by simp) (WV_sound _ _ _ _ ?_)
  rw [argEnv1]
  simp -implicitDefEqProofs only [WV_seq, WV_cond, WV_block, WV_skip, WV_ret, WV_exit, WV_region, WV_draw, WV_loop, thenQ_normal, thenQ_ret, thenQ_exit, blockQ_normal, blockQ_ret, blockQ_exit, V_nil, V_cons, KV_eq, VL_nil, VL_cons, KL_eq, vcl_zero, vcl_one, vcl_two, isV_same, isV_eq, monoK_eq, dOk, put, gd_none, gd_some, gdst_eq, gdv_some, gdB_true, gdB_false, gdB_undef, ev_const, ev_tmp, lit_i64, lit_i32, lit_bool, lit_pointer, lit_slice, lit_string, CondW_true, CondW_false, GrdV_true, GrdV_false, GrdL_true, GrdL_false, vc_move, vc_assign, vc_load, vc_store, vc_field, vc_indexAddr, vc_index, vc_box, vc_alloc, vc_build, vc_buildSlice, vc_makeSlice, vc_slice, vc_extract, vc_unOp, vc_convert, vc_bin, vc_pick, vc_call, vc_append, vc_len, vc_min, vc_max, vc_copy, vc_clear, pickK_true, pickK_false, stK_eq, not_bool, min_i64, max_i64, min_u16, max_u16, extract_tuple, vc_nil, nilK_ptr, int_add, int_sub, int_mul, int_eql, int_neq, int_lss, int_leq, int_gtr, int_geq, u8_add, u8_sub, u8_mul, u8_eql, u8_neq, u8_lss, u8_leq, u8_gtr, u8_geq, u16_add, u16_sub, u16_mul, u16_eql, u16_neq, u16_lss, u16_leq, u16_gtr, u16_geq, u32_add, u32_sub, u32_mul, u32_eql, u32_neq, u32_lss, u32_leq, u32_gtr, u32_geq, u64_add, u64_sub, u64_mul, u64_eql, u64_neq, u64_lss, u64_leq, u64_gtr, u64_geq, u8_and, u8_or, u8_xor, u8_andNot, u64_and, u64_or, u64_xor, u64_andNot, u8_shl_u8, u8_shl_u16, u8_shl_u64, u32_shl_u8, u32_shl_u16, u32_shl_u64, u64_shl_u8, u64_shl_u16, u64_shl_u64, u8_shr_u8, u8_shr_u16, u8_shr_u64, u64_shr_u8, u64_shr_u16, u64_shr_u64, u16_quo8, u16_rem8, u16_quo64, u16_rem64, u64_quo8, u64_rem8, u64_quo64, u64_rem64, u32_quo8, u32_rem8, u32_quo64, u32_rem64, int_quo2, int_rem2, int_quo8, int_rem8, int_quo64, int_rem64, u64_shrN, u64_shlN, fold64, fold32, i64_shl_u8, i16_eql, i16_neq, i16_lss, i16_geq, Nat.reduceEqDiff, Nat.reduceLT, Nat.reduceAdd, Nat.reduceMul, Nat.reduceSub, ↓reduceIte, if_true, if_false, eq_self, true_and, and_true, Bool.false_eq_true, Bool.not_true, Bool.not_false, reduceCtorEq, upd_get, List.getElem?_toArray, List.getElem?_cons_zero, List.getElem?_cons_succ, Option.bind_some, rdK_some, List.map_toArray, List.map_cons, List.map_nil, rd_upd, rdO_fblk, wrOk_fblk, wrO_fblk, lget_zero, lget_succ, upd_upd, agg_cells, cells_of_list, List.length_cons, List.length_nil, Nat.add_zero, pv_cells, pl_len, pl_0, pl_1, pl_2, pl_3, pl_4, pl_5, pv_fold, pv_eta, ov_eta, opv_eta, ov_cells, ol_len, ov_fold, opv_cells, opl_len, opv_fold, st_pv, st_ov, st_opv, ol_0, ol_1, ol_2, ol_3, ol_4, ol_5, ol_6, ol_7, ol_8, ol_9, opl_0, opl_1, opl_2, opl_3, opl_4, opl_5, opl_6, opl_7, wrsOk_fblk, wrsO_fblk, fblk_all, Nat.reduceLeDiff, Nat.zero_add, rdsK2, rdsK4, rdsK6, rdsK8, rdsK10, wrsK_nil, wrsK_cons, oneCell_u8, oneCell_u16, oneCell_u32, oneCell_u64, oneCell_i16, oneCell_int, oneCell_bool, oneCell_ptr, oneCell_pointer, oneCell_sl, oneCell_slice, oneCell_string, box_eq, List.all_cons, List.all_nil, Bool.and_self, Ex1_eq, Ex1_and, endQ, resH, res_tmp, res_cell, resC_ptr, tupleOf, Fabg.results83, al_201, al_202, fa_25_1, ld_23, ix_201_int, ix_201_u8, ix_201_u16, ix_201_i16, st_5, k_u8_1, tn_u8_1, cv_23_3, fa_25_0, ld_22, len_22, lenS_22, ix_22_int, ix_22_u8, ix_22_u16, ix_22_i16, ld_5, k_u8_0, tn_u8_0, ix_202_int, ix_202_u8, ix_202_u16, ix_202_i16, ld_4, call_137, fa_102_0, k_u8_2, tn_u8_2, fa_102_1, k_u8_7, tn_u8_7, fa_102_3, ld_100, len_100, lenS_100, ix_100_int, ix_100_u8, ix_100_u16, ix_100_i16, k_i16_m1, k_u8_8, tn_u8_8, st_4]
  refine ⟨fun b3 hb3 => ?_⟩
  simp -implicitDefEqProofs only [WV_seq, WV_cond, WV_block, WV_skip, WV_ret, WV_exit, WV_region, WV_draw, WV_loop, thenQ_normal, thenQ_ret, thenQ_exit, blockQ_normal, blockQ_ret, blockQ_exit, V_nil, V_cons, KV_eq, VL_nil, VL_cons, KL_eq, vcl_zero, vcl_one, vcl_two, isV_same, isV_eq, monoK_eq, dOk, put, gd_none, gd_some, gdst_eq, gdv_some, gdB_true, gdB_false, gdB_undef, ev_const, ev_tmp, lit_i64, lit_i32, lit_bool, lit_pointer, lit_slice, lit_string, CondW_true, CondW_false, GrdV_true, GrdV_false, GrdL_true, GrdL_false, vc_move, vc_assign, vc_load, vc_store, vc_field, vc_indexAddr, vc_index, vc_box, vc_alloc, vc_build, vc_buildSlice, vc_makeSlice, vc_slice, vc_extract, vc_unOp, vc_convert, vc_bin, vc_pick, vc_call, vc_append, vc_len, vc_min, vc_max, vc_copy, vc_clear, pickK_true, pickK_false, stK_eq, not_bool, min_i64, max_i64, min_u16, max_u16, extract_tuple, vc_nil, nilK_ptr, int_add, int_sub, int_mul, int_eql, int_neq, int_lss, int_leq, int_gtr, int_geq, u8_add, u8_sub, u8_mul, u8_eql, u8_neq, u8_lss, u8_leq, u8_gtr, u8_geq, u16_add, u16_sub, u16_mul, u16_eql, u16_neq, u16_lss, u16_leq, u16_gtr, u16_geq, u32_add, u32_sub, u32_mul, u32_eql, u32_neq, u32_lss, u32_leq, u32_gtr, u32_geq, u64_add, u64_sub, u64_mul, u64_eql, u64_neq, u64_lss, u64_leq, u64_gtr, u64_geq, u8_and, u8_or, u8_xor, u8_andNot, u64_and, u64_or, u64_xor, u64_andNot, u8_shl_u8, u8_shl_u16, u8_shl_u64, u32_shl_u8, u32_shl_u16, u32_shl_u64, u64_shl_u8, u64_shl_u16, u64_shl_u64, u8_shr_u8, u8_shr_u16, u8_shr_u64, u64_shr_u8, u64_shr_u16, u64_shr_u64, u16_quo8, u16_rem8, u16_quo64, u16_rem64, u64_quo8, u64_rem8, u64_quo64, u64_rem64, u32_quo8, u32_rem8, u32_quo64, u32_rem64, int_quo2, int_rem2, int_quo8, int_rem8, int_quo64, int_rem64, u64_shrN, u64_shlN, fold64, fold32, i64_shl_u8, i16_eql, i16_neq, i16_lss, i16_geq, Nat.reduceEqDiff, Nat.reduceLT, Nat.reduceAdd, Nat.reduceMul, Nat.reduceSub, ↓reduceIte, if_true, if_false, eq_self, true_and, and_true, Bool.false_eq_true, Bool.not_true, Bool.not_false, reduceCtorEq, upd_get, List.getElem?_toArray, List.getElem?_cons_zero, List.getElem?_cons_succ, Option.bind_some, rdK_some, List.map_toArray, List.map_cons, List.map_nil, rd_upd, rdO_fblk, wrOk_fblk, wrO_fblk, lget_zero, lget_succ, upd_upd, agg_cells, cells_of_list, List.length_cons, List.length_nil, Nat.add_zero, pv_cells, pl_len, pl_0, pl_1, pl_2, pl_3, pl_4, pl_5, pv_fold, pv_eta, ov_eta, opv_eta, ov_cells, ol_len, ov_fold, opv_cells, opl_len, opv_fold, st_pv, st_ov, st_opv, ol_0, ol_1, ol_2, ol_3, ol_4, ol_5, ol_6, ol_7, ol_8, ol_9, opl_0, opl_1, opl_2, opl_3, opl_4, opl_5, opl_6, opl_7, wrsOk_fblk, wrsO_fblk, fblk_all, Nat.reduceLeDiff, Nat.zero_add, rdsK2, rdsK4, rdsK6, rdsK8, rdsK10, wrsK_nil, wrsK_cons, oneCell_u8, oneCell_u16, oneCell_u32, oneCell_u64, oneCell_i16, oneCell_int, oneCell_bool, oneCell_ptr, oneCell_pointer, oneCell_sl, oneCell_slice, oneCell_string, box_eq, List.all_cons, List.all_nil, Bool.and_self, Ex1_eq, Ex1_and, endQ, resH, res_tmp, res_cell, resC_ptr, tupleOf, Fabg.results83, al_201, al_202, fa_25_1, ld_23, ix_201_int, ix_201_u8, ix_201_u16, ix_201_i16, st_5, k_u8_1, tn_u8_1, cv_23_3, fa_25_0, ld_22, len_22, lenS_22, ix_22_int, ix_22_u8, ix_22_u16, ix_22_i16, ld_5, k_u8_0, tn_u8_0, ix_202_int, ix_202_u8, ix_202_u16, ix_202_i16, ld_4, call_137, fa_102_0, k_u8_2, tn_u8_2, fa_102_1, k_u8_7, tn_u8_7, fa_102_3, ld_100, len_100, lenS_100, ix_100_int, ix_100_u8, ix_100_u16, ix_100_i16, k_i16_m1, k_u8_8, tn_u8_8, st_4]
  refine ⟨fun b4 hb4 => ?_⟩
  have n := fresh_upd hb4
  have n1 := n.1
  have n2 := n.2.1
  have n3 := n.2.2
  clear n hb4
  have m1 := ne_fresh (rd_dom g1) hb3
  have m2 := ne_fresh (rd_dom g1) n3
  have hle : ∀ x y, Le H (upd (upd H b3 x) b4 y) := fun x y => (by repeat (first | exact Le.refl _ | refine Le.fresh ?_ (by assumption) _))
  have p1 : (0 ≤ root.toInt) = True := eq_true hr0
  have p2 : (root.toInt < 512) = True := eq_true (by omega)
  have p3 : (root.toInt.toNat < 512) = True := eq_true (by omega)
  have u1 : ∀ x y z, upd (upd (upd H b3 x) b4 y) b3 z = upd (upd H b3 z) b4 y := fun x y z => upd_in _ b3 b4 _ _ _ n2
  (repeat' (first
    | simp -implicitDefEqProofs only [WV_seq, WV_cond, WV_block, WV_skip, WV_ret, WV_exit, WV_region, WV_draw, WV_loop, thenQ_normal, thenQ_ret, thenQ_exit, blockQ_normal, blockQ_ret, blockQ_exit, V_nil, V_cons, KV_eq, VL_nil, VL_cons, KL_eq, vcl_zero, vcl_one, vcl_two, isV_same, isV_eq, monoK_eq, dOk, put, gd_none, gd_some, gdst_eq, gdv_some, gdB_true, gdB_false, gdB_undef, ev_const, ev_tmp, lit_i64, lit_i32, lit_bool, lit_pointer, lit_slice, lit_string, CondW_true, CondW_false, GrdV_true, GrdV_false, GrdL_true, GrdL_false, vc_move, vc_assign, vc_load, vc_store, vc_field, vc_indexAddr, vc_index, vc_box, vc_alloc, vc_build, vc_buildSlice, vc_makeSlice, vc_slice, vc_extract, vc_unOp, vc_convert, vc_bin, vc_pick, vc_call, vc_append, vc_len, vc_min, vc_max, vc_copy, vc_clear, pickK_true, pickK_false, stK_eq, not_bool, min_i64, max_i64, min_u16, max_u16, extract_tuple, vc_nil, nilK_ptr, int_add, int_sub, int_mul, int_eql, int_neq, int_lss, int_leq, int_gtr, int_geq, u8_add, u8_sub, u8_mul, u8_eql, u8_neq, u8_lss, u8_leq, u8_gtr, u8_geq, u16_add, u16_sub, u16_mul, u16_eql, u16_neq, u16_lss, u16_leq, u16_gtr, u16_geq, u32_add, u32_sub, u32_mul, u32_eql, u32_neq, u32_lss, u32_leq, u32_gtr, u32_geq, u64_add, u64_sub, u64_mul, u64_eql, u64_neq, u64_lss, u64_leq, u64_gtr, u64_geq, u8_and, u8_or, u8_xor, u8_andNot, u64_and, u64_or, u64_xor, u64_andNot, u8_shl_u8, u8_shl_u16, u8_shl_u64, u32_shl_u8, u32_shl_u16, u32_shl_u64, u64_shl_u8, u64_shl_u16, u64_shl_u64, u8_shr_u8, u8_shr_u16, u8_shr_u64, u64_shr_u8, u64_shr_u16, u64_shr_u64, u16_quo8, u16_rem8, u16_quo64, u16_rem64, u64_quo8, u64_rem8, u64_quo64, u64_rem64, u32_quo8, u32_rem8, u32_quo64, u32_rem64, int_quo2, int_rem2, int_quo8, int_rem8, int_quo64, int_rem64, u64_shrN, u64_shlN, fold64, fold32, i64_shl_u8, i16_eql, i16_neq, i16_lss, i16_geq, Nat.reduceEqDiff, Nat.reduceLT, Nat.reduceAdd, Nat.reduceMul, Nat.reduceSub, ↓reduceIte, if_true, if_false, eq_self, true_and, and_true, Bool.false_eq_true, Bool.not_true, Bool.not_false, reduceCtorEq, upd_get, List.getElem?_toArray, List.getElem?_cons_zero, List.getElem?_cons_succ, Option.bind_some, rdK_some, List.map_toArray, List.map_cons, List.map_nil, rd_upd, rdO_fblk, wrOk_fblk, wrO_fblk, lget_zero, lget_succ, upd_upd, agg_cells, cells_of_list, List.length_cons, List.length_nil, Nat.add_zero, pv_cells, pl_len, pl_0, pl_1, pl_2, pl_3, pl_4, pl_5, pv_fold, pv_eta, ov_eta, opv_eta, ov_cells, ol_len, ov_fold, opv_cells, opl_len, opv_fold, st_pv, st_ov, st_opv, ol_0, ol_1, ol_2, ol_3, ol_4, ol_5, ol_6, ol_7, ol_8, ol_9, opl_0, opl_1, opl_2, opl_3, opl_4, opl_5, opl_6, opl_7, wrsOk_fblk, wrsO_fblk, fblk_all, Nat.reduceLeDiff, Nat.zero_add, rdsK2, rdsK4, rdsK6, rdsK8, rdsK10, wrsK_nil, wrsK_cons, oneCell_u8, oneCell_u16, oneCell_u32, oneCell_u64, oneCell_i16, oneCell_int, oneCell_bool, oneCell_ptr, oneCell_pointer, oneCell_sl, oneCell_slice, oneCell_string, box_eq, List.all_cons, List.all_nil, Bool.and_self, Ex1_eq, Ex1_and, endQ, resH, res_tmp, res_cell, resC_ptr, tupleOf, Fabg.results83, al_201, al_202, fa_25_1, ld_23, ix_201_int, ix_201_u8, ix_201_u16, ix_201_i16, st_5, k_u8_1, tn_u8_1, cv_23_3, fa_25_0, ld_22, len_22, lenS_22, ix_22_int, ix_22_u8, ix_22_u16, ix_22_i16, ld_5, k_u8_0, tn_u8_0, ix_202_int, ix_202_u8, ix_202_u16, ix_202_i16, ld_4, call_137, fa_102_0, k_u8_2, tn_u8_2, fa_102_1, k_u8_7, tn_u8_7, fa_102_3, ld_100, len_100, lenS_100, ix_100_int, ix_100_u8, ix_100_u16, ix_100_i16, k_i16_m1, k_u8_8, tn_u8_8, st_4, g1, g2, n1, n2, m1, m2, p1, p2, p3, u1]
    | refine Alloc.mono ?_
    | (refine CondW_intro (fun hc => ?_) (fun hc => ?_) <;> (try simp only [Bool.not_eq_true', Bool.not_eq_false'] at hc) <;> (try simp only [hc]))
    | (refine GrdV_intro (fun hc => ?_) (fun hc => ?_) <;> (try simp only [Bool.not_eq_true', Bool.not_eq_false'] at hc) <;> (try simp only [hc]))
    | (refine GrdL_intro (fun hc => ?_) (fun hc => ?_) <;> (try simp only [Bool.not_eq_true', Bool.not_eq_false'] at hc) <;> (try simp only [hc]))))
  generalize hrt : root.toInt.toNat = rt at *
  have hrt' : root.toInt = (rt : Nat) := by omega
  clear p1 p2 p3
  have hab := hs.above
  refine W_loopM (fun m T G => ∃ (i : Nat) (dep : Nat → UInt8) (el : Nat → Bool) (words aC : Nat), BInv N cnt rt i dep el words aC ∧ m + i = cnt ∧
      T 0 = ptr tb to ∧ T 3 = ptr b3 0 ∧ T 4 = ptr b4 0 ∧ T 5 = .int .i64 (words : Nat) ∧ T 6 = .int .i64 (i : Nat) ∧ G = upd (upd H b3 (some (depB dep))) b4 (some (elB el)))
    (fun T G => ∃ (dep : Nat → UInt8) (el : Nat → Bool) (words aC : Nat), BInv N cnt rt cnt dep el words aC ∧ T 5 = .int .i64 (words : Nat) ∧ G = upd (upd H b3 (some (depB dep))) b4 (some (elB el))) ?_ (cnt - rt) _ _ ?_ ?_
  · rintro m T G ⟨i, dep, el, words, aC, hI, hmi, t0, t3, t4, t5, t6, rfl⟩
    refine WV_sound _ _ _ _ ?_
    by_cases hic : i < cnt
    rotate_left
    · have q : decide ((i : Int) < (cnt : Int)) = false := decide_eq_false (by omega)
      (repeat' (first
    | simp -implicitDefEqProofs only [WV_seq, WV_cond, WV_block, WV_skip, WV_ret, WV_exit, WV_region, WV_draw, WV_loop, thenQ_normal, thenQ_ret, thenQ_exit, blockQ_normal, blockQ_ret, blockQ_exit, V_nil, V_cons, KV_eq, VL_nil, VL_cons, KL_eq, vcl_zero, vcl_one, vcl_two, isV_same, isV_eq, monoK_eq, dOk, put, gd_none, gd_some, gdst_eq, gdv_some, gdB_true, gdB_false, gdB_undef, ev_const, ev_tmp, lit_i64, lit_i32, lit_bool, lit_pointer, lit_slice, lit_string, CondW_true, CondW_false, GrdV_true, GrdV_false, GrdL_true, GrdL_false, vc_move, vc_assign, vc_load, vc_store, vc_field, vc_indexAddr, vc_index, vc_box, vc_alloc, vc_build, vc_buildSlice, vc_makeSlice, vc_slice, vc_extract, vc_unOp, vc_convert, vc_bin, vc_pick, vc_call, vc_append, vc_len, vc_min, vc_max, vc_copy, vc_clear, pickK_true, pickK_false, stK_eq, not_bool, min_i64, max_i64, min_u16, max_u16, extract_tuple, vc_nil, nilK_ptr, int_add, int_sub, int_mul, int_eql, int_neq, int_lss, int_leq, int_gtr, int_geq, u8_add, u8_sub, u8_mul, u8_eql, u8_neq, u8_lss, u8_leq, u8_gtr, u8_geq, u16_add, u16_sub, u16_mul, u16_eql, u16_neq, u16_lss, u16_leq, u16_gtr, u16_geq, u32_add, u32_sub, u32_mul, u32_eql, u32_neq, u32_lss, u32_leq, u32_gtr, u32_geq, u64_add, u64_sub, u64_mul, u64_eql, u64_neq, u64_lss, u64_leq, u64_gtr, u64_geq, u8_and, u8_or, u8_xor, u8_andNot, u64_and, u64_or, u64_xor, u64_andNot, u8_shl_u8, u8_shl_u16, u8_shl_u64, u32_shl_u8, u32_shl_u16, u32_shl_u64, u64_shl_u8, u64_shl_u16, u64_shl_u64, u8_shr_u8, u8_shr_u16, u8_shr_u64, u64_shr_u8, u64_shr_u16, u64_shr_u64, u16_quo8, u16_rem8, u16_quo64, u16_rem64, u64_quo8, u64_rem8, u64_quo64, u64_rem64, u32_quo8, u32_rem8, u32_quo64, u32_rem64, int_quo2, int_rem2, int_quo8, int_rem8, int_quo64, int_rem64, u64_shrN, u64_shlN, fold64, fold32, i64_shl_u8, i16_eql, i16_neq, i16_lss, i16_geq, Nat.reduceEqDiff, Nat.reduceLT, Nat.reduceAdd, Nat.reduceMul, Nat.reduceSub, ↓reduceIte, if_true, if_false, eq_self, true_and, and_true, Bool.false_eq_true, Bool.not_true, Bool.not_false, reduceCtorEq, upd_get, List.getElem?_toArray, List.getElem?_cons_zero, List.getElem?_cons_succ, Option.bind_some, rdK_some, List.map_toArray, List.map_cons, List.map_nil, rd_upd, rdO_fblk, wrOk_fblk, wrO_fblk, lget_zero, lget_succ, upd_upd, agg_cells, cells_of_list, List.length_cons, List.length_nil, Nat.add_zero, pv_cells, pl_len, pl_0, pl_1, pl_2, pl_3, pl_4, pl_5, pv_fold, pv_eta, ov_eta, opv_eta, ov_cells, ol_len, ov_fold, opv_cells, opl_len, opv_fold, st_pv, st_ov, st_opv, ol_0, ol_1, ol_2, ol_3, ol_4, ol_5, ol_6, ol_7, ol_8, ol_9, opl_0, opl_1, opl_2, opl_3, opl_4, opl_5, opl_6, opl_7, wrsOk_fblk, wrsO_fblk, fblk_all, Nat.reduceLeDiff, Nat.zero_add, rdsK2, rdsK4, rdsK6, rdsK8, rdsK10, wrsK_nil, wrsK_cons, oneCell_u8, oneCell_u16, oneCell_u32, oneCell_u64, oneCell_i16, oneCell_int, oneCell_bool, oneCell_ptr, oneCell_pointer, oneCell_sl, oneCell_slice, oneCell_string, box_eq, List.all_cons, List.all_nil, Bool.and_self, Ex1_eq, Ex1_and, endQ, resH, res_tmp, res_cell, resC_ptr, tupleOf, Fabg.results83, al_201, al_202, fa_25_1, ld_23, ix_201_int, ix_201_u8, ix_201_u16, ix_201_i16, st_5, k_u8_1, tn_u8_1, cv_23_3, fa_25_0, ld_22, len_22, lenS_22, ix_22_int, ix_22_u8, ix_22_u16, ix_22_i16, ld_5, k_u8_0, tn_u8_0, ix_202_int, ix_202_u8, ix_202_u16, ix_202_i16, ld_4, call_137, fa_102_0, k_u8_2, tn_u8_2, fa_102_1, k_u8_7, tn_u8_7, fa_102_3, ld_100, len_100, lenS_100, ix_100_int, ix_100_u8, ix_100_u16, ix_100_i16, k_i16_m1, k_u8_8, tn_u8_8, st_4, g1, n1, n2, m1, m2, t0, t3, t4, t5, t6, q]
    | refine Alloc.mono ?_
    | (refine CondW_intro (fun hc => ?_) (fun hc => ?_) <;> (try simp only [Bool.not_eq_true', Bool.not_eq_false'] at hc) <;> (try simp only [hc]))
    | (refine GrdV_intro (fun hc => ?_) (fun hc => ?_) <;> (try simp only [Bool.not_eq_true', Bool.not_eq_false'] at hc) <;> (try simp only [hc]))
    | (refine GrdL_intro (fun hc => ?_) (fun hc => ?_) <;> (try simp only [Bool.not_eq_true', Bool.not_eq_false'] at hc) <;> (try simp only [hc]))))
      have e : i = cnt := by omega
      subst e
      exact ⟨dep, el, words, aC, hI, rfl, rfl⟩
    have q : ((i : Int) < (cnt : Int)) = True := eq_true (by omega)
    have q0 : ((i : Int) < 512) = True := eq_true (by omega)
    have q0' : (i < 512) = True := eq_true (by omega)
    have q5 : w64 ((i : Int) + 1) = ((i + 1 : Nat) : Int) := by rw [w64_id] <;> omega
    have hn := hN i hic
    have hn' := hn
    obtain ⟨vd, vk, f1, f2, f3, f4, f5, f6, f7, f8⟩ := hn
    obtain ⟨ad, cd, rfl⟩ := f5.form
    obtain ⟨ak, ck, rfl⟩ := f6.form
    have m3 := ne_fresh (rd_dom f1) hb3
    have m4 := ne_fresh (rd_dom f1) n3
    by_cases hd0 : dep i = 0
    · have hd0' : (dep i == 0) = true := by simp [hd0]
      (repeat' (first
    | simp -implicitDefEqProofs only [WV_seq, WV_cond, WV_block, WV_skip, WV_ret, WV_exit, WV_region, WV_draw, WV_loop, thenQ_normal, thenQ_ret, thenQ_exit, blockQ_normal, blockQ_ret, blockQ_exit, V_nil, V_cons, KV_eq, VL_nil, VL_cons, KL_eq, vcl_zero, vcl_one, vcl_two, isV_same, isV_eq, monoK_eq, dOk, put, gd_none, gd_some, gdst_eq, gdv_some, gdB_true, gdB_false, gdB_undef, ev_const, ev_tmp, lit_i64, lit_i32, lit_bool, lit_pointer, lit_slice, lit_string, CondW_true, CondW_false, GrdV_true, GrdV_false, GrdL_true, GrdL_false, vc_move, vc_assign, vc_load, vc_store, vc_field, vc_indexAddr, vc_index, vc_box, vc_alloc, vc_build, vc_buildSlice, vc_makeSlice, vc_slice, vc_extract, vc_unOp, vc_convert, vc_bin, vc_pick, vc_call, vc_append, vc_len, vc_min, vc_max, vc_copy, vc_clear, pickK_true, pickK_false, stK_eq, not_bool, min_i64, max_i64, min_u16, max_u16, extract_tuple, vc_nil, nilK_ptr, int_add, int_sub, int_mul, int_eql, int_neq, int_lss, int_leq, int_gtr, int_geq, u8_add, u8_sub, u8_mul, u8_eql, u8_neq, u8_lss, u8_leq, u8_gtr, u8_geq, u16_add, u16_sub, u16_mul, u16_eql, u16_neq, u16_lss, u16_leq, u16_gtr, u16_geq, u32_add, u32_sub, u32_mul, u32_eql, u32_neq, u32_lss, u32_leq, u32_gtr, u32_geq, u64_add, u64_sub, u64_mul, u64_eql, u64_neq, u64_lss, u64_leq, u64_gtr, u64_geq, u8_and, u8_or, u8_xor, u8_andNot, u64_and, u64_or, u64_xor, u64_andNot, u8_shl_u8, u8_shl_u16, u8_shl_u64, u32_shl_u8, u32_shl_u16, u32_shl_u64, u64_shl_u8, u64_shl_u16, u64_shl_u64, u8_shr_u8, u8_shr_u16, u8_shr_u64, u64_shr_u8, u64_shr_u16, u64_shr_u64, u16_quo8, u16_rem8, u16_quo64, u16_rem64, u64_quo8, u64_rem8, u64_quo64, u64_rem64, u32_quo8, u32_rem8, u32_quo64, u32_rem64, int_quo2, int_rem2, int_quo8, int_rem8, int_quo64, int_rem64, u64_shrN, u64_shlN, fold64, fold32, i64_shl_u8, i16_eql, i16_neq, i16_lss, i16_geq, Nat.reduceEqDiff, Nat.reduceLT, Nat.reduceAdd, Nat.reduceMul, Nat.reduceSub, ↓reduceIte, if_true, if_false, eq_self, true_and, and_true, Bool.false_eq_true, Bool.not_true, Bool.not_false, reduceCtorEq, upd_get, List.getElem?_toArray, List.getElem?_cons_zero, List.getElem?_cons_succ, Option.bind_some, rdK_some, List.map_toArray, List.map_cons, List.map_nil, rd_upd, rdO_fblk, wrOk_fblk, wrO_fblk, lget_zero, lget_succ, upd_upd, agg_cells, cells_of_list, List.length_cons, List.length_nil, Nat.add_zero, pv_cells, pl_len, pl_0, pl_1, pl_2, pl_3, pl_4, pl_5, pv_fold, pv_eta, ov_eta, opv_eta, ov_cells, ol_len, ov_fold, opv_cells, opl_len, opv_fold, st_pv, st_ov, st_opv, ol_0, ol_1, ol_2, ol_3, ol_4, ol_5, ol_6, ol_7, ol_8, ol_9, opl_0, opl_1, opl_2, opl_3, opl_4, opl_5, opl_6, opl_7, wrsOk_fblk, wrsO_fblk, fblk_all, Nat.reduceLeDiff, Nat.zero_add, rdsK2, rdsK4, rdsK6, rdsK8, rdsK10, wrsK_nil, wrsK_cons, oneCell_u8, oneCell_u16, oneCell_u32, oneCell_u64, oneCell_i16, oneCell_int, oneCell_bool, oneCell_ptr, oneCell_pointer, oneCell_sl, oneCell_slice, oneCell_string, box_eq, List.all_cons, List.all_nil, Bool.and_self, Ex1_eq, Ex1_and, endQ, resH, res_tmp, res_cell, resC_ptr, tupleOf, Fabg.results83, al_201, al_202, fa_25_1, ld_23, ix_201_int, ix_201_u8, ix_201_u16, ix_201_i16, st_5, k_u8_1, tn_u8_1, cv_23_3, fa_25_0, ld_22, len_22, lenS_22, ix_22_int, ix_22_u8, ix_22_u16, ix_22_i16, ld_5, k_u8_0, tn_u8_0, ix_202_int, ix_202_u8, ix_202_u16, ix_202_i16, ld_4, call_137, fa_102_0, k_u8_2, tn_u8_2, fa_102_1, k_u8_7, tn_u8_7, fa_102_3, ld_100, len_100, lenS_100, ix_100_int, ix_100_u8, ix_100_u16, ix_100_i16, k_i16_m1, k_u8_8, tn_u8_8, st_4, g1, n1, n2, m1, m2, m3, m4, t0, t3, t4, t5, t6, q, q0, q0', q5, hd0', depB, elB, decide_true, Int.natCast_nonneg, Int.toNat_natCast]
    | refine Alloc.mono ?_
    | (refine CondW_intro (fun hc => ?_) (fun hc => ?_) <;> (try simp only [Bool.not_eq_true', Bool.not_eq_false'] at hc) <;> (try simp only [hc]))
    | (refine GrdV_intro (fun hc => ?_) (fun hc => ?_) <;> (try simp only [Bool.not_eq_true', Bool.not_eq_false'] at hc) <;> (try simp only [hc]))
    | (refine GrdL_intro (fun hc => ?_) (fun hc => ?_) <;> (try simp only [Bool.not_eq_true', Bool.not_eq_false'] at hc) <;> (try simp only [hc]))))
      refine ⟨m - 1, by omega, i + 1, dep, el, words, aC, ⟨?_, ?_, ?_, ?_, ?_, ?_, ?_⟩, by omega, rfl, rfl, rfl⟩
      · rw [← hI.size, pend_step _ i _ _ _ hic]; simp [hd0]
      · rw [← hI.count, pend_step _ i _ _ _ hic]; simp [hd0]
      · have := hI.le; omega
      · intro h
        refine hI.deep fun j h1 h2 h3 => ?_
        by_cases e : j = i
        · subst e; exact absurd hd0 h3
        · exact h j (by omega) h2 h3
      · intro c hc
        rcases hI.from_ c hc with e | ⟨i', j, h1, h2⟩
        · exact .inl e
        · exact .inr ⟨i', j, by omega, h2⟩
      · exact hI.eight
      · have := hI.wle; omega
    have hd0' : (dep i == 0) = false := by simp [hd0]
    have hwk : ∀ x y, Fn Fabg.prog 137 #[ptr tb to, ptr bN (oN + i * 4)] (upd (upd H b3 x) b4 y) (fun r H' => r = .int .i64 (wordsN N (N i) : Nat) ∧ H' = upd (upd H b3 x) b4 y) := fun x y => wordsN_at (ht.le (hle x y)) (hn'.le (hle x y)) hs hic
    have hwl := wordsN_le hs hic
    have hwords := hI.wle
    have q6 : w64 ((words : Int) + (wordsN N (N i) : Int)) = ((words + wordsN N (N i) : Nat) : Int) := by rw [w64_id] <;> omega
    cases h2 : (N i).kind == 2 <;> cases h7 : (N i).code == 7 <;> cases hel : el i
    all_goals (
      (repeat' (first
    | simp -implicitDefEqProofs only [WV_seq, WV_cond, WV_block, WV_skip, WV_ret, WV_exit, WV_region, WV_draw, WV_loop, thenQ_normal, thenQ_ret, thenQ_exit, blockQ_normal, blockQ_ret, blockQ_exit, V_nil, V_cons, KV_eq, VL_nil, VL_cons, KL_eq, vcl_zero, vcl_one, vcl_two, isV_same, isV_eq, monoK_eq, dOk, put, gd_none, gd_some, gdst_eq, gdv_some, gdB_true, gdB_false, gdB_undef, ev_const, ev_tmp, lit_i64, lit_i32, lit_bool, lit_pointer, lit_slice, lit_string, CondW_true, CondW_false, GrdV_true, GrdV_false, GrdL_true, GrdL_false, vc_move, vc_assign, vc_load, vc_store, vc_field, vc_indexAddr, vc_index, vc_box, vc_alloc, vc_build, vc_buildSlice, vc_makeSlice, vc_slice, vc_extract, vc_unOp, vc_convert, vc_bin, vc_pick, vc_call, vc_append, vc_len, vc_min, vc_max, vc_copy, vc_clear, pickK_true, pickK_false, stK_eq, not_bool, min_i64, max_i64, min_u16, max_u16, extract_tuple, vc_nil, nilK_ptr, int_add, int_sub, int_mul, int_eql, int_neq, int_lss, int_leq, int_gtr, int_geq, u8_add, u8_sub, u8_mul, u8_eql, u8_neq, u8_lss, u8_leq, u8_gtr, u8_geq, u16_add, u16_sub, u16_mul, u16_eql, u16_neq, u16_lss, u16_leq, u16_gtr, u16_geq, u32_add, u32_sub, u32_mul, u32_eql, u32_neq, u32_lss, u32_leq, u32_gtr, u32_geq, u64_add, u64_sub, u64_mul, u64_eql, u64_neq, u64_lss, u64_leq, u64_gtr, u64_geq, u8_and, u8_or, u8_xor, u8_andNot, u64_and, u64_or, u64_xor, u64_andNot, u8_shl_u8, u8_shl_u16, u8_shl_u64, u32_shl_u8, u32_shl_u16, u32_shl_u64, u64_shl_u8, u64_shl_u16, u64_shl_u64, u8_shr_u8, u8_shr_u16, u8_shr_u64, u64_shr_u8, u64_shr_u16, u64_shr_u64, u16_quo8, u16_rem8, u16_quo64, u16_rem64, u64_quo8, u64_rem8, u64_quo64, u64_rem64, u32_quo8, u32_rem8, u32_quo64, u32_rem64, int_quo2, int_rem2, int_quo8, int_rem8, int_quo64, int_rem64, u64_shrN, u64_shlN, fold64, fold32, i64_shl_u8, i16_eql, i16_neq, i16_lss, i16_geq, Nat.reduceEqDiff, Nat.reduceLT, Nat.reduceAdd, Nat.reduceMul, Nat.reduceSub, ↓reduceIte, if_true, if_false, eq_self, true_and, and_true, Bool.false_eq_true, Bool.not_true, Bool.not_false, reduceCtorEq, upd_get, List.getElem?_toArray, List.getElem?_cons_zero, List.getElem?_cons_succ, Option.bind_some, rdK_some, List.map_toArray, List.map_cons, List.map_nil, rd_upd, rdO_fblk, wrOk_fblk, wrO_fblk, lget_zero, lget_succ, upd_upd, agg_cells, cells_of_list, List.length_cons, List.length_nil, Nat.add_zero, pv_cells, pl_len, pl_0, pl_1, pl_2, pl_3, pl_4, pl_5, pv_fold, pv_eta, ov_eta, opv_eta, ov_cells, ol_len, ov_fold, opv_cells, opl_len, opv_fold, st_pv, st_ov, st_opv, ol_0, ol_1, ol_2, ol_3, ol_4, ol_5, ol_6, ol_7, ol_8, ol_9, opl_0, opl_1, opl_2, opl_3, opl_4, opl_5, opl_6, opl_7, wrsOk_fblk, wrsO_fblk, fblk_all, Nat.reduceLeDiff, Nat.zero_add, rdsK2, rdsK4, rdsK6, rdsK8, rdsK10, wrsK_nil, wrsK_cons, oneCell_u8, oneCell_u16, oneCell_u32, oneCell_u64, oneCell_i16, oneCell_int, oneCell_bool, oneCell_ptr, oneCell_pointer, oneCell_sl, oneCell_slice, oneCell_string, box_eq, List.all_cons, List.all_nil, Bool.and_self, Ex1_eq, Ex1_and, endQ, resH, res_tmp, res_cell, resC_ptr, tupleOf, Fabg.results83, al_201, al_202, fa_25_1, ld_23, ix_201_int, ix_201_u8, ix_201_u16, ix_201_i16, st_5, k_u8_1, tn_u8_1, cv_23_3, fa_25_0, ld_22, len_22, lenS_22, ix_22_int, ix_22_u8, ix_22_u16, ix_22_i16, ld_5, k_u8_0, tn_u8_0, ix_202_int, ix_202_u8, ix_202_u16, ix_202_i16, ld_4, call_137, fa_102_0, k_u8_2, tn_u8_2, fa_102_1, k_u8_7, tn_u8_7, fa_102_3, ld_100, len_100, lenS_100, ix_100_int, ix_100_u8, ix_100_u16, ix_100_i16, k_i16_m1, k_u8_8, tn_u8_8, st_4, g1, f1, f2, f4, n1, n2, m1, m2, m3, m4, t0, t3, t4, t5, t6, q, q0, q0', q5, q6, hd0', h2, h7, hel, depB, elB, decide_true, Int.natCast_nonneg, Int.toNat_natCast]
    | refine (hwk _ _).use ?_
    | refine Alloc.mono ?_
    | (refine CondW_intro (fun hc => ?_) (fun hc => ?_) <;> (try simp only [Bool.not_eq_true', Bool.not_eq_false'] at hc) <;> (try simp only [hc]))
    | (refine GrdV_intro (fun hc => ?_) (fun hc => ?_) <;> (try simp only [Bool.not_eq_true', Bool.not_eq_false'] at hc) <;> (try simp only [hc]))
    | (refine GrdL_intro (fun hc => ?_) (fun hc => ?_) <;> (try simp only [Bool.not_eq_true', Bool.not_eq_false'] at hc) <;> (try simp only [hc]))))
      )
    all_goals (
      refine W_loopN (fun m' T G => ∃ (k : Nat) (dep' : Nat → UInt8) (el' : Nat → Bool), BKid N cnt i (below (dep i).toNat (N i)) k dep el dep' el' ∧ m' + k = (N i).nk ∧
          T 0 = ptr tb to ∧ T 3 = ptr b3 0 ∧ T 4 = ptr b4 0 ∧ T 5 = .int .i64 ((words + ownS N (el i) (N i) : Nat)) ∧ T 6 = .int .i64 (i : Nat) ∧ T 8 = .bool (inl (N i)) ∧ T 9 = u8 (if inl (N i) then dep i else dep i + 1) ∧
          T 72 = Value.slice ak (N i).nk ck ∧ T 73 = .int .i64 (N i).nk ∧ T 74 = .int .i64 (k : Nat) ∧ G = upd (upd H b3 (some (depB dep'))) b4 (some (elB el')))
        (fun T G => ∃ (dep' : Nat → UInt8) (el' : Nat → Bool), BKid N cnt i (below (dep i).toNat (N i)) (N i).nk dep el dep' el' ∧
          T 0 = ptr tb to ∧ T 3 = ptr b3 0 ∧ T 4 = ptr b4 0 ∧ T 5 = .int .i64 ((words + ownS N (el i) (N i) : Nat)) ∧ T 6 = .int .i64 (i : Nat) ∧ G = upd (upd H b3 (some (depB dep'))) b4 (some (elB el'))) ?_ (N i).nk _ _ ?_ ?_
      · rintro m' T G ⟨k, dep', el', hK, hmk, t0, t3, t4, t5, t6, t8, t9, t72, t73, t74, rfl⟩
        refine WV_sound _ _ _ _ ?_
        by_cases hlt : k < (N i).nk
        · have r1 : ((k : Int) < ((N i).nk : Int)) = True := eq_true (by omega)
          have r2 : w64 ((k : Int) + 1) = ((k + 1 : Nat) : Int) := by rw [w64_id] <;> omega
          obtain ⟨bk, ok, ek, hkr⟩ := f6.pos (by omega)
          rw [ek] at t72
          have r3 := hkr k hlt
          have m5 := ne_fresh (rd_dom r3) hb3
          have m6 := ne_fresh (rd_dom r3) n3
          by_cases hk1 : (N i).kid k = -1
          · have hk1' : ((N i).kid k == -1) = true := by simp [hk1]
            (repeat' (first
    | simp -implicitDefEqProofs only [WV_seq, WV_cond, WV_block, WV_skip, WV_ret, WV_exit, WV_region, WV_draw, WV_loop, thenQ_normal, thenQ_ret, thenQ_exit, blockQ_normal, blockQ_ret, blockQ_exit, V_nil, V_cons, KV_eq, VL_nil, VL_cons, KL_eq, vcl_zero, vcl_one, vcl_two, isV_same, isV_eq, monoK_eq, dOk, put, gd_none, gd_some, gdst_eq, gdv_some, gdB_true, gdB_false, gdB_undef, ev_const, ev_tmp, lit_i64, lit_i32, lit_bool, lit_pointer, lit_slice, lit_string, CondW_true, CondW_false, GrdV_true, GrdV_false, GrdL_true, GrdL_false, vc_move, vc_assign, vc_load, vc_store, vc_field, vc_indexAddr, vc_index, vc_box, vc_alloc, vc_build, vc_buildSlice, vc_makeSlice, vc_slice, vc_extract, vc_unOp, vc_convert, vc_bin, vc_pick, vc_call, vc_append, vc_len, vc_min, vc_max, vc_copy, vc_clear, pickK_true, pickK_false, stK_eq, not_bool, min_i64, max_i64, min_u16, max_u16, extract_tuple, vc_nil, nilK_ptr, int_add, int_sub, int_mul, int_eql, int_neq, int_lss, int_leq, int_gtr, int_geq, u8_add, u8_sub, u8_mul, u8_eql, u8_neq, u8_lss, u8_leq, u8_gtr, u8_geq, u16_add, u16_sub, u16_mul, u16_eql, u16_neq, u16_lss, u16_leq, u16_gtr, u16_geq, u32_add, u32_sub, u32_mul, u32_eql, u32_neq, u32_lss, u32_leq, u32_gtr, u32_geq, u64_add, u64_sub, u64_mul, u64_eql, u64_neq, u64_lss, u64_leq, u64_gtr, u64_geq, u8_and, u8_or, u8_xor, u8_andNot, u64_and, u64_or, u64_xor, u64_andNot, u8_shl_u8, u8_shl_u16, u8_shl_u64, u32_shl_u8, u32_shl_u16, u32_shl_u64, u64_shl_u8, u64_shl_u16, u64_shl_u64, u8_shr_u8, u8_shr_u16, u8_shr_u64, u64_shr_u8, u64_shr_u16, u64_shr_u64, u16_quo8, u16_rem8, u16_quo64, u16_rem64, u64_quo8, u64_rem8, u64_quo64, u64_rem64, u32_quo8, u32_rem8, u32_quo64, u32_rem64, int_quo2, int_rem2, int_quo8, int_rem8, int_quo64, int_rem64, u64_shrN, u64_shlN, fold64, fold32, i64_shl_u8, i16_eql, i16_neq, i16_lss, i16_geq, Nat.reduceEqDiff, Nat.reduceLT, Nat.reduceAdd, Nat.reduceMul, Nat.reduceSub, ↓reduceIte, if_true, if_false, eq_self, true_and, and_true, Bool.false_eq_true, Bool.not_true, Bool.not_false, reduceCtorEq, upd_get, List.getElem?_toArray, List.getElem?_cons_zero, List.getElem?_cons_succ, Option.bind_some, rdK_some, List.map_toArray, List.map_cons, List.map_nil, rd_upd, rdO_fblk, wrOk_fblk, wrO_fblk, lget_zero, lget_succ, upd_upd, agg_cells, cells_of_list, List.length_cons, List.length_nil, Nat.add_zero, pv_cells, pl_len, pl_0, pl_1, pl_2, pl_3, pl_4, pl_5, pv_fold, pv_eta, ov_eta, opv_eta, ov_cells, ol_len, ov_fold, opv_cells, opl_len, opv_fold, st_pv, st_ov, st_opv, ol_0, ol_1, ol_2, ol_3, ol_4, ol_5, ol_6, ol_7, ol_8, ol_9, opl_0, opl_1, opl_2, opl_3, opl_4, opl_5, opl_6, opl_7, wrsOk_fblk, wrsO_fblk, fblk_all, Nat.reduceLeDiff, Nat.zero_add, rdsK2, rdsK4, rdsK6, rdsK8, rdsK10, wrsK_nil, wrsK_cons, oneCell_u8, oneCell_u16, oneCell_u32, oneCell_u64, oneCell_i16, oneCell_int, oneCell_bool, oneCell_ptr, oneCell_pointer, oneCell_sl, oneCell_slice, oneCell_string, box_eq, List.all_cons, List.all_nil, Bool.and_self, Ex1_eq, Ex1_and, endQ, resH, res_tmp, res_cell, resC_ptr, tupleOf, Fabg.results83, al_201, al_202, fa_25_1, ld_23, ix_201_int, ix_201_u8, ix_201_u16, ix_201_i16, st_5, k_u8_1, tn_u8_1, cv_23_3, fa_25_0, ld_22, len_22, lenS_22, ix_22_int, ix_22_u8, ix_22_u16, ix_22_i16, ld_5, k_u8_0, tn_u8_0, ix_202_int, ix_202_u8, ix_202_u16, ix_202_i16, ld_4, call_137, fa_102_0, k_u8_2, tn_u8_2, fa_102_1, k_u8_7, tn_u8_7, fa_102_3, ld_100, len_100, lenS_100, ix_100_int, ix_100_u8, ix_100_u16, ix_100_i16, k_i16_m1, k_u8_8, tn_u8_8, st_4, n1, n2, m5, m6, t0, t3, t4, t5, t6, t8, t9, t72, t73, t74, r1, r2, r3, hk1', depB, elB, decide_true, Int.natCast_nonneg, Int.toNat_natCast]
    | refine Alloc.mono ?_
    | (refine CondW_intro (fun hc => ?_) (fun hc => ?_) <;> (try simp only [Bool.not_eq_true', Bool.not_eq_false'] at hc) <;> (try simp only [hc]))
    | (refine GrdV_intro (fun hc => ?_) (fun hc => ?_) <;> (try simp only [Bool.not_eq_true', Bool.not_eq_false'] at hc) <;> (try simp only [hc]))
    | (refine GrdL_intro (fun hc => ?_) (fun hc => ?_) <;> (try simp only [Bool.not_eq_true', Bool.not_eq_false'] at hc) <;> (try simp only [hc]))))
            exact ⟨m' - 1, by omega, k + 1, dep', el', hK.null hk1, by omega, ek.symm, rfl, rfl⟩
          have hk1' : ((N i).kid k == -1) = false := by simp [hk1]
          generalize hdd : (if inl (N i) then dep i else dep i + 1) = d at *
          cases h8 : decide (d > 8)
          · have hkid := hab.kid hic hlt hk1
            have hkr2 := (hab i hic k hlt).resolve_left hk1
            have r4 : (0 ≤ ((N i).kid k).toInt) = True := eq_true (by omega)
            have r5 : (((N i).kid k).toInt < 512) = True := eq_true (by omega)
            have r6 : (((N i).kid k).toInt.toNat < 512) = True := eq_true (by omega)
            have r7 : ((N i).kid k).toInt.toNat = kidI (N i) k := rfl
            have r8 : (kidI (N i) k < 512) = True := eq_true (by omega)
            (repeat' (first
    | simp -implicitDefEqProofs only [WV_seq, WV_cond, WV_block, WV_skip, WV_ret, WV_exit, WV_region, WV_draw, WV_loop, thenQ_normal, thenQ_ret, thenQ_exit, blockQ_normal, blockQ_ret, blockQ_exit, V_nil, V_cons, KV_eq, VL_nil, VL_cons, KL_eq, vcl_zero, vcl_one, vcl_two, isV_same, isV_eq, monoK_eq, dOk, put, gd_none, gd_some, gdst_eq, gdv_some, gdB_true, gdB_false, gdB_undef, ev_const, ev_tmp, lit_i64, lit_i32, lit_bool, lit_pointer, lit_slice, lit_string, CondW_true, CondW_false, GrdV_true, GrdV_false, GrdL_true, GrdL_false, vc_move, vc_assign, vc_load, vc_store, vc_field, vc_indexAddr, vc_index, vc_box, vc_alloc, vc_build, vc_buildSlice, vc_makeSlice, vc_slice, vc_extract, vc_unOp, vc_convert, vc_bin, vc_pick, vc_call, vc_append, vc_len, vc_min, vc_max, vc_copy, vc_clear, pickK_true, pickK_false, stK_eq, not_bool, min_i64, max_i64, min_u16, max_u16, extract_tuple, vc_nil, nilK_ptr, int_add, int_sub, int_mul, int_eql, int_neq, int_lss, int_leq, int_gtr, int_geq, u8_add, u8_sub, u8_mul, u8_eql, u8_neq, u8_lss, u8_leq, u8_gtr, u8_geq, u16_add, u16_sub, u16_mul, u16_eql, u16_neq, u16_lss, u16_leq, u16_gtr, u16_geq, u32_add, u32_sub, u32_mul, u32_eql, u32_neq, u32_lss, u32_leq, u32_gtr, u32_geq, u64_add, u64_sub, u64_mul, u64_eql, u64_neq, u64_lss, u64_leq, u64_gtr, u64_geq, u8_and, u8_or, u8_xor, u8_andNot, u64_and, u64_or, u64_xor, u64_andNot, u8_shl_u8, u8_shl_u16, u8_shl_u64, u32_shl_u8, u32_shl_u16, u32_shl_u64, u64_shl_u8, u64_shl_u16, u64_shl_u64, u8_shr_u8, u8_shr_u16, u8_shr_u64, u64_shr_u8, u64_shr_u16, u64_shr_u64, u16_quo8, u16_rem8, u16_quo64, u16_rem64, u64_quo8, u64_rem8, u64_quo64, u64_rem64, u32_quo8, u32_rem8, u32_quo64, u32_rem64, int_quo2, int_rem2, int_quo8, int_rem8, int_quo64, int_rem64, u64_shrN, u64_shlN, fold64, fold32, i64_shl_u8, i16_eql, i16_neq, i16_lss, i16_geq, Nat.reduceEqDiff, Nat.reduceLT, Nat.reduceAdd, Nat.reduceMul, Nat.reduceSub, ↓reduceIte, if_true, if_false, eq_self, true_and, and_true, Bool.false_eq_true, Bool.not_true, Bool.not_false, reduceCtorEq, upd_get, List.getElem?_toArray, List.getElem?_cons_zero, List.getElem?_cons_succ, Option.bind_some, rdK_some, List.map_toArray, List.map_cons, List.map_nil, rd_upd, rdO_fblk, wrOk_fblk, wrO_fblk, lget_zero, lget_succ, upd_upd, agg_cells, cells_of_list, List.length_cons, List.length_nil, Nat.add_zero, pv_cells, pl_len, pl_0, pl_1, pl_2, pl_3, pl_4, pl_5, pv_fold, pv_eta, ov_eta, opv_eta, ov_cells, ol_len, ov_fold, opv_cells, opl_len, opv_fold, st_pv, st_ov, st_opv, ol_0, ol_1, ol_2, ol_3, ol_4, ol_5, ol_6, ol_7, ol_8, ol_9, opl_0, opl_1, opl_2, opl_3, opl_4, opl_5, opl_6, opl_7, wrsOk_fblk, wrsO_fblk, fblk_all, Nat.reduceLeDiff, Nat.zero_add, rdsK2, rdsK4, rdsK6, rdsK8, rdsK10, wrsK_nil, wrsK_cons, oneCell_u8, oneCell_u16, oneCell_u32, oneCell_u64, oneCell_i16, oneCell_int, oneCell_bool, oneCell_ptr, oneCell_pointer, oneCell_sl, oneCell_slice, oneCell_string, box_eq, List.all_cons, List.all_nil, Bool.and_self, Ex1_eq, Ex1_and, endQ, resH, res_tmp, res_cell, resC_ptr, tupleOf, Fabg.results83, al_201, al_202, fa_25_1, ld_23, ix_201_int, ix_201_u8, ix_201_u16, ix_201_i16, st_5, k_u8_1, tn_u8_1, cv_23_3, fa_25_0, ld_22, len_22, lenS_22, ix_22_int, ix_22_u8, ix_22_u16, ix_22_i16, ld_5, k_u8_0, tn_u8_0, ix_202_int, ix_202_u8, ix_202_u16, ix_202_i16, ld_4, call_137, fa_102_0, k_u8_2, tn_u8_2, fa_102_1, k_u8_7, tn_u8_7, fa_102_3, ld_100, len_100, lenS_100, ix_100_int, ix_100_u8, ix_100_u16, ix_100_i16, k_i16_m1, k_u8_8, tn_u8_8, st_4, n1, n2, m5, m6, t0, t3, t4, t5, t6, t8, t9, t72, t73, t74, r1, r2, r3, r4, r5, r7, r8, hk1', h8, u1, upd_u8, upd_bool, depB, elB, decide_true, Int.natCast_nonneg, Int.toNat_natCast]
    | refine Alloc.mono ?_
    | (refine CondW_intro (fun hc => ?_) (fun hc => ?_) <;> (try simp only [Bool.not_eq_true', Bool.not_eq_false'] at hc) <;> (try simp only [hc]))
    | (refine GrdV_intro (fun hc => ?_) (fun hc => ?_) <;> (try simp only [Bool.not_eq_true', Bool.not_eq_false'] at hc) <;> (try simp only [hc]))
    | (refine GrdL_intro (fun hc => ?_) (fun hc => ?_) <;> (try simp only [Bool.not_eq_true', Bool.not_eq_false'] at hc) <;> (try simp only [hc]))))
            have hd8 : d.toNat ≤ 8 := by
              have := of_decide_eq_false h8
              exact UInt8.le_iff_toNat_le.1 (UInt8.not_lt.1 this)
            have hde := hI.eight i
            have hdi : 0 < (dep i).toNat := Nat.pos_of_ne_zero fun e => hd0 (UInt8.toNat_inj.1 e)
            have hb : below (dep i).toNat (N i) = d.toNat := by
              rw [← hdd, below]
              split
              · rfl
              · rw [UInt8.toNat_add]; show _ = ((dep i).toNat + 1) % 256; omega
            rw [hb] at hK
            have hd0 : d ≠ 0 := by
              rw [← hdd]
              split
              · exact hd0
              · intro e
                have := congrArg UInt8.toNat e
                rw [UInt8.toNat_add] at this
                have h1 : (1 : UInt8).toNat = 1 := rfl
                have h0 : (0 : UInt8).toNat = 0 := rfl
                omega
            refine ⟨m' - 1, by omega, k + 1, _, _, hb ▸ hK.next hI ho hrt' hab hic hlt hk1 hd0 hd8, by omega, ek.symm, rfl, rfl⟩
          · (repeat' (first
    | simp -implicitDefEqProofs only [WV_seq, WV_cond, WV_block, WV_skip, WV_ret, WV_exit, WV_region, WV_draw, WV_loop, thenQ_normal, thenQ_ret, thenQ_exit, blockQ_normal, blockQ_ret, blockQ_exit, V_nil, V_cons, KV_eq, VL_nil, VL_cons, KL_eq, vcl_zero, vcl_one, vcl_two, isV_same, isV_eq, monoK_eq, dOk, put, gd_none, gd_some, gdst_eq, gdv_some, gdB_true, gdB_false, gdB_undef, ev_const, ev_tmp, lit_i64, lit_i32, lit_bool, lit_pointer, lit_slice, lit_string, CondW_true, CondW_false, GrdV_true, GrdV_false, GrdL_true, GrdL_false, vc_move, vc_assign, vc_load, vc_store, vc_field, vc_indexAddr, vc_index, vc_box, vc_alloc, vc_build, vc_buildSlice, vc_makeSlice, vc_slice, vc_extract, vc_unOp, vc_convert, vc_bin, vc_pick, vc_call, vc_append, vc_len, vc_min, vc_max, vc_copy, vc_clear, pickK_true, pickK_false, stK_eq, not_bool, min_i64, max_i64, min_u16, max_u16, extract_tuple, vc_nil, nilK_ptr, int_add, int_sub, int_mul, int_eql, int_neq, int_lss, int_leq, int_gtr, int_geq, u8_add, u8_sub, u8_mul, u8_eql, u8_neq, u8_lss, u8_leq, u8_gtr, u8_geq, u16_add, u16_sub, u16_mul, u16_eql, u16_neq, u16_lss, u16_leq, u16_gtr, u16_geq, u32_add, u32_sub, u32_mul, u32_eql, u32_neq, u32_lss, u32_leq, u32_gtr, u32_geq, u64_add, u64_sub, u64_mul, u64_eql, u64_neq, u64_lss, u64_leq, u64_gtr, u64_geq, u8_and, u8_or, u8_xor, u8_andNot, u64_and, u64_or, u64_xor, u64_andNot, u8_shl_u8, u8_shl_u16, u8_shl_u64, u32_shl_u8, u32_shl_u16, u32_shl_u64, u64_shl_u8, u64_shl_u16, u64_shl_u64, u8_shr_u8, u8_shr_u16, u8_shr_u64, u64_shr_u8, u64_shr_u16, u64_shr_u64, u16_quo8, u16_rem8, u16_quo64, u16_rem64, u64_quo8, u64_rem8, u64_quo64, u64_rem64, u32_quo8, u32_rem8, u32_quo64, u32_rem64, int_quo2, int_rem2, int_quo8, int_rem8, int_quo64, int_rem64, u64_shrN, u64_shlN, fold64, fold32, i64_shl_u8, i16_eql, i16_neq, i16_lss, i16_geq, Nat.reduceEqDiff, Nat.reduceLT, Nat.reduceAdd, Nat.reduceMul, Nat.reduceSub, ↓reduceIte, if_true, if_false, eq_self, true_and, and_true, Bool.false_eq_true, Bool.not_true, Bool.not_false, reduceCtorEq, upd_get, List.getElem?_toArray, List.getElem?_cons_zero, List.getElem?_cons_succ, Option.bind_some, rdK_some, List.map_toArray, List.map_cons, List.map_nil, rd_upd, rdO_fblk, wrOk_fblk, wrO_fblk, lget_zero, lget_succ, upd_upd, agg_cells, cells_of_list, List.length_cons, List.length_nil, Nat.add_zero, pv_cells, pl_len, pl_0, pl_1, pl_2, pl_3, pl_4, pl_5, pv_fold, pv_eta, ov_eta, opv_eta, ov_cells, ol_len, ov_fold, opv_cells, opl_len, opv_fold, st_pv, st_ov, st_opv, ol_0, ol_1, ol_2, ol_3, ol_4, ol_5, ol_6, ol_7, ol_8, ol_9, opl_0, opl_1, opl_2, opl_3, opl_4, opl_5, opl_6, opl_7, wrsOk_fblk, wrsO_fblk, fblk_all, Nat.reduceLeDiff, Nat.zero_add, rdsK2, rdsK4, rdsK6, rdsK8, rdsK10, wrsK_nil, wrsK_cons, oneCell_u8, oneCell_u16, oneCell_u32, oneCell_u64, oneCell_i16, oneCell_int, oneCell_bool, oneCell_ptr, oneCell_pointer, oneCell_sl, oneCell_slice, oneCell_string, box_eq, List.all_cons, List.all_nil, Bool.and_self, Ex1_eq, Ex1_and, endQ, resH, res_tmp, res_cell, resC_ptr, tupleOf, Fabg.results83, al_201, al_202, fa_25_1, ld_23, ix_201_int, ix_201_u8, ix_201_u16, ix_201_i16, st_5, k_u8_1, tn_u8_1, cv_23_3, fa_25_0, ld_22, len_22, lenS_22, ix_22_int, ix_22_u8, ix_22_u16, ix_22_i16, ld_5, k_u8_0, tn_u8_0, ix_202_int, ix_202_u8, ix_202_u16, ix_202_i16, ld_4, call_137, fa_102_0, k_u8_2, tn_u8_2, fa_102_1, k_u8_7, tn_u8_7, fa_102_3, ld_100, len_100, lenS_100, ix_100_int, ix_100_u8, ix_100_u16, ix_100_i16, k_i16_m1, k_u8_8, tn_u8_8, st_4, n1, n2, m5, m6, t0, t3, t4, t5, t6, t8, t9, t72, t73, t74, r1, r2, r3, hk1', h8, depB, elB, decide_true, Int.natCast_nonneg, Int.toNat_natCast]
    | refine Alloc.mono ?_
    | (refine CondW_intro (fun hc => ?_) (fun hc => ?_) <;> (try simp only [Bool.not_eq_true', Bool.not_eq_false'] at hc) <;> (try simp only [hc]))
    | (refine GrdV_intro (fun hc => ?_) (fun hc => ?_) <;> (try simp only [Bool.not_eq_true', Bool.not_eq_false'] at hc) <;> (try simp only [hc]))
    | (refine GrdL_intro (fun hc => ?_) (fun hc => ?_) <;> (try simp only [Bool.not_eq_true', Bool.not_eq_false'] at hc) <;> (try simp only [hc]))))
            exact ⟨H, hle _ _, ⟨false, rfl, by simp⟩, rfl⟩
        · have r1 : decide ((k : Int) < ((N i).nk : Int)) = false := decide_eq_false (by omega)
          have e : k = (N i).nk := by omega
          subst e
          (repeat' (first
    | simp -implicitDefEqProofs only [WV_seq, WV_cond, WV_block, WV_skip, WV_ret, WV_exit, WV_region, WV_draw, WV_loop, thenQ_normal, thenQ_ret, thenQ_exit, blockQ_normal, blockQ_ret, blockQ_exit, V_nil, V_cons, KV_eq, VL_nil, VL_cons, KL_eq, vcl_zero, vcl_one, vcl_two, isV_same, isV_eq, monoK_eq, dOk, put, gd_none, gd_some, gdst_eq, gdv_some, gdB_true, gdB_false, gdB_undef, ev_const, ev_tmp, lit_i64, lit_i32, lit_bool, lit_pointer, lit_slice, lit_string, CondW_true, CondW_false, GrdV_true, GrdV_false, GrdL_true, GrdL_false, vc_move, vc_assign, vc_load, vc_store, vc_field, vc_indexAddr, vc_index, vc_box, vc_alloc, vc_build, vc_buildSlice, vc_makeSlice, vc_slice, vc_extract, vc_unOp, vc_convert, vc_bin, vc_pick, vc_call, vc_append, vc_len, vc_min, vc_max, vc_copy, vc_clear, pickK_true, pickK_false, stK_eq, not_bool, min_i64, max_i64, min_u16, max_u16, extract_tuple, vc_nil, nilK_ptr, int_add, int_sub, int_mul, int_eql, int_neq, int_lss, int_leq, int_gtr, int_geq, u8_add, u8_sub, u8_mul, u8_eql, u8_neq, u8_lss, u8_leq, u8_gtr, u8_geq, u16_add, u16_sub, u16_mul, u16_eql, u16_neq, u16_lss, u16_leq, u16_gtr, u16_geq, u32_add, u32_sub, u32_mul, u32_eql, u32_neq, u32_lss, u32_leq, u32_gtr, u32_geq, u64_add, u64_sub, u64_mul, u64_eql, u64_neq, u64_lss, u64_leq, u64_gtr, u64_geq, u8_and, u8_or, u8_xor, u8_andNot, u64_and, u64_or, u64_xor, u64_andNot, u8_shl_u8, u8_shl_u16, u8_shl_u64, u32_shl_u8, u32_shl_u16, u32_shl_u64, u64_shl_u8, u64_shl_u16, u64_shl_u64, u8_shr_u8, u8_shr_u16, u8_shr_u64, u64_shr_u8, u64_shr_u16, u64_shr_u64, u16_quo8, u16_rem8, u16_quo64, u16_rem64, u64_quo8, u64_rem8, u64_quo64, u64_rem64, u32_quo8, u32_rem8, u32_quo64, u32_rem64, int_quo2, int_rem2, int_quo8, int_rem8, int_quo64, int_rem64, u64_shrN, u64_shlN, fold64, fold32, i64_shl_u8, i16_eql, i16_neq, i16_lss, i16_geq, Nat.reduceEqDiff, Nat.reduceLT, Nat.reduceAdd, Nat.reduceMul, Nat.reduceSub, ↓reduceIte, if_true, if_false, eq_self, true_and, and_true, Bool.false_eq_true, Bool.not_true, Bool.not_false, reduceCtorEq, upd_get, List.getElem?_toArray, List.getElem?_cons_zero, List.getElem?_cons_succ, Option.bind_some, rdK_some, List.map_toArray, List.map_cons, List.map_nil, rd_upd, rdO_fblk, wrOk_fblk, wrO_fblk, lget_zero, lget_succ, upd_upd, agg_cells, cells_of_list, List.length_cons, List.length_nil, Nat.add_zero, pv_cells, pl_len, pl_0, pl_1, pl_2, pl_3, pl_4, pl_5, pv_fold, pv_eta, ov_eta, opv_eta, ov_cells, ol_len, ov_fold, opv_cells, opl_len, opv_fold, st_pv, st_ov, st_opv, ol_0, ol_1, ol_2, ol_3, ol_4, ol_5, ol_6, ol_7, ol_8, ol_9, opl_0, opl_1, opl_2, opl_3, opl_4, opl_5, opl_6, opl_7, wrsOk_fblk, wrsO_fblk, fblk_all, Nat.reduceLeDiff, Nat.zero_add, rdsK2, rdsK4, rdsK6, rdsK8, rdsK10, wrsK_nil, wrsK_cons, oneCell_u8, oneCell_u16, oneCell_u32, oneCell_u64, oneCell_i16, oneCell_int, oneCell_bool, oneCell_ptr, oneCell_pointer, oneCell_sl, oneCell_slice, oneCell_string, box_eq, List.all_cons, List.all_nil, Bool.and_self, Ex1_eq, Ex1_and, endQ, resH, res_tmp, res_cell, resC_ptr, tupleOf, Fabg.results83, al_201, al_202, fa_25_1, ld_23, ix_201_int, ix_201_u8, ix_201_u16, ix_201_i16, st_5, k_u8_1, tn_u8_1, cv_23_3, fa_25_0, ld_22, len_22, lenS_22, ix_22_int, ix_22_u8, ix_22_u16, ix_22_i16, ld_5, k_u8_0, tn_u8_0, ix_202_int, ix_202_u8, ix_202_u16, ix_202_i16, ld_4, call_137, fa_102_0, k_u8_2, tn_u8_2, fa_102_1, k_u8_7, tn_u8_7, fa_102_3, ld_100, len_100, lenS_100, ix_100_int, ix_100_u8, ix_100_u16, ix_100_i16, k_i16_m1, k_u8_8, tn_u8_8, st_4, t0, t3, t4, t5, t6, t72, t73, t74, r1]
    | refine Alloc.mono ?_
    | (refine CondW_intro (fun hc => ?_) (fun hc => ?_) <;> (try simp only [Bool.not_eq_true', Bool.not_eq_false'] at hc) <;> (try simp only [hc]))
    | (refine GrdV_intro (fun hc => ?_) (fun hc => ?_) <;> (try simp only [Bool.not_eq_true', Bool.not_eq_false'] at hc) <;> (try simp only [hc]))
    | (refine GrdL_intro (fun hc => ?_) (fun hc => ?_) <;> (try simp only [Bool.not_eq_true', Bool.not_eq_false'] at hc) <;> (try simp only [hc]))))
          exact ⟨dep', el', hK, rfl⟩
      · refine ⟨0, dep, el, .start hI.eight, by omega, ?_, ?_, ?_, ?_, ?_, ?_, ?_, ?_, ?_, ?_, rfl⟩
        all_goals simp [upd_get, t0, t3, t4, t5, t6, inl, h2, h7, ownS, hel]
      · rintro T G ⟨dep', el', hK, t0, t3, t4, t5, t6, rfl⟩
        (repeat' (first
    | simp -implicitDefEqProofs only [WV_seq, WV_cond, WV_block, WV_skip, WV_ret, WV_exit, WV_region, WV_draw, WV_loop, thenQ_normal, thenQ_ret, thenQ_exit, blockQ_normal, blockQ_ret, blockQ_exit, V_nil, V_cons, KV_eq, VL_nil, VL_cons, KL_eq, vcl_zero, vcl_one, vcl_two, isV_same, isV_eq, monoK_eq, dOk, put, gd_none, gd_some, gdst_eq, gdv_some, gdB_true, gdB_false, gdB_undef, ev_const, ev_tmp, lit_i64, lit_i32, lit_bool, lit_pointer, lit_slice, lit_string, CondW_true, CondW_false, GrdV_true, GrdV_false, GrdL_true, GrdL_false, vc_move, vc_assign, vc_load, vc_store, vc_field, vc_indexAddr, vc_index, vc_box, vc_alloc, vc_build, vc_buildSlice, vc_makeSlice, vc_slice, vc_extract, vc_unOp, vc_convert, vc_bin, vc_pick, vc_call, vc_append, vc_len, vc_min, vc_max, vc_copy, vc_clear, pickK_true, pickK_false, stK_eq, not_bool, min_i64, max_i64, min_u16, max_u16, extract_tuple, vc_nil, nilK_ptr, int_add, int_sub, int_mul, int_eql, int_neq, int_lss, int_leq, int_gtr, int_geq, u8_add, u8_sub, u8_mul, u8_eql, u8_neq, u8_lss, u8_leq, u8_gtr, u8_geq, u16_add, u16_sub, u16_mul, u16_eql, u16_neq, u16_lss, u16_leq, u16_gtr, u16_geq, u32_add, u32_sub, u32_mul, u32_eql, u32_neq, u32_lss, u32_leq, u32_gtr, u32_geq, u64_add, u64_sub, u64_mul, u64_eql, u64_neq, u64_lss, u64_leq, u64_gtr, u64_geq, u8_and, u8_or, u8_xor, u8_andNot, u64_and, u64_or, u64_xor, u64_andNot, u8_shl_u8, u8_shl_u16, u8_shl_u64, u32_shl_u8, u32_shl_u16, u32_shl_u64, u64_shl_u8, u64_shl_u16, u64_shl_u64, u8_shr_u8, u8_shr_u16, u8_shr_u64, u64_shr_u8, u64_shr_u16, u64_shr_u64, u16_quo8, u16_rem8, u16_quo64, u16_rem64, u64_quo8, u64_rem8, u64_quo64, u64_rem64, u32_quo8, u32_rem8, u32_quo64, u32_rem64, int_quo2, int_rem2, int_quo8, int_rem8, int_quo64, int_rem64, u64_shrN, u64_shlN, fold64, fold32, i64_shl_u8, i16_eql, i16_neq, i16_lss, i16_geq, Nat.reduceEqDiff, Nat.reduceLT, Nat.reduceAdd, Nat.reduceMul, Nat.reduceSub, ↓reduceIte, if_true, if_false, eq_self, true_and, and_true, Bool.false_eq_true, Bool.not_true, Bool.not_false, reduceCtorEq, upd_get, List.getElem?_toArray, List.getElem?_cons_zero, List.getElem?_cons_succ, Option.bind_some, rdK_some, List.map_toArray, List.map_cons, List.map_nil, rd_upd, rdO_fblk, wrOk_fblk, wrO_fblk, lget_zero, lget_succ, upd_upd, agg_cells, cells_of_list, List.length_cons, List.length_nil, Nat.add_zero, pv_cells, pl_len, pl_0, pl_1, pl_2, pl_3, pl_4, pl_5, pv_fold, pv_eta, ov_eta, opv_eta, ov_cells, ol_len, ov_fold, opv_cells, opl_len, opv_fold, st_pv, st_ov, st_opv, ol_0, ol_1, ol_2, ol_3, ol_4, ol_5, ol_6, ol_7, ol_8, ol_9, opl_0, opl_1, opl_2, opl_3, opl_4, opl_5, opl_6, opl_7, wrsOk_fblk, wrsO_fblk, fblk_all, Nat.reduceLeDiff, Nat.zero_add, rdsK2, rdsK4, rdsK6, rdsK8, rdsK10, wrsK_nil, wrsK_cons, oneCell_u8, oneCell_u16, oneCell_u32, oneCell_u64, oneCell_i16, oneCell_int, oneCell_bool, oneCell_ptr, oneCell_pointer, oneCell_sl, oneCell_slice, oneCell_string, box_eq, List.all_cons, List.all_nil, Bool.and_self, Ex1_eq, Ex1_and, endQ, resH, res_tmp, res_cell, resC_ptr, tupleOf, Fabg.results83, al_201, al_202, fa_25_1, ld_23, ix_201_int, ix_201_u8, ix_201_u16, ix_201_i16, st_5, k_u8_1, tn_u8_1, cv_23_3, fa_25_0, ld_22, len_22, lenS_22, ix_22_int, ix_22_u8, ix_22_u16, ix_22_i16, ld_5, k_u8_0, tn_u8_0, ix_202_int, ix_202_u8, ix_202_u16, ix_202_i16, ld_4, call_137, fa_102_0, k_u8_2, tn_u8_2, fa_102_1, k_u8_7, tn_u8_7, fa_102_3, ld_100, len_100, lenS_100, ix_100_int, ix_100_u8, ix_100_u16, ix_100_i16, k_i16_m1, k_u8_8, tn_u8_8, st_4, t0, t3, t4, t5, t6, q5]
    | refine Alloc.mono ?_
    | (refine CondW_intro (fun hc => ?_) (fun hc => ?_) <;> (try simp only [Bool.not_eq_true', Bool.not_eq_false'] at hc) <;> (try simp only [hc]))
    | (refine GrdV_intro (fun hc => ?_) (fun hc => ?_) <;> (try simp only [Bool.not_eq_true', Bool.not_eq_false'] at hc) <;> (try simp only [hc]))
    | (refine GrdL_intro (fun hc => ?_) (fun hc => ?_) <;> (try simp only [Bool.not_eq_true', Bool.not_eq_false'] at hc) <;> (try simp only [hc]))))
        exact ⟨m - 1, by omega, i + 1, dep', el', _, aC + 1, hI.next hs hic hd0 hK, by omega, rfl, rfl, rfl⟩)
  · refine ⟨rt, upd (fun _ => 0) rt 1, fun _ => false, 1, 0, ⟨?_, ?_, ?_, ?_, ?_, ?_, ?_⟩, by omega, by simp [upd_get], by simp [upd_get], by simp [upd_get], by simp [upd_get], by simp [upd_get, hrt'], ?_⟩
    · rw [pend_start _ _ _ (by omega)]
    · rw [pend_start _ _ _ (by omega)]; omega
    · omega
    · intro h
      have := h rt (Nat.le_refl _) (by omega) (by rw [upd_same]; decide)
      rw [upd_same] at this
      exact this
    · intro c hc
      by_cases e : c = rt
      · exact .inl e
      · rw [upd_ne _ _ _ _ e] at hc; exact absurd rfl hc
    · intro c
      rw [upd_get]; split <;> decide
    · omega
    · unfold depB elB
      rw [← upd_u8]
  · rintro T G ⟨dep, el, words, aC, hI, t5, rfl⟩
    have h256 : decide ((words : Int) ≤ 256) = decide (words ≤ 256) := by rw [decide_eq_decide]; omega
    (repeat' (first
    | simp -implicitDefEqProofs only [WV_seq, WV_cond, WV_block, WV_skip, WV_ret, WV_exit, WV_region, WV_draw, WV_loop, thenQ_normal, thenQ_ret, thenQ_exit, blockQ_normal, blockQ_ret, blockQ_exit, V_nil, V_cons, KV_eq, VL_nil, VL_cons, KL_eq, vcl_zero, vcl_one, vcl_two, isV_same, isV_eq, monoK_eq, dOk, put, gd_none, gd_some, gdst_eq, gdv_some, gdB_true, gdB_false, gdB_undef, ev_const, ev_tmp, lit_i64, lit_i32, lit_bool, lit_pointer, lit_slice, lit_string, CondW_true, CondW_false, GrdV_true, GrdV_false, GrdL_true, GrdL_false, vc_move, vc_assign, vc_load, vc_store, vc_field, vc_indexAddr, vc_index, vc_box, vc_alloc, vc_build, vc_buildSlice, vc_makeSlice, vc_slice, vc_extract, vc_unOp, vc_convert, vc_bin, vc_pick, vc_call, vc_append, vc_len, vc_min, vc_max, vc_copy, vc_clear, pickK_true, pickK_false, stK_eq, not_bool, min_i64, max_i64, min_u16, max_u16, extract_tuple, vc_nil, nilK_ptr, int_add, int_sub, int_mul, int_eql, int_neq, int_lss, int_leq, int_gtr, int_geq, u8_add, u8_sub, u8_mul, u8_eql, u8_neq, u8_lss, u8_leq, u8_gtr, u8_geq, u16_add, u16_sub, u16_mul, u16_eql, u16_neq, u16_lss, u16_leq, u16_gtr, u16_geq, u32_add, u32_sub, u32_mul, u32_eql, u32_neq, u32_lss, u32_leq, u32_gtr, u32_geq, u64_add, u64_sub, u64_mul, u64_eql, u64_neq, u64_lss, u64_leq, u64_gtr, u64_geq, u8_and, u8_or, u8_xor, u8_andNot, u64_and, u64_or, u64_xor, u64_andNot, u8_shl_u8, u8_shl_u16, u8_shl_u64, u32_shl_u8, u32_shl_u16, u32_shl_u64, u64_shl_u8, u64_shl_u16, u64_shl_u64, u8_shr_u8, u8_shr_u16, u8_shr_u64, u64_shr_u8, u64_shr_u16, u64_shr_u64, u16_quo8, u16_rem8, u16_quo64, u16_rem64, u64_quo8, u64_rem8, u64_quo64, u64_rem64, u32_quo8, u32_rem8, u32_quo64, u32_rem64, int_quo2, int_rem2, int_quo8, int_rem8, int_quo64, int_rem64, u64_shrN, u64_shlN, fold64, fold32, i64_shl_u8, i16_eql, i16_neq, i16_lss, i16_geq, Nat.reduceEqDiff, Nat.reduceLT, Nat.reduceAdd, Nat.reduceMul, Nat.reduceSub, ↓reduceIte, if_true, if_false, eq_self, true_and, and_true, Bool.false_eq_true, Bool.not_true, Bool.not_false, reduceCtorEq, upd_get, List.getElem?_toArray, List.getElem?_cons_zero, List.getElem?_cons_succ, Option.bind_some, rdK_some, List.map_toArray, List.map_cons, List.map_nil, rd_upd, rdO_fblk, wrOk_fblk, wrO_fblk, lget_zero, lget_succ, upd_upd, agg_cells, cells_of_list, List.length_cons, List.length_nil, Nat.add_zero, pv_cells, pl_len, pl_0, pl_1, pl_2, pl_3, pl_4, pl_5, pv_fold, pv_eta, ov_eta, opv_eta, ov_cells, ol_len, ov_fold, opv_cells, opl_len, opv_fold, st_pv, st_ov, st_opv, ol_0, ol_1, ol_2, ol_3, ol_4, ol_5, ol_6, ol_7, ol_8, ol_9, opl_0, opl_1, opl_2, opl_3, opl_4, opl_5, opl_6, opl_7, wrsOk_fblk, wrsO_fblk, fblk_all, Nat.reduceLeDiff, Nat.zero_add, rdsK2, rdsK4, rdsK6, rdsK8, rdsK10, wrsK_nil, wrsK_cons, oneCell_u8, oneCell_u16, oneCell_u32, oneCell_u64, oneCell_i16, oneCell_int, oneCell_bool, oneCell_ptr, oneCell_pointer, oneCell_sl, oneCell_slice, oneCell_string, box_eq, List.all_cons, List.all_nil, Bool.and_self, Ex1_eq, Ex1_and, endQ, resH, res_tmp, res_cell, resC_ptr, tupleOf, Fabg.results83, al_201, al_202, fa_25_1, ld_23, ix_201_int, ix_201_u8, ix_201_u16, ix_201_i16, st_5, k_u8_1, tn_u8_1, cv_23_3, fa_25_0, ld_22, len_22, lenS_22, ix_22_int, ix_22_u8, ix_22_u16, ix_22_i16, ld_5, k_u8_0, tn_u8_0, ix_202_int, ix_202_u8, ix_202_u16, ix_202_i16, ld_4, call_137, fa_102_0, k_u8_2, tn_u8_2, fa_102_1, k_u8_7, tn_u8_7, fa_102_3, ld_100, len_100, lenS_100, ix_100_int, ix_100_u8, ix_100_u16, ix_100_i16, k_i16_m1, k_u8_8, tn_u8_8, st_4, t5, h256]
    | refine Alloc.mono ?_
    | (refine CondW_intro (fun hc => ?_) (fun hc => ?_) <;> (try simp only [Bool.not_eq_true', Bool.not_eq_false'] at hc) <;> (try simp only [hc]))
    | (refine GrdV_intro (fun hc => ?_) (fun hc => ?_) <;> (try simp only [Bool.not_eq_true', Bool.not_eq_false'] at hc) <;> (try simp only [hc]))
    | (refine GrdL_intro (fun hc => ?_) (fun hc => ?_) <;> (try simp only [Bool.not_eq_true', Bool.not_eq_false'] at hc) <;> (try simp only [hc]))))
    refine ⟨H, hle _ _, ⟨_, rfl, fun hv => ?_⟩, rfl⟩
    have hsz := hI.size
    have hct := hI.count
    rw [pend_end] at hsz hct
    have := hI.le
    have hw := of_decide_eq_true hv
    refine ⟨by rw [hrt]; omega, by rw [hrt]; omega, by rw [hrt]; exact hI.deep (fun j h1 h2 => by omega)⟩
end Eng
end Go.Proofs.Ygcfab
