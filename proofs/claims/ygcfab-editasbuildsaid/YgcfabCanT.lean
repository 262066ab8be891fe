/-
  What Canon sees of the tree that Norm makes.
-/
import Derived.Test.YgcfabCanM
import Derived.Test.YgcfabNorm2
set_option linter.unusedSimpArgs false
set_option linter.unusedVariables false
namespace Go.Proofs.Ygcfab
namespace Eng

theorem sumK_tail {g : Nat → Nat} {m : Nat} : ∀ a, m ≤ a → (∀ j, m ≤ j → j < a → g j = 0) → sumK g a = sumK g m
  | 0, h, _ => by rw [Nat.le_zero.1 h]
  | a + 1, h, hz => by
    by_cases e : m = a + 1
    · rw [e]
    · rw [sumK, sumK_tail a (by omega) (fun j h1 h2 => hz j h1 (by omega)), hz a (by omega) (by omega)]; rfl
theorem sumK_ext {g h : Nat → Nat} {a b : Nat} (h1 : ∀ j, j < a → j < b → g j = h j) (h2 : ∀ j, b ≤ j → j < a → g j = 0) (h3 : ∀ j, a ≤ j → j < b → h j = 0) : sumK g a = sumK h b := by
  by_cases e : a ≤ b
  · rw [sumK_tail (g := h) b e h3]
    exact sumK_congr a (fun j hj => h1 j hj (by omega))
  · rw [sumK_tail (g := g) a (m := b) (by omega) h2]
    exact sumK_congr b (fun j hj => h1 j (by omega) hj)
theorem ofNat_toInt (k : Nat) (h : k < 32768) : (Int16.ofNat k).toInt = (k : Int) := by
  rw [Int16.toInt_ofNat']
  rw [Int.bmod_def]
  have e : (Int16.size : Int) = 65536 := rfl
  simp only [e]
  omega
theorem ofNat_ne (k : Nat) (h : k < 32768) : Int16.ofNat k ≠ -1 := by
  intro e
  have := congrArg Int16.toInt e
  rw [ofNat_toInt k h] at this
  have e2 : (-1 : Int16).toInt = -1 := rfl
  omega

section
variable {N : Nat → NodeL} {cntN rt cnt : Nat} {T : Nat → NodeL} {fr : Nat → Nat} {el : Nat → Bool} {D P : Nat → Nat}
theorem kidT (h : NInv N cntN rt cnt cnt T fr el D P) (hc : cnt ≤ 512) {q j : Nat} (hq : q < cnt) (hj : j < (T q).nk) (hk : (T q).kid j ≠ -1) :
    ∃ k, (T q).kid j = Int16.ofNat k ∧ ((T q).kid j).toInt = (k : Int) ∧ q < k ∧ k < cnt ∧ fr k = kidI (N (fr q)) j ∧ el k = inl (N (fr q)) ∧ j < (N (fr q)).nk ∧ (N (fr q)).kid j ≠ -1 ∧
      (inl (N (fr q)) = true → D k = (evenL N (N (fr q))).1 ∧ P k = (evenL N (N (fr q))).2) := by
  have hr := h.rel q hq
  rw [hr.nk] at hj
  rcases hr.kid j hj with ⟨h1, k, h2, h3, h4, h5, h6, h7⟩ | ⟨_, h2⟩
  · exact ⟨k, h2, by rw [h2]; exact ofNat_toInt k (by omega), h3, h4, h5, h6, h1.1, h1.2, h7⟩
  · exact absurd h2 hk
theorem kidT' (h : NInv N cntN rt cnt cnt T fr el D P) (hc : cnt ≤ 512) {q j : Nat} (hq : q < cnt) (hj : j < (T q).nk) (hjn : j < (N (fr q)).nk) (hk : (N (fr q)).kid j ≠ -1) : (T q).kid j ≠ -1 := by
  have hr := h.rel q hq
  rw [hr.nk] at hj
  rcases hr.kid j hj with ⟨h1, k, h2, h3, h4, h5, h6, h7⟩ | ⟨h1, _⟩
  · rw [h2]; exact ofNat_ne k (by omega)
  · exact absurd ⟨hjn, hk⟩ h1
theorem kids_sum (h : NInv N cntN rt cnt cnt T fr el D P) (hs : ShapedAll N cntN) (hc : cnt ≤ 512) {q : Nat} (hq : q < cnt) :
    sumK (kw (fun q => sizeW N cntN (el q) (fr q)) (T q)) (T q).nk = sumK (kidW (sizeW N cntN) (N (fr q))) (N (fr q)).nk := by
  have hr := h.rel q hq
  have hp := h.pnd q hq
  apply sumK_ext
  · intro j hj hjn
    unfold kw kidW
    by_cases hk : (N (fr q)).kid j = -1
    · rw [if_pos hk]
      have : (T q).kid j = -1 := by
        refine Decidable.byContradiction fun hne => ?_
        obtain ⟨k, _, _, _, _, _, _, _, h8, _⟩ := kidT h hc hq hj hne
        exact h8 hk
      rw [if_pos this]
    · rw [if_neg hk, if_neg (kidT' h hc hq hj hjn hk)]
      obtain ⟨k, h1, h2, h3, h4, h5, h6, _⟩ := kidT h hc hq hj (kidT' h hc hq hj hjn hk)
      have e : kidI (T q) j = k := by unfold kidI; rw [h2]; omega
      simp only [e, h5, h6]
  · intro j h1 h2
    unfold kw
    rw [if_pos]
    refine Decidable.byContradiction fun hne => ?_
    obtain ⟨k, _, _, _, _, _, _, h7, _⟩ := kidT h hc hq h2 hne
    omega
  · intro j h1 h2
    unfold kidW
    rw [if_pos]
    refine Decidable.byContradiction fun hne => ?_
    rw [hr.nk] at h1
    by_cases hk1 : (N (fr q)).kind = 1
    · have := (hp.str hk1).2.2.1
      have := trimK_cover _ _ j h2 hne
      omega
    · have h2k : (N (fr q)).kind = 2 := by
        rcases (hs _ hp.inr).shape with h3 | h3
        · exact absurd h3.1 hk1
        · exact h3.1
      have := (hr.lst h2k).2
      omega
theorem ct_of (h : NInv N cntN rt cnt cnt T fr el D P) (hs : ShapedAll N cntN) (hc : cnt ≤ 512) :
    CT T cnt (fun q => el q = false) (fun q => sizeW N cntN (el q) (fr q)) (fun q dd => deep N cntN (fr q) dd) := by
  have ha := hs.above
  refine ⟨fun q hel hq => ?_⟩
  have hr := h.rel q hq
  have hp := h.pnd q hq
  have hsh := hs _ hp.inr
  have hsum := kids_sum h hs hc hq
  have hW : sizeW N cntN (el q) (fr q) = wordsN N (N (fr q)) + sumK (kidW (sizeW N cntN) (N (fr q))) (N (fr q)).nk := by
    have := wt_eq (ownS N) ha (el q) (fr q) hp.inr
    rw [hel] at this ⊢
    exact this
  have hkid : inl (N (fr q)) = false → ∀ j, j < (T q).nk → (T q).kid j ≠ -1 → KidO cnt (fun q => el q = false) (fun q dd => deep N cntN (fr q) dd) q ((T q).kid j) := by
    intro hin j hj hk
    obtain ⟨k, h1, h2, h3, h4, h5, h6, h7, h8, _⟩ := kidT h hc hq hj hk
    have e : ((T q).kid j).toInt.toNat = k := by rw [h2]; omega
    refine ⟨by rw [e]; show el k = false; rw [h6]; exact hin, by omega, by omega, by omega, fun dd hdd => ?_⟩
    have := deep_kid ha hp.inr hdd h7 h8
    rw [e]
    show dd + 1 ≤ 8 ∧ deep N cntN (fr k) (dd + 1)
    rw [h5]
    unfold below at this
    rw [hin] at this
    exact this
  rcases hsh.shape with ⟨s1, s2, s3, s4⟩ | ⟨s1, s2, s3, s4⟩
  · left
    have hin : inl (N (fr q)) = false := by unfold inl; rw [s1]; rfl
    have hst := hp.str s1
    have hst2 := hst.2.2.2.2 hel
    refine ⟨by rw [hr.kind, s1], by rw [hr.nd]; omega, by rw [hr.nk]; omega, ?_, hkid hin⟩
    rw [hsum, hW, hr.nd, hr.nk, hst2.1, hst2.2]
    unfold wordsN
    rw [if_pos s1]
  · have hl := hr.lst s1
    have n1 : (T q).kind ≠ 1 := by rw [hr.kind, s1]; decide
    have n1' : ¬ (N (fr q)).kind = 1 := by rw [s1]; decide
    rcases s4 with ⟨t1, t2, t3, t4⟩ | ⟨t1, t2⟩ | ⟨t1, t2, t3⟩
    · right; right; right
      refine ⟨n1, by rw [hr.code]; exact t1, by rw [hr.code]; exact t2, by rw [hr.nd]; omega, ?_, ?_⟩
      · intro j hj
        rw [hr.nd] at hj
        rw [hr.dat j hj, if_pos (by omega), hr.code]
        exact t4 j (by omega)
      · rw [hW, t3, hr.nd, hr.code, hl.1]
        unfold wordsN
        rw [if_neg n1', if_neg (by intro e; rw [e] at t2; exact absurd t2 (by decide)), if_neg (by intro e; rw [e] at t2; exact absurd t2 (by decide))]
        simp only [sumK]; omega
    · right; left
      have hin : inl (N (fr q)) = false := by unfold inl; rw [t1]; simp
      refine ⟨n1, by rw [hr.code]; exact t1, by rw [hr.nd]; omega, by rw [hr.nk]; omega, ?_, hkid hin⟩
      rw [hsum, hW, hr.nk, hl.2]
      unfold wordsN
      rw [if_neg n1', if_pos t1]
    · right; right; left
      have hin : inl (N (fr q)) = true := by unfold inl; rw [s1, t1]; rfl
      have hnk : (T q).nk = (N (fr q)).nk := by rw [hr.nk, hl.2]
      have hkk : ∀ j, j < (T q).nk → ∃ k, (T q).kid j = Int16.ofNat k ∧ ((T q).kid j).toInt = (k : Int) ∧ q < k ∧ k < cnt ∧ fr k = kidI (N (fr q)) j ∧ el k = true ∧ kidN T (T q) j = T k ∧
          (T k).nd = (evenL N (N (fr q))).1 ∧ (T k).nk = (evenL N (N (fr q))).2 ∧ (N (fr k)).kind = 1 := by
        intro j hj
        have h7 := t3 j (by omega)
        obtain ⟨k, h1, h2, h3, h4, h5, h6, _, _, h9⟩ := kidT h hc hq hj (kidT' h hc hq hj (by omega) h7.1)
        have h9 := h9 hin
        refine ⟨k, h1, h2, h3, h4, h5, by rw [h6, hin], ?_, by rw [(h.rel k h4).nd]; exact h9.1, by rw [(h.rel k h4).nk]; exact h9.2, by rw [h5]; exact h7.2⟩
        unfold kidN; rw [h2]; rfl
      have h8 : (evenL N (N (fr q))).1 ≤ 8 ∧ (evenL N (N (fr q))).2 ≤ 8 := evenL_le N (N (fr q)) (fun j hj => by
        have h7 := t3 j hj
        exact (hs _ (ha.kid hp.inr hj h7.1).2).struct h7.2)
      have hfD : firD T (T q) = if 0 < (T q).nk then (evenL N (N (fr q))).1 else 0 := by
        unfold firD
        split
        · rename_i h0
          obtain ⟨k, _, _, _, _, _, _, h7, h8, _⟩ := hkk 0 h0
          rw [h7, h8]
        · rfl
      have hfP : firP T (T q) = if 0 < (T q).nk then (evenL N (N (fr q))).2 else 0 := by
        unfold firP
        split
        · rename_i h0
          obtain ⟨k, _, _, _, _, _, _, h7, _, h8, _⟩ := hkk 0 h0
          rw [h7, h8]
        · rfl
      refine ⟨n1, by rw [hr.code]; exact t1, by omega, by rw [hfD]; split <;> omega, by rw [hfP]; split <;> omega, ?_, ?_, ?_, ?_⟩
      · intro h0
        rw [hfD, hfP, if_pos h0, if_pos h0]
        exact evenL_pos N _ (by omega)
      · intro j hj
        obtain ⟨k, h1, h2, h3, h4, h5, h6, h7, h9, h10, _⟩ := hkk j hj
        have h0 : 0 < (T q).nk := by omega
        refine ⟨by omega, by unfold kidI; omega, ?_, ?_⟩
        · rw [h7, hfD, if_pos h0, h9]
        · rw [h7, hfP, if_pos h0, h10]
      · rw [hW, hnk]
        unfold wordsN
        rw [if_neg n1', if_neg (by rw [t1]; decide), if_pos t1]
        congr 1
        · rw [hfD, hfP]
          by_cases h0 : 0 < (T q).nk
          · rw [if_pos h0, if_pos h0]
          · have : (N (fr q)).nk = 0 := by omega
            rw [this]; simp
        · apply sumK_congr
          intro j hj
          obtain ⟨k, h1, h2, h3, h4, h5, h6, h7, h9, h10, h11⟩ := hkk j (by omega)
          have h12 := t3 j hj
          unfold kidW
          rw [if_neg h12.1, hin, h7, kids_sum h hs hc h4, h5]
          have := wt_eq (ownS N) ha true (kidI (N (fr q)) j) (ha.kid hp.inr hj h12.1).2
          show wt (ownS N) N cntN true _ = _
          rw [this]
          simp only [ownS, if_true, Nat.zero_add]
          rfl
      · intro i hi j hj hk
        obtain ⟨k, h1, h2, h3, h4, h5, h6, h7, h9, h10, h11⟩ := hkk i hi
        rw [h7] at hj hk ⊢
        obtain ⟨k', g1, g2, g3, g4, g5, g6, g7, g8, _⟩ := kidT h hc h4 hj hk
        have e : ((T k).kid j).toInt.toNat = k' := by rw [g2]; omega
        have hin' : inl (N (fr k)) = false := by unfold inl; rw [h11]; rfl
        refine ⟨by rw [e]; show el k' = false; rw [g6]; exact hin', by omega, by omega, by omega, fun dd hdd => ?_⟩
        have h12 := t3 i (by omega)
        have d1 := deep_kid ha hp.inr hdd (by omega) h12.1
        unfold below at d1
        rw [hin] at d1
        simp only [if_true] at d1
        rw [← h5] at d1
        have d2 := deep_kid ha (h.pnd k h4).inr d1.2 g7 g8
        unfold below at d2
        rw [hin'] at d2
        rw [e]
        show dd + 1 ≤ 8 ∧ deep N cntN (fr k') (dd + 1)
        rw [g5]
        exact d2
end
/-- the whole run of Canon's machine over what Norm makes -/
theorem canon_run {N : Nat → NodeL} {cntN : Nat} {root : Int16} {cnt : Nat} {T : Nat → NodeL} {fr : Nat → Nat} {el : Nat → Bool} {D P : Nat → Nat} (hg : GoodT N cntN root) (hr : root ≠ -1) (h : NInv N cntN root.toInt.toNat cnt cnt T fr el D P) :
    ∃ m A len, ReachN T cnt m ⟨fun _ => 0, 1, [(0, 0)]⟩ ⟨A, len, []⟩ ∧ 1 ≤ len ∧ len ≤ 256 ∧ Sub A 8 0 1 len := by
  have hb := hg.bound hr
  have hc : cnt ≤ 512 := by have := h.cnt_le hg.shaped.above; have := hb.count; have := hg.few; omega
  have hT := ct_of h hg.shaped hc
  have h0 := h.base
  have hone := h.one
  have hW : sizeW N cntN (el 0) (fr 0) ≤ 255 := by rw [h0.1, h0.2]; exact hb.size
  obtain ⟨S', ⟨m, g1⟩, g2, g3, g4, g5⟩ := bigC hT cnt 0 1 h0.2 (by show 0 < cnt; omega) (by decide) (by omega) (by show deep N cntN (fr 0) 1; rw [h0.1]; exact hb.deep) (by omega) ⟨fun _ => 0, 1, [(0, 0)]⟩ 0 [] rfl (by simp) (by simp) (by
    show 1 + sizeW N cntN (el 0) (fr 0) ≤ 256
    omega)
  have e : S' = ⟨S'.A, S'.len, []⟩ := by cases S'; simp only at g2; rw [g2]
  have g3' : S'.len = 1 + sizeW N cntN (el 0) (fr 0) := g3
  exact ⟨m, S'.A, S'.len, by rw [← e]; exact g1, by omega, by omega, g5⟩
end Eng
end Go.Proofs.Ygcfab
