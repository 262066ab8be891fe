/-
  Package edit: a word of data is set; what passes Check passes it again.
-/
import Derived.Test.YgcfabEp4
set_option linter.unusedSimpArgs false
set_option linter.unusedVariables false
set_option maxRecDepth 100000
namespace Go.Proofs.Ygcfab
namespace Eng
section
variable {S S' : Ed}
theorem chain_congr (hc : S.cnt ≤ S'.cnt) (ho : ∀ k, k < S.cnt → (S'.O k).up = (S.O k).up ∧ (S'.O k).elem = (S.O k).elem) : ∀ (n : Nat) (h : Int), Ends S n h → Ends S' n h ∧ depN S' n h = depN S n h
  | 0, h, e => ⟨e, rfl⟩
  | n + 1, h, e => by
    by_cases h0 : h ≤ 0
    · exact ⟨.inl h0, by rw [depN_s, depN_s, if_pos h0, if_pos h0]⟩
    rcases e with e | ⟨e1, e2⟩
    · exact absurd e h0
    obtain ⟨a1, a2⟩ := ho h.toNat (by omega)
    have hu : upI S' h = upI S h := by unfold upI; rw [a1]
    have hd : stepD S' h = stepD S h := by unfold stepD; rw [a2]
    obtain ⟨i1, i2⟩ := chain_congr hc ho n _ e2
    exact ⟨.inr ⟨by omega, by rw [hu]; exact i1⟩, by rw [depN_s, depN_s, if_neg h0, if_neg h0, hu, hd, i2]⟩
theorem ElemOf.congr {k u : Nat} (h : ElemOf S k u) (hc : S.cnt ≤ S'.cnt) (hk : S'.O k = S.O k) (hu : S'.O u = S.O u) : ElemOf S' k u := by
  have h1 := h.lt
  refine ⟨by rw [hk]; exact h.up, h.pos, by omega, by rw [hu]; exact h.live, by rw [hu]; exact h.top, by rw [hu]; exact h.str, by rw [hk, hu]; exact h.via, by rw [hk]; exact h.at_, by rw [hk, hu]; exact h.p⟩
theorem listOk_iff (S : Ed) (k : Nat) (p : Ptr) : listOk S k p = true ↔ k + p.count.toNat < S.cnt ∧ (0 < p.count.toNat → 0 < p.data.toNat + p.ptrs.toNat) ∧
    ∀ j, j < p.count.toNat → (S.O (k + 1 + j)).dead = false ∧ (S.O (k + 1 + j)).elem = true ∧ (S.O (k + 1 + j)).up.toInt = (k : Int) ∧ (S.O (k + 1 + j)).via.toUInt16 = UInt16.ofNat j ∧ (S.O (k + 1 + j)).p = elemP p j := by
  unfold listOk
  rw [Bool.and_eq_true, Bool.and_eq_true, allTo_iff, decide_eq_true_eq, and_assoc]
  have e1 : (!(decide (p.count > 0) && (p.data.toUInt16 + p.ptrs.toUInt16 == 0))) = true ↔ (0 < p.count.toNat → 0 < p.data.toNat + p.ptrs.toNat) := by
    have e := each_nat p
    unfold eachL at e
    have ez : (p.data.toUInt16 + p.ptrs.toUInt16 == 0) = true ↔ p.data.toNat + p.ptrs.toNat = 0 := by
      rw [beq_iff_eq, ← UInt16.toNat_inj, e]
      exact Iff.rfl
    rw [Bool.not_eq_true', Bool.and_eq_false_iff, decide_eq_false_iff_not, gt_iff_lt, UInt16.lt_iff_toNat_lt, show (0 : UInt16).toNat = 0 from rfl, ← Bool.not_eq_true, ez]
    omega
  have e2 : ∀ j, elemOk S k p j = true ↔ (S.O (k + 1 + j)).dead = false ∧ (S.O (k + 1 + j)).elem = true ∧ (S.O (k + 1 + j)).up.toInt = (k : Int) ∧ (S.O (k + 1 + j)).via.toUInt16 = UInt16.ofNat j ∧ (S.O (k + 1 + j)).p = elemP p j := by
    intro j
    unfold elemOk
    simp only [Bool.and_eq_true, Bool.not_eq_true', beq_iff_eq, Ptr.beq_iff, and_assoc]
  rw [e1]
  simp only [e2]
theorem listOk.congr {k : Nat} {p : Ptr} (h : listOk S k p = true) (hc : S.cnt ≤ S'.cnt) (hk : ∀ j, j < p.count.toNat → S'.O (k + 1 + j) = S.O (k + 1 + j)) : listOk S' k p = true := by
  rw [listOk_iff] at h ⊢
  refine ⟨by omega, h.2.1, fun j hj => ?_⟩
  rw [hk j hj]
  exact h.2.2 j hj
theorem bytes_sz {p : Ptr} (h1 : 2 ≤ p.code.toNat) (h2 : p.code.toNat ≤ 5) : bytesL p = p.count.toNat * 2 ^ (p.code.toNat - 2) := by
  unfold bytesL
  rw [← width_nat _ h1 h2, UInt8.ofNat_toNat]
theorem bytes_no {p : Ptr} (h : ¬ (2 ≤ p.code.toNat ∧ p.code.toNat ≤ 5)) : bytesL p = 0 := by
  have := elSize_zero h
  unfold elSize at this
  unfold bytesL
  have e := congrArg UInt16.toNat this
  rw [UInt8.toNat_toUInt16] at e
  rw [e]
  rfl
theorem pad_cov {len : Nat} {p : Ptr} (hl : len ≤ 256) (hin : insideL len p = true) (hk : p.kind = 2) (hs : strB p = false) (hb : bytesL p % 8 ≠ 0) : covers p (p.at_.toNat + bytesL p / 8) := by
  have hc : 2 ≤ p.code.toNat ∧ p.code.toNat ≤ 5 := by
    refine Decidable.byContradiction fun c => ?_
    rw [bytes_no c] at hb
    exact hb rfl
  obtain ⟨_, hh⟩ := (inside_iff len p hl).1 hin
  have h7 : p.code ≠ 7 := code7 (by omega)
  rw [if_neg (fun h => h7 h.2)] at hh
  obtain ⟨w1, w2, w3, w4⟩ := words_ok' hk h7 (by omega)
  unfold covers
  rw [firstL_no hs, w4, li_words, if_neg (by omega)]
  rw [bytes_sz hc.1 hc.2] at hb ⊢
  omega
theorem whole_iff {p : Ptr} (hl : S.len ≤ 256) (hin : insideL S.len p = true) : wholeB S p = true ↔ (strB p = true → S.A (firstL p).toNat = makeTagL p.count p.data p.ptrs) ∧
    (p.kind = 2 → strB p = false → bytesL p % 8 ≠ 0 → shr64 (S.A (p.at_.toNat + bytesL p / 8)) (bytesL p % 8 * 8) = 0) := by
  unfold wholeB
  by_cases hk : p.kind = 2
  · have hk' : (p.kind == 2) = true := by rw [hk]; rfl
    rw [if_pos hk']
    cases c : strB p
    · simp only [Bool.false_eq_true, if_false, false_implies, true_and, hk, forall_const]
      unfold paddedL
      rw [if_neg (by rw [hk]; simp)]
      by_cases hb : bytesL p % 8 = 0
      · rw [if_pos hb]
        simp [hb]
      · rw [if_neg hb]
        have := (pad_cov hl hin hk c hb)
        have hr : (firstL p).toNat + (wordsL p).toNat ≤ S.len := by
          obtain ⟨_, hh⟩ := (inside_iff S.len p hl).1 hin
          rw [if_neg (fun h => by rw [(strB_iff _).2 h] at c; cases c)] at hh
          rw [firstL_no c]; exact hh.1
        rw [decide_eq_true (by have := this.2; omega)]
        simp [hb]
    · simp only [if_true, beq_iff_eq, forall_const, Bool.true_eq_false, false_implies, implies_true, and_true]
      rw [firstL_str c]
  · have hk' : ¬ (p.kind == 2) = true := by rw [beq_iff_eq]; exact hk
    rw [if_neg hk']
    have hs : strB p = true → False := fun h => hk ((strB_iff p).1 h).1
    simp only [true_iff]
    exact ⟨fun h => (hs h).elim, fun h => absurd h hk⟩
theorem str_cov {p : Ptr} (h : strB p = true) : covers p (firstL p).toNat := by
  have := words7 ((strB_iff p).1 h).1 ((strB_iff p).1 h).2
  unfold covers
  omega
theorem whole_congr {p : Ptr} (hl : S.len ≤ 256) (hl' : S'.len ≤ 256) (hin : insideL S.len p = true) (hin' : insideL S'.len p = true) (hA : ∀ i, covers p i → S'.A i = S.A i) (h : wholeB S p = true) : wholeB S' p = true := by
  rw [whole_iff hl hin] at h
  rw [whole_iff hl' hin']
  refine ⟨fun hs => ?_, fun hk hs hb => ?_⟩
  · rw [hA _ (str_cov hs)]; exact h.1 hs
  · rw [hA _ (pad_cov hl hin hk hs hb)]; exact h.2 hk hs hb
/-- the tag and the padding of a list stand in words of its own that are no pointers -/
theorem Gd.keep (g : Gd S) {k : Nat} (ht : Tp S k) (hl' : S'.len ≤ 256) (hin' : insideL S'.len (S.O k).p = true) (hA : ∀ i, part S k i → (∀ v, ¬ Sl (S.O k).p v i) → S'.A i = S.A i) : wholeB S' (S.O k).p = true := by
  have h1 := (whole_iff g.len.2 (g.inside k ht)).1 (g.whole k ht)
  rw [whole_iff hl' hin']
  refine ⟨fun hs => ?_, fun hk hs hb => ?_⟩
  · rw [hA _ (by unfold part; rw [if_pos hs]) (fun v hv => by rw [sl_kind hv] at hs; cases hs)]; exact h1.1 hs
  · have hc := pad_cov g.len.2 (g.inside k ht) hk hs hb
    rw [hA _ (by unfold part; rw [hs, if_neg (by simp)]; exact hc) ?_]
    · exact h1.2 hk hs hb
    · rintro v (⟨h, _⟩ | ⟨_, h, _⟩)
      · rw [hk] at h; exact absurd h (by decide)
      · have e6 : (6 : UInt8).toNat = 6 := rfl
        rw [bytes_no (by rw [h]; omega)] at hb
        exact hb rfl
theorem Gd.setA (g : Gd S) {h : Nat} (hl : Lv S h) (A' : Nat → UInt64) (hA : ∀ i, A' i = S.A i ∨ (part S h i ∧ ∀ v, ¬ Sl (S.O h).p v i))
    (hw : Tp S h → wholeB { S with A := A' } (S.O h).p = true) : Gd { S with A := A' } := by
  refine ⟨g.len, g.cnt, g.first, g.inside, g.kind, g.up, g.apart, ?_, g.list, ?_, g.orph, ?_, g.inj, ?_, ?_, ?_⟩
  · intro k hk hl he
    obtain ⟨u, hu⟩ := g.elem k hk hl he
    exact ⟨u, hu.congr (Nat.le_refl _) rfl rfl⟩
  · intro k ht
    have ht' : Tp S k := ht
    by_cases e : k = h
    · subst e; exact hw ht'
    · refine g.keep (S' := ⟨A', S.len, S.O, S.cnt⟩) ht' g.len.2 (g.inside k ht') (fun i hi _ => ?_)
      rcases hA i with h | h
      · exact h
      · exact absurd (g.pinj ht'.lv hl hi h.1) e
  · intro k u ht hu hc
    have ht' : Tp S k := ht
    obtain ⟨i, h1, h2, h3⟩ := g.hang k u ht' hu hc
    refine ⟨i, h1, ?_, h3⟩
    show A' i = _
    rcases hA i with h | h
    · rw [h, h2]
    · obtain ⟨u', hu', hl'⟩ := g.up_cases ht' (hs_ne hu (g.c256 hc))
      have e := hs_inj hu hu' (g.c256 hc) (g.c256 hl'.1)
      subst e
      have e2 := g.pinj hl' hl (g.sl hl' h1).2.1 h.1
      subst e2
      exact absurd h1 (h.2 _)
  · intro k ht
    obtain ⟨n, e1, e2⟩ := g.shal k ht
    obtain ⟨i1, i2⟩ := chain_congr (S := S) (S' := { S with A := A' }) (Nat.le_refl _) (fun _ _ => ⟨rfl, rfl⟩) n _ e1
    exact ⟨n, i1, by rw [i2]; exact e2⟩
  · intro i hi h0
    have h0' : A' i ≠ 0 := h0
    rcases hA i with h | h
    · rw [h] at h0'
      exact g.own i hi h0'
    · rcases g.pcases hl h.1 with ⟨_, h⟩ | ⟨ht, hc⟩ | ⟨u, hu, hc, _⟩
      · exact .inl h
      · exact .inr ⟨_, ht, hc⟩
      · exact .inr ⟨u, hu.tp, hc⟩
  · intro i h' v hl' hsl h0
    have hl'' : Lv S h' := hl'
    have hsl' : Sl (S.O h').p v i := hsl
    have h0' : A' i ≠ 0 := h0
    rcases hA i with h | h
    · rw [h] at h0'
      exact g.slot i h' v hl'' hsl' h0'
    · have e2 := g.pinj hl'' hl (g.sl hl'' hsl').2.1 h.1
      subst e2
      exact absurd hsl' (h.2 v)
theorem Gd.setA1 (g : Gd S) {h at_ : Nat} (hl : Lv S h) (hp : part S h at_) (hns : ∀ v, ¬ Sl (S.O h).p v at_) (A' : Nat → UInt64) (hA : ∀ i, i ≠ at_ → A' i = S.A i)
    (hw : Tp S h → wholeB { S with A := A' } (S.O h).p = true) : Gd { S with A := A' } := by
  refine g.setA hl A' (fun i => ?_) hw
  by_cases e : i = at_
  · subst e; exact .inr ⟨hp, hns⟩
  · exact .inl (hA i e)
theorem Gd.setData (g : Gd S) (op : OpR) (hl : Lv S op.h.toNat) : Gd (setDataE S op).2 := by
  unfold setDataE
  split
  · rename_i hd
    obtain ⟨hk, j, hj, e⟩ := g.data hl op hd
    obtain ⟨q1, q2, q3, q4, q5, q6⟩ := g.st hl hk
    refine g.setA1 (h := op.h.toNat) (at_ := (dataAt (S.O op.h.toNat).p op).toNat) hl ?_ ?_ _ (fun i hi => upd_ne _ _ _ _ hi) ?_
    · unfold part covers
      rw [q6, if_neg (by simp), q5, q4]
      omega
    · rintro v (⟨_, h2, h3⟩ | ⟨h1, _⟩)
      · omega
      · rw [hk] at h1; exact absurd h1 (by decide)
    · intro ht
      refine Iff.mpr (whole_iff (by exact g.len.2) (by exact g.inside _ ht)) ⟨fun h => ?_, fun h => ?_⟩
      · rw [q6] at h; cases h
      · rw [hk] at h; exact absurd h (by decide)
  · exact g
theorem pad_put (w v : UInt64) (a n : UInt8) (m : Nat) (hm : a.toNat + n.toNat ≤ m) (hm' : m < 64) (h : shr64 w m = 0) : shr64 (putL w v a n) m = 0 := by
  unfold putL
  split
  · rw [eq_zero_iff] at h ⊢
    intro i hi
    have hw := h i hi
    rw [bitU_shr] at hw ⊢
    rw [bitU_or, bitU_and, hw, bitU_shl, bitU_and]
    have : bitU (maskL n) (m + i - a.toNat) = false := by
      unfold bitU
      rw [maskL_toNat n (by omega), Nat.testBit_two_pow_sub_one]
      exact decide_eq_false (by omega)
    rw [this]
    simp
  · exact h
theorem Gd.setElem (g : Gd S) (op : OpR) (hl : Lv S op.h.toNat) : Gd (setElemE S op).2 := by
  unfold setElemE
  split
  · rename_i hd
    obtain ⟨ht, hk, c2, c5, hn, e, hw⟩ := g.elt hl op hd
    obtain ⟨w1, w2, w3, w4, w5, w6, w7, w8⟩ := g.li ht hk (code7 (by omega))
    have hs : strB (S.O op.h.toNat).p = false := by
      cases c : strB (S.O op.h.toNat).p
      · rfl
      · exact absurd ((strB_iff _).1 c).2 (code7 (by omega))
    refine g.setA1 (h := op.h.toNat) (at_ := (elAt (S.O op.h.toNat).p op).toNat) hl ?_ ?_ _ (fun i hi => upd_ne _ _ _ _ hi) ?_
    · unfold part covers
      rw [hs, if_neg (by simp), w8]
      omega
    · rintro v (⟨h1, _⟩ | ⟨_, h1, _⟩)
      · rw [hk] at h1; exact absurd h1 (by decide)
      · rw [h1] at c5; exact absurd c5 (by decide)
    · intro _
      refine Iff.mpr (whole_iff (by exact g.len.2) (by exact g.inside _ ht)) ⟨fun h => ?_, fun _ _ hb => ?_⟩
      · rw [hs] at h; cases h
      · have h1 := ((whole_iff g.len.2 (g.inside _ ht)).1 (g.whole _ ht)).2 hk hs hb
        show shr64 (upd S.A _ _ _) _ = 0
        by_cases ew : (S.O op.h.toNat).p.at_.toNat + bytesL (S.O op.h.toNat).p / 8 = (elAt (S.O op.h.toNat).p op).toNat
        · rw [ew] at h1 ⊢
          rw [upd_same]
          refine pad_put _ _ _ _ _ ?_ (by omega) h1
          rw [e] at ew
          rw [bytes_sz c2 c5] at ew hb ⊢
          have hz := elSize_nat c2 c5
          have hmm := mul_sz (n := op.n.toNat) c2 c5 (by omega)
          have h2 : (op.n.toNat + 1) * 2 ^ ((S.O op.h.toNat).p.code.toNat - 2) ≤ (S.O op.h.toNat).p.count.toNat * 2 ^ ((S.O op.h.toNat).p.code.toNat - 2) := Nat.mul_le_mul_right _ (by omega)
          rw [Nat.add_mul, Nat.one_mul] at h2
          have e8 : (8 : UInt16).toNat = 8 := rfl
          rw [UInt16.toNat_toUInt8, UInt16.toNat_toUInt8, UInt16.toNat_mul, UInt16.toNat_mul, UInt16.toNat_mod, UInt16.toNat_mul, hz, e8]
          rcases pow8 _ c2 c5 with h8 | h8 | h8 | h8 <;> rw [h8] at hmm h2 ew hb ⊢ <;> omega
        · rw [upd_ne _ _ _ _ ew]; exact h1
  · exact g
end
end Eng
end Go.Proofs.Ygcfab
