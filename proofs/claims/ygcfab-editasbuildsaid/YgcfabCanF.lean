/-
  What Resolve lets by lies inside the arena.
-/
import Derived.Test.YgcfabCanV
set_option linter.unusedSimpArgs false
set_option linter.unusedVariables false
namespace Go.Proofs.Ygcfab
namespace Eng

theorem spans_true {len : Nat} {to n : Int} (hl : len ≤ 256) (h : spansL len 1 to n = true) (hn : 0 < n) (hn' : n < 1073741824) (ht : -1073741824 ≤ to ∧ to < 1073741824) : 1 ≤ to ∧ to + n ≤ (len : Int) := by
  unfold spansL at h
  rw [if_neg (by omega), w32_id (x := to + n) (by omega) (by omega), w32_id (x := (len : Int)) (by omega) (by omega)] at h
  have e : (1 : UInt16).toNat = 1 := rfl
  simp only [Bool.and_eq_true, decide_eq_true_eq] at h
  omega
theorem sections_le (w : UInt64) (h : (sectionsL w).2.2 = true) : (sectionsL w).1.toNat ≤ 8 ∧ (sectionsL w).2.1.toNat ≤ 8 := by
  unfold sectionsL at *
  split at h
  · simp at h
  · rename_i hc
    rw [if_neg hc]
    simp only [gt_iff_lt, UInt64.lt_iff_toNat_lt] at hc
    have e : (8 : UInt64).toNat = 8 := rfl
    simp only [UInt64.toNat_toUInt8]
    omega
theorem toU16_of {x : Int} (h0 : 0 ≤ x) (h1 : x < 65536) : (toU16 x).toNat = x.toNat := by
  unfold toU16
  rw [UInt16.toNat_ofNat']
  omega
theorem claimFits (A : Nat → UInt64) (len : Nat) : ClaimFits A len := by
  intro at_ h hw
  by_cases hg : (len : Int) > 256 ∨ (at_.toNat : Int) ≥ (len : Int)
  · unfold resolveL at h; rw [if_pos hg] at h; simp at h
  have hl : len ≤ 256 := by omega
  have e0 : resolveL A len at_ = resolveWordL A len (A at_.toNat) (at_ + 1) 1 := by unfold resolveL; rw [if_neg hg]
  rw [e0] at h hw ⊢
  generalize A at_.toNat = w at *
  have hb : (at_ + 1).toNat < 65536 := UInt16.toNat_lt _
  generalize at_ + 1 = base at *
  unfold resolveWordL at *
  rw [if_neg (show ¬ (len : Int) > 256 by omega)] at h hw ⊢
  by_cases hw0 : w = 0
  · rw [if_pos hw0] at hw
    exact absurd hw (by decide)
  rw [if_neg hw0] at h hw ⊢
  simp only [] at h hw ⊢
  have hs := sign30 w
  have hto : -1073741824 ≤ w32 ((base.toNat : Int) + w32 (signL (shr64 w 2) 30)) ∧ w32 ((base.toNat : Int) + w32 (signL (shr64 w 2) 30)) < 1073741824 := by
    rw [w32_id (x := signL (shr64 w 2) 30) (by omega) (by omega), w32_id (by omega) (by omega)]
    omega
  generalize w32 ((base.toNat : Int) + w32 (signL (shr64 w 2) 30)) = to at *
  by_cases c0 : takeL w 0 2 = 0
  · rw [if_pos c0] at h hw ⊢
    by_cases c1 : (sectionsL w).2.2 = false ∨ spansL len 1 to (w32 (((sectionsL w).1.toNat : Int) + ((sectionsL w).2.1.toNat : Int))) = false
    · rw [if_pos c1] at h; simp at h
    rw [if_neg c1] at hw ⊢
    simp only [not_or, Bool.not_eq_false] at c1
    obtain ⟨c1, c2⟩ := c1
    have hle := sections_le w c1
    generalize hd : (sectionsL w).1 = d at *
    generalize hp : (sectionsL w).2.1 = p at *
    rw [w32_id (by omega) (by omega)] at c2
    have hz : sizedL ⟨1, toU16 to, d, p, 0, 0⟩ = true := by
      unfold sizedL
      have h1 : d ≤ 8 := by rw [UInt8.le_iff_toNat_le]; exact hle.1
      have h2 : p ≤ 8 := by rw [UInt8.le_iff_toNat_le]; exact hle.2
      simp [h1, h2]
    have hwd : (wordsL ⟨1, toU16 to, d, p, 0, 0⟩).toNat = d.toNat + p.toNat := by
      have e : wordsL ⟨1, toU16 to, d, p, 0, 0⟩ = d.toUInt16 + p.toUInt16 := by
        unfold wordsL
        exact (if_neg (show ¬ (1 : UInt8) = 0 by decide)).trans (if_pos ⟨rfl, hz⟩)
      rw [e, UInt16.toNat_add, UInt8.toNat_toUInt16, UInt8.toNat_toUInt16]
      omega
    simp only [] at hw ⊢
    rw [hwd] at hw ⊢
    have := spans_true hl c2 (by omega) (by omega) hto
    have hf : (firstL ⟨1, toU16 to, d, p, 0, 0⟩).toNat = to.toNat := by
      unfold firstL
      rw [if_neg (by simp)]
      exact toU16_of (by omega) (by omega)
    rw [hf]
    omega
  rw [if_neg c0] at h hw ⊢
  by_cases c1 : takeL w 0 2 = 1
  · rw [if_pos c1] at h hw ⊢
    have hn29 := take_lt w 35 29
    have e29 : (2 : Nat) ^ (29 : UInt8).toNat = 536870912 := by decide
    rw [e29] at hn29
    have hnn : w32 ((takeL w 35 29).toNat : Int) = ((takeL w 35 29).toNat : Int) := w32_id (by omega) (by omega)
    rw [hnn] at h hw ⊢
    generalize (takeL w 35 29).toNat = n at *
    by_cases c7 : (takeL w 32 3).toUInt8 = 7
    · rw [if_pos c7] at h hw ⊢
      unfold structsL at *
      have e1 : w32 ((n : Int) + 1) = (n : Int) + 1 := w32_id (by omega) (by omega)
      rw [e1] at h hw ⊢
      by_cases s0 : spansL len 1 to ((n : Int) + 1) = true
      · rw [if_pos s0] at h hw ⊢
        have hsp := spans_true hl s0 (by omega) (by omega) hto
        simp only [] at h hw ⊢
        generalize A to.toNat = tag at *
        by_cases g1 : (sectionsL tag).2.2 = false ∨ takeL tag 0 2 ≠ 0 ∨ takeL tag 2 30 > 128
        · rw [if_pos g1] at h; simp at h
        rw [if_neg g1] at h hw ⊢
        simp only [not_or, Bool.not_eq_false] at g1
        have hle := sections_le tag g1.1
        have hcn : (takeL tag 2 30).toNat ≤ 128 := by
          have := g1.2.2
          rw [gt_iff_lt, UInt64.lt_iff_toNat_lt] at this
          have e : (128 : UInt64).toNat = 128 := rfl
          omega
        generalize (sectionsL tag).1 = d at *
        generalize (sectionsL tag).2.1 = p at *
        generalize takeL tag 2 30 = cn at *
        have he : w32 ((d.toNat : Int) + (p.toNat : Int)) = ((d.toNat + p.toNat : Nat) : Int) := by rw [w32_id (by omega) (by omega)]; omega
        rw [he] at h hw ⊢
        have hmle : cn.toNat * (d.toNat + p.toNat) ≤ 128 * 16 := Nat.mul_le_mul hcn (by omega)
        have hmul : w32 (w32 (cn.toNat : Int) * ((d.toNat + p.toNat : Nat) : Int)) = ((cn.toNat * (d.toNat + p.toNat) : Nat) : Int) := by
          rw [w32_id (x := (cn.toNat : Int)) (by omega) (by omega), ← Int.natCast_mul, w32_id (by omega) (by omega)]
        rw [hmul] at h hw ⊢
        by_cases g2 : (((d.toNat + p.toNat : Nat) : Int) = 0 ∧ cn ≠ 0) ∨ ((cn.toNat * (d.toNat + p.toNat) : Nat) : Int) ≠ (n : Int)
        · rw [if_pos g2] at h; simp at h
        rw [if_neg g2] at hw ⊢
        simp only [] at hw ⊢
        simp only [not_or, Decidable.not_not] at g2
        have hn : cn.toNat * (d.toNat + p.toNat) = n := by omega
        have hct : (cn.toUInt16).toNat = cn.toNat := by rw [UInt64.toNat_toUInt16]; omega
        have hwd : (wordsL ⟨2, toU16 (w32 (to + 1)), d, p, 7, cn.toUInt16⟩).toNat ≤ 1 + n := by
          have hz : sizedL ⟨2, toU16 (w32 (to + 1)), d, p, 7, cn.toUInt16⟩ = true := by
            unfold sizedL
            have h1 : d ≤ 8 := by rw [UInt8.le_iff_toNat_le]; exact hle.1
            have h2 : p ≤ 8 := by rw [UInt8.le_iff_toNat_le]; exact hle.2
            simp [h1, h2]
          unfold wordsL
          have c1 : ¬ ((2 : UInt8) ≠ 2 ∨ cn.toUInt16 > 128) := by
            simp only [gt_iff_lt, UInt16.lt_iff_toNat_lt, hct]
            have : (128 : UInt16).toNat = 128 := rfl
            simp; omega
          simp only [if_neg c1]
          rw [if_neg (by decide), if_neg (by simp), if_neg (by decide), if_neg (by decide), if_pos ⟨trivial, hz⟩]
          have e : 1 + cn.toUInt16 * eachL ⟨2, toU16 (w32 (to + 1)), d, p, 7, cn.toUInt16⟩ = UInt16.ofNat (1 + n) := by
            apply eq16
            unfold eachL
            rw [UInt16.toNat_add, UInt16.toNat_mul, UInt16.toNat_add, UInt8.toNat_toUInt16, UInt8.toNat_toUInt16, hct]
            have : (1 : UInt16).toNat = 1 := rfl
            rw [Nat.mod_eq_of_lt (a := d.toNat + p.toNat) (by omega), hn]
            omega
          have e2 : (257 : UInt16) = UInt16.ofNat 257 := rfl
          rw [e, e2, min16 (by omega) (by omega), tn16 (by omega)]
          omega
        have hf : (firstL ⟨2, toU16 (w32 (to + 1)), d, p, 7, cn.toUInt16⟩).toNat = to.toNat := by
          unfold firstL
          simp only []
          rw [if_pos ⟨trivial, trivial⟩, w32_id (by omega) (by omega)]
          have h1 : (toU16 (to + 1)).toNat = (to + 1).toNat := toU16_of (by omega) (by omega)
          rw [UInt16.toNat_sub_of_le, h1]
          · have : (1 : UInt16).toNat = 1 := rfl
            omega
          · rw [UInt16.le_iff_toNat_le, h1]
            have : (1 : UInt16).toNat = 1 := rfl
            omega
        rw [hf]
        omega
      · rw [if_neg s0] at h; simp at h
    · rw [if_neg c7] at h hw ⊢
      unfold plainL at *
      by_cases g1 : (takeL w 32 3).toUInt8 < 2 ∨ (takeL w 32 3).toUInt8 > 6 ∨ (n : Int) > 128
      · rw [if_pos g1] at h; simp at h
      rw [if_neg g1] at h hw ⊢
      generalize (takeL w 32 3).toUInt8 = code at *
      by_cases s0 : spansL len 1 to ((wordsL ⟨2, 0, 0, 0, code, toU16 n⟩).toNat : Int) = true
      · rw [if_pos s0] at hw ⊢
        have e : wordsL ⟨2, toU16 to, 0, 0, code, toU16 n⟩ = wordsL ⟨2, 0, 0, 0, code, toU16 n⟩ := rfl
        rw [e] at hw ⊢
        have hlt := (wordsL ⟨2, 0, 0, 0, code, toU16 n⟩).toNat_lt
        generalize (wordsL ⟨2, 0, 0, 0, code, toU16 n⟩).toNat = k at *
        have hsp := spans_true hl s0 (by omega) (by omega) hto
        have hf : (firstL ⟨2, toU16 to, 0, 0, code, toU16 n⟩).toNat = to.toNat := by
          unfold firstL
          simp only []
          rw [if_neg (fun h => c7 h.2)]
          exact toU16_of (by omega) (by omega)
        rw [hf]
        omega
      · rw [if_neg s0] at h; simp at h
  · rw [if_neg c1] at h; simp at h
end Eng
end Go.Proofs.Ygcfab
