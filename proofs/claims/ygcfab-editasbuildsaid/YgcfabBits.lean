/-
  Bits of words.
-/
import Derived.Test.YgcfabTree3
set_option linter.unusedSimpArgs false
set_option linter.unusedVariables false
namespace Go.Proofs.Ygcfab
namespace Eng

def bitU (x : UInt64) (i : Nat) : Bool := x.toNat.testBit i
theorem bitU_or (a b : UInt64) (i : Nat) : bitU (a ||| b) i = (bitU a i || bitU b i) := by
  rw [bitU, UInt64.toNat_or, Nat.testBit_or]; rfl
theorem bitU_and (a b : UInt64) (i : Nat) : bitU (a &&& b) i = (bitU a i && bitU b i) := by
  rw [bitU, UInt64.toNat_and, Nat.testBit_and]; rfl
theorem bitU_zero (i : Nat) : bitU 0 i = false := by
  show Nat.testBit 0 i = false
  simp
theorem bitU_ge (a : UInt64) (i : Nat) (h : 64 ≤ i) : bitU a i = false := by
  apply Nat.testBit_lt_two_pow
  exact Nat.lt_of_lt_of_le a.toNat_lt (Nat.pow_le_pow_right (by omega) h)
theorem bitU_ext {a b : UInt64} (h : ∀ i, i < 64 → bitU a i = bitU b i) : a = b := by
  apply UInt64.toNat_inj.1
  apply Nat.eq_of_testBit_eq
  intro i
  by_cases hi : i < 64
  · exact h i hi
  · have h1 := bitU_ge a i (by omega)
    have h2 := bitU_ge b i (by omega)
    unfold bitU at h1 h2
    rw [h1, h2]
theorem eq_zero_iff (a : UInt64) : a = 0 ↔ ∀ i, i < 64 → bitU a i = false := by
  constructor
  · rintro rfl i _; exact bitU_zero i
  · intro h; exact bitU_ext fun i hi => by rw [h i hi, bitU_zero]
theorem bitU_shl (a : UInt64) (n i : Nat) : bitU (shl64 a n) i = (decide (i < 64) && (decide (n ≤ i) && bitU a (i - n))) := by
  unfold bitU shl64
  rw [UInt64.toNat_ofNat', Nat.testBit_mod_two_pow, ← Nat.shiftLeft_eq, Nat.testBit_shiftLeft]
theorem bitU_shr (a : UInt64) (n i : Nat) : bitU (shr64 a n) i = bitU a (n + i) := by
  unfold bitU shr64
  rw [UInt64.toNat_ofNat', Nat.mod_eq_of_lt (Nat.lt_of_le_of_lt (Nat.div_le_self _ _) a.toNat_lt), ← Nat.shiftRight_eq_div_pow, Nat.testBit_shiftRight]
theorem bitU_one (i : Nat) : bitU 1 i = decide (i = 0) := by
  show Nat.testBit 1 i = _
  rw [Bool.eq_iff_iff, Nat.testBit_one_eq_true_iff_self_eq_zero, decide_eq_true_iff]
theorem bitU_all (i : Nat) : bitU 18446744073709551615 i = decide (i < 64) := by
  show Nat.testBit (2 ^ 64 - 1) i = _
  exact Nat.testBit_two_pow_sub_one 64 i
theorem bitU_bit (n i : Nat) : bitU (shl64 1 n) i = (decide (i < 64) && decide (i = n)) := by
  rw [bitU_shl, bitU_one, Bool.eq_iff_iff]
  simp only [Bool.and_eq_true, decide_eq_true_eq]
  omega
theorem and_bit (x : UInt64) (n : Nat) (h : n < 64) : (x &&& shl64 1 n ≠ 0) ↔ bitU x n = true := by
  rw [Ne, eq_zero_iff]
  constructor
  · intro hn
    refine Decidable.byContradiction fun hb => hn fun i hi => ?_
    rw [bitU_and, bitU_bit]
    by_cases e : i = n
    · subst e; simp at hb; simp [hb]
    · simp [e]
  · intro hb hall
    have := hall n h
    rw [bitU_and, bitU_bit, hb] at this
    simp [h] at this
/-- a set of numbers, 64 to a word -/
def inS (g : Nat → UInt64) (c : Nat) : Bool := bitU (g (c / 64)) (c % 64)
def addS (g : Nat → UInt64) (c : Nat) : Nat → UInt64 := upd g (c / 64) (g (c / 64) ||| shl64 1 (c % 64))
theorem inS_addS (g : Nat → UInt64) (c d : Nat) : inS (addS g c) d = (inS g d || decide (d = c)) := by
  unfold inS addS
  rw [upd_get]
  split
  · rename_i e
    rw [bitU_or, bitU_bit, ← e]
    congr 1
    have h1 : d % 64 < 64 := by omega
    simp only [h1, decide_true, Bool.true_and, decide_eq_decide]
    omega
  · rename_i e
    have : d ≠ c := fun h => e (by rw [h])
    simp [this]
theorem inS_and (g : Nat → UInt64) (c : Nat) : (g (c / 64) &&& shl64 1 (c % 64) ≠ 0) ↔ inS g c = true := and_bit _ _ (by omega)
end Eng
end Go.Proofs.Ygcfab
