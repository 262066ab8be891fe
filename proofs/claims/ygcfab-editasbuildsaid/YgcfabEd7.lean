/-
  Package edit, without Go: what Check says.
-/
import Derived.Test.YgcfabEd6
set_option linter.unusedSimpArgs false
set_option linter.unusedVariables false
namespace Go.Proofs.Ygcfab
namespace Eng
def covers (p : Ptr) (i : Nat) : Prop := (firstL p).toNat ≤ i ∧ i < (firstL p).toNat + (wordsL p).toNat
def top (S : Ed) (k : Nat) : Prop := (S.O k).dead = false ∧ (S.O k).elem = false
def slotOf (S : Ed) (k : Nat) : UInt16 × Bool := slotB S (toU8 (S.O k).up.toInt) (S.O k).via
def hungAt (S : Ed) (k i : Nat) : Prop := top S k ∧ (S.O k).up ≠ -1 ∧ (slotOf S k).1.toNat = i
def ob0 : Ob := ⟨⟨1, 0, 0, 1, 0, 0⟩, -1, 0, false, false⟩
structure C1 (S : Ed) (h : Nat) : Prop where
  shaped : ∀ k, 1 ≤ k → k < h → (S.O k).dead = false → shapedB S (S.O k) = true
  apart : ∀ k, 1 ≤ k → k < h → top S k → ∀ i, covers (S.O k).p i → i ≠ 0 ∧ ∀ k', 1 ≤ k' → k' < k → top S k' → ¬ covers (S.O k').p i
def hangP (S : Ed) (k : Nat) : Prop :=
  ((S.O k).up = -1 → orphB (S.O k) = true) ∧ ((S.O k).up ≠ -1 → (slotOf S k).2 = true ∧ resolveL S.A S.len (slotOf S k).1 = ((S.O k).p, true) ∧ ∀ k', 1 ≤ k' → k' < k → ¬ hungAt S k' (slotOf S k).1.toNat)
structure C2 (S : Ed) (h : Nat) : Prop where
  element : ∀ k, 1 ≤ k → k < h → (S.O k).dead = false → elementB S k = true
  whole : ∀ k, 1 ≤ k → k < h → top S k → wholeB S (S.O k).p = true
  hangs : ∀ k, 1 ≤ k → k < h → top S k → hangP S k
def C3 (S : Ed) (h : Nat) : Prop := ∀ k, k < h → top S k → shalN S 40 k 0 = true
def C5 (S : Ed) (n : Nat) : Prop := ∀ i, i < n → S.A i ≠ 0 → (i = 0 ∨ ∃ k, 1 ≤ k ∧ k < S.cnt ∧ top S k ∧ covers (S.O k).p i) ∧ ((∃ k, k < S.cnt ∧ ptrAt (S.O k) i) → ∃ k, 1 ≤ k ∧ k < S.cnt ∧ hungAt S k i)
structure CheckP (S : Ed) : Prop where
  len : 1 ≤ S.len ∧ S.len ≤ 256
  cnt : 1 ≤ S.cnt ∧ S.cnt ≤ 256
  first : S.O 0 = ob0
  c1 : C1 S S.cnt
  c2 : C2 S S.cnt
  c3 : C3 S S.cnt
  c5 : C5 S S.len

theorem aliveB_iff (S : Ed) (h : Int) : aliveB S h = true ↔ 0 ≤ h ∧ h < (S.cnt : Int) ∧ (S.O h.toNat).dead = false := by
  unfold aliveB
  simp
/-- an object that lies inside: its words -/
theorem inside_iff (len : Nat) (p : Ptr) (hl : len ≤ 256) : insideL len p = true ↔ (p.kind = 1 ∨ p.kind = 2) ∧
    (if p.kind = 2 ∧ p.code = 7 then 2 ≤ p.at_.toNat ∧ p.at_.toNat - 1 + (wordsL p).toNat ≤ len ∧ 1 ≤ (wordsL p).toNat else p.at_.toNat + (wordsL p).toNat ≤ len ∧ ((wordsL p).toNat = 0 ∨ 1 ≤ p.at_.toNat)) := by
  have hw := (wordsL p).toNat_lt
  have ha := p.at_.toNat_lt
  have h7 : p.kind = 2 ∧ p.code = 7 → 1 ≤ (wordsL p).toNat := by
    rintro ⟨h1, h2⟩
    unfold wordsL
    rw [h1, h2]
    split
    · rename_i h; exact absurd h (by decide)
    split
    · rename_i h; exact absurd h.1 (by decide)
    split
    · exact (by decide)
    split
    · rename_i h; exact absurd h.2 (by decide)
    split
    · rename_i h; exact absurd h (by decide)
    split
    · rename_i hc _ _ h
      have hs := h.2
      unfold sizedL at hs
      simp only [Bool.and_eq_true, decide_eq_true_eq, UInt8.le_iff_toNat_le] at hs
      have e8 : (8 : UInt8).toNat = 8 := rfl
      have hcc : p.count.toNat ≤ 128 := by
        simp only [ne_eq, not_or, gt_iff_lt, UInt16.lt_iff_toNat_lt] at hc
        have e : (128 : UInt16).toNat = 128 := rfl
        omega
      have hm : p.count.toNat * (p.data.toNat + p.ptrs.toNat) ≤ 128 * 16 := Nat.mul_le_mul hcc (by omega)
      have e : 1 + p.count * eachL p = UInt16.ofNat (1 + p.count.toNat * (p.data.toNat + p.ptrs.toNat)) := by
        apply eq16
        unfold eachL
        rw [UInt16.toNat_add, UInt16.toNat_mul, UInt16.toNat_add, UInt8.toNat_toUInt16, UInt8.toNat_toUInt16]
        have e1 : (1 : UInt16).toNat = 1 := rfl
        rw [Nat.mod_eq_of_lt (a := p.data.toNat + p.ptrs.toNat) (by omega), e1]
        omega
      have e2 : (257 : UInt16) = UInt16.ofNat 257 := rfl
      rw [e, e2, min16 (by omega) (by omega), tn16 (by omega)]
      omega
    · exact (by decide)
  unfold insideL
  by_cases hk : p.kind = 1 ∨ p.kind = 2
  rotate_left
  · rw [if_pos (.inr ⟨fun h => hk (.inl h), fun h => hk (.inr h)⟩)]
    simp [hk]
  rw [if_neg (by
    rintro (h | h)
    · omega
    · rcases hk with hk | hk
      · exact h.1 hk
      · exact h.2 hk)]
  simp only [hk, true_and]
  by_cases c : p.kind = 2 ∧ p.code = 7
  · have := h7 c
    rw [if_pos c, if_pos c]
    rw [w64_id (x := (p.at_.toNat : Int) - 1) (by omega) (by omega), w64_id (by omega) (by omega)]
    simp only [Bool.and_eq_true, Bool.or_eq_true, decide_eq_true_eq]
    omega
  · rw [if_neg c, if_neg c]
    rw [w64_id (by omega) (by omega)]
    simp only [Bool.and_eq_true, Bool.or_eq_true, decide_eq_true_eq]
    omega
theorem first_of (p : Ptr) (len : Nat) (hl : len ≤ 256) (h : insideL len p = true) : 0 < (wordsL p).toNat → 1 ≤ (firstL p).toNat ∧ (firstL p).toNat + (wordsL p).toNat ≤ len := by
  intro hw
  obtain ⟨hk, h⟩ := (inside_iff len p hl).1 h
  unfold firstL
  by_cases c : p.kind = 2 ∧ p.code = 7
  · rw [if_pos c] at h ⊢
    have e : (p.at_ - 1).toNat = p.at_.toNat - 1 := by
      rw [UInt16.toNat_sub_of_le]
      · rfl
      · rw [UInt16.le_iff_toNat_le]; show 1 ≤ _; omega
    rw [e]; omega
  · rw [if_neg c] at h ⊢
    omega
theorem shaped_top {S : Ed} {x : Ob} (he : x.elem = false) (h : shapedB S x = true) : insideL S.len x.p = true ∧ upOk S x = true ∧ kindOk x.p = true := by
  unfold shapedB at h
  rw [he] at h
  simp only [Bool.false_eq_true, if_false, Bool.and_eq_true] at h
  exact ⟨h.1.1, h.1.2, h.2⟩
theorem up_of {S : Ed} {x : Ob} (h : upOk S x = true) : x.up = -1 ∨ (0 ≤ x.up.toInt ∧ x.up.toInt < (S.cnt : Int) ∧ (S.O x.up.toInt.toNat).dead = false) := by
  unfold upOk at h
  simp only [Bool.and_eq_true, Bool.not_eq_true', decide_eq_false_iff_not, Bool.or_eq_true] at h
  by_cases h0 : 0 ≤ x.up.toInt
  · rcases h.2 with h2 | h2
    · omega
    · exact .inr ((aliveB_iff S _).1 h2)
  · left
    apply Int16.toInt_inj.1
    have e : (-1 : Int16).toInt = -1 := rfl
    omega
theorem toU8_of {S : Ed} {h : Int} (h0 : 0 ≤ h) (h1 : h < (S.cnt : Int)) (hc : S.cnt ≤ 256) : (toU8 h).toNat = h.toNat := by
  unfold toU8
  rw [UInt8.toNat_ofNat']
  omega
end Eng
end Go.Proofs.Ygcfab
