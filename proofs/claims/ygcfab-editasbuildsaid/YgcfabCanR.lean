/-
  What pointer words resolve to: the words of a piece.
-/
import Derived.Test.YgcfabCanP
set_option linter.unusedSimpArgs false
set_option linter.unusedVariables false
namespace Go.Proofs.Ygcfab
namespace Eng

theorem shl64_nat (x : UInt64) (n : Nat) : (shl64 x n).toNat = x.toNat * 2 ^ n % 18446744073709551616 := by unfold shl64; rw [UInt64.toNat_ofNat']
theorem shr64_nat (x : UInt64) (n : Nat) : (shr64 x n).toNat = x.toNat / 2 ^ n := by
  unfold shr64; rw [UInt64.toNat_ofNat']
  exact Nat.mod_eq_of_lt (Nat.lt_of_le_of_lt (Nat.div_le_self _ _) x.toNat_lt)
theorem fits_of {a n : UInt8} (h : a.toNat + n.toNat ≤ 64) : fitsL a n = true := by
  unfold fitsL; rw [w64_id (by omega) (by omega)]; exact decide_eq_true (by omega)
theorem take_nat (w : UInt64) (a n : UInt8) (h : a.toNat + n.toNat ≤ 64) (hn : n.toNat < 64) : (takeL w a n).toNat = w.toNat / 2 ^ a.toNat % 2 ^ n.toNat := by
  unfold takeL
  rw [fits_of h, if_pos rfl, UInt64.toNat_and, shr64_nat, maskL_toNat n hn, Nat.and_two_pow_sub_one_eq_mod]
theorem or_add (x y k : Nat) (h : x < 2 ^ k) : x ||| y * 2 ^ k = x + y * 2 ^ k := by
  rw [← Nat.shiftLeft_eq, Nat.or_comm, ← Nat.shiftLeft_add_eq_or_of_lt h, Nat.add_comm]
theorem t02 (w : UInt64) : (takeL w 0 2).toNat = w.toNat % 4 := by
  have := take_nat w 0 2 (by decide) (by decide)
  rw [this]; simp
theorem t32_16 (w : UInt64) : (takeL w 32 16).toNat = w.toNat / 4294967296 % 65536 := take_nat w 32 16 (by decide) (by decide)
theorem t48_16 (w : UInt64) : (takeL w 48 16).toNat = w.toNat / 281474976710656 % 65536 := take_nat w 48 16 (by decide) (by decide)
theorem t32_3 (w : UInt64) : (takeL w 32 3).toNat = w.toNat / 4294967296 % 8 := take_nat w 32 3 (by decide) (by decide)
theorem t35_29 (w : UInt64) : (takeL w 35 29).toNat = w.toNat / 34359738368 % 536870912 := take_nat w 35 29 (by decide) (by decide)
theorem t2_30 (w : UInt64) : (takeL w 2 30).toNat = w.toNat / 4 % 1073741824 := take_nat w 2 30 (by decide) (by decide)
def off30 (f t : Nat) : Nat := (((t : Int) - f - 1) % 1073741824).toNat
theorem off30_lt (f t : Nat) : off30 f t < 1073741824 := by unfold off30; omega
theorem offset_nat (f t : Nat) (hf : f < 256) (ht : t ≤ 256) : (offsetL (UInt16.ofNat f) (UInt16.ofNat t)).toNat = off30 f t * 4 := by
  unfold offsetL putL
  rw [fits_of (by decide), if_pos rfl, UInt64.zero_and, UInt64.zero_or, shl64_nat, UInt64.toNat_and, maskL_toNat 30 (by decide), tn16 (by omega), tn16 (by omega), w32_id (x := (t : Int) - f) (by omega) (by omega), w32_id (by omega) (by omega)]
  have e : (30 : UInt8).toNat = 30 := rfl
  have e2 : (2 : UInt8).toNat = 2 := rfl
  rw [e, e2, Nat.and_two_pow_sub_one_eq_mod]
  unfold toU64 off30
  rw [UInt64.toNat_ofNat']
  omega
theorem tn8 {a : Nat} (h : a < 256) : (UInt8.ofNat a).toNat = a := by rw [UInt8.toNat_ofNat']; exact Nat.mod_eq_of_lt h
theorem tn32 {a : Nat} (h : a < 4294967296) : (UInt32.ofNat a).toNat = a := by rw [UInt32.toNat_ofNat']; exact Nat.mod_eq_of_lt h
theorem makeStruct_nat (f t d p : Nat) (hf : f < 256) (ht : t ≤ 256) (hd : d ≤ 8) (hp : p ≤ 8) :
    (makeStructL (UInt16.ofNat f) (UInt16.ofNat t) (UInt8.ofNat d) (UInt8.ofNat p)).toNat = off30 f (if d = 0 ∧ p = 0 then f else t) * 4 + d * 4294967296 + p * 281474976710656 := by
  unfold makeStructL
  have c : ¬ (UInt16.ofNat f ≥ 256 ∨ UInt16.ofNat t > 256 ∨ UInt8.ofNat d > 8 ∨ UInt8.ofNat p > 8) := by
    simp only [ge_iff_le, gt_iff_lt, UInt16.le_iff_toNat_le, UInt16.lt_iff_toNat_lt, UInt8.lt_iff_toNat_lt, tn16 (show f < 65536 by omega), tn16 (show t < 65536 by omega), tn8 (show d < 256 by omega), tn8 (show p < 256 by omega)]
    have : (256 : UInt16).toNat = 256 := rfl
    have : (8 : UInt8).toNat = 8 := rfl
    omega
  rw [if_neg c]
  have e0 : ∀ x, x < 256 → (UInt8.ofNat x = 0 ↔ x = 0) := by
    intro x hx
    rw [← UInt8.toNat_inj, tn8 hx]; exact Iff.rfl
  have e1 : (if UInt8.ofNat d = 0 ∧ UInt8.ofNat p = 0 then UInt16.ofNat f else UInt16.ofNat t) = UInt16.ofNat (if d = 0 ∧ p = 0 then f else t) := by
    simp only [e0 d (by omega), e0 p (by omega)]
    split <;> rfl
  rw [e1]
  have hlt := off30_lt f (if d = 0 ∧ p = 0 then f else t)
  simp only [UInt64.toNat_or, shl64_nat, UInt8.toNat_toUInt64, tn8 (show d < 256 by omega), tn8 (show p < 256 by omega)]
  rw [offset_nat f _ hf (by split <;> omega)]
  generalize off30 f (if d = 0 ∧ p = 0 then f else t) = o at *
  have h1 := or_add (o * 4) d 32 (by omega)
  have h2 := or_add (o * 4 + d * 2 ^ 32) p 48 (by omega)
  rw [Nat.mod_eq_of_lt (by omega), Nat.mod_eq_of_lt (by omega), h1, h2]
theorem makeList_nat (f t c n : Nat) (hf : f < 256) (ht : t ≤ 256) (hc0 : 2 ≤ c) (hc : c ≤ 7) (hn : n ≤ 256) (hn' : c ≠ 7 → n ≤ 128) :
    (makeListL (UInt16.ofNat f) (UInt16.ofNat t) (UInt8.ofNat c) (UInt32.ofNat n)).toNat = 1 + off30 f t * 4 + c * 4294967296 + n * 34359738368 := by
  unfold makeListL
  have c1 : ¬ (UInt16.ofNat f ≥ 256 ∨ UInt16.ofNat t > 256 ∨ UInt8.ofNat c < 2 ∨ UInt8.ofNat c > 7) := by
    simp only [ge_iff_le, gt_iff_lt, UInt16.le_iff_toNat_le, UInt16.lt_iff_toNat_lt, UInt8.lt_iff_toNat_lt, tn16 (show f < 65536 by omega), tn16 (show t < 65536 by omega), tn8 (show c < 256 by omega)]
    have : (256 : UInt16).toNat = 256 := rfl
    have : (2 : UInt8).toNat = 2 := rfl
    have : (7 : UInt8).toNat = 7 := rfl
    omega
  have c2 : ¬ (UInt32.ofNat n > 256 ∨ UInt8.ofNat c ≠ 7 ∧ UInt32.ofNat n > 128) := by
    simp only [gt_iff_lt, UInt32.lt_iff_toNat_lt, tn32 (show n < 4294967296 by omega), ne_eq, ← UInt8.toNat_inj, tn8 (show c < 256 by omega)]
    have : (256 : UInt32).toNat = 256 := rfl
    have : (128 : UInt32).toNat = 128 := rfl
    have : (7 : UInt8).toNat = 7 := rfl
    omega
  rw [if_neg c1, if_neg c2]
  have hlt := off30_lt f t
  simp only [UInt64.toNat_or, shl64_nat, UInt8.toNat_toUInt64, UInt32.toNat_toUInt64, tn8 (show c < 256 by omega), tn32 (show n < 4294967296 by omega), UInt64.toNat_one]
  rw [offset_nat f t hf ht]
  generalize off30 f t = o at *
  have h0 := or_add 1 o 2 (by omega)
  have h1 := or_add (1 + o * 4) c 32 (by omega)
  have h2 := or_add (1 + o * 4 + c * 2 ^ 32) n 35 (by omega)
  rw [Nat.mod_eq_of_lt (by omega), Nat.mod_eq_of_lt (by omega), h0, h1, h2]
theorem makeTag_nat (c d p : Nat) (hc : c ≤ 128) (hd : d ≤ 8) (hp : p ≤ 8) : (makeTagL (UInt16.ofNat c) (UInt8.ofNat d) (UInt8.ofNat p)).toNat = c * 4 + d * 4294967296 + p * 281474976710656 := by
  unfold makeTagL
  have c1 : ¬ (UInt16.ofNat c > 128 ∨ UInt8.ofNat d > 8 ∨ UInt8.ofNat p > 8) := by
    simp only [gt_iff_lt, UInt16.lt_iff_toNat_lt, UInt8.lt_iff_toNat_lt, tn16 (show c < 65536 by omega), tn8 (show d < 256 by omega), tn8 (show p < 256 by omega)]
    have : (128 : UInt16).toNat = 128 := rfl
    have : (8 : UInt8).toNat = 8 := rfl
    omega
  rw [if_neg c1]
  simp only [UInt64.toNat_or, shl64_nat, UInt8.toNat_toUInt64, UInt16.toNat_toUInt64, tn16 (show c < 65536 by omega), tn8 (show d < 256 by omega), tn8 (show p < 256 by omega)]
  have h1 := or_add (c * 2 ^ 2) d 32 (by omega)
  have h2 := or_add (c * 2 ^ 2 + d * 2 ^ 32) p 48 (by omega)
  rw [Nat.mod_eq_of_lt (by omega), Nat.mod_eq_of_lt (by omega), Nat.mod_eq_of_lt (by omega), h1, h2]

theorem sign_of (w : UInt64) (f t : Nat) (hf : f < 256) (ht : t ≤ 256) (hw : w.toNat / 4 % 1073741824 = off30 f t) (b : UInt16) (hb : b.toNat = f + 1) :
    w32 ((b.toNat : Int) + w32 (signL (shr64 w 2) 30)) = (t : Int) := by
  have e : signL (shr64 w 2) 30 = (t : Int) - f - 1 := by
    rw [sign30_eq, shr64_nat, show 2 ^ 2 = 4 from rfl, hw]
    unfold off30
    split <;> omega
  rw [e, hb, w32_id (x := (t : Int) - f - 1) (by omega) (by omega), w32_id (by omega) (by omega)]
  omega
theorem sections_of (w : UInt64) (d p : Nat) (h1 : w.toNat / 4294967296 % 65536 = d) (h2 : w.toNat / 281474976710656 % 65536 = p) (hd : d ≤ 8) (hp : p ≤ 8) : sectionsL w = (UInt8.ofNat d, UInt8.ofNat p, true) := by
  unfold sectionsL
  have e1 : (takeL w 32 16).toNat = d := by rw [t32_16, h1]
  have e2 : (takeL w 48 16).toNat = p := by rw [t48_16, h2]
  have c : ¬ (takeL w 32 16 > 8 ∨ takeL w 48 16 > 8) := by
    simp only [gt_iff_lt, UInt64.lt_iff_toNat_lt, e1, e2]
    have : (8 : UInt64).toNat = 8 := rfl
    omega
  rw [if_neg c]
  have k : ∀ (x : UInt64) (n : Nat), x.toNat = n → x.toUInt8 = UInt8.ofNat n := by
    intro x n h
    rw [← h]; rfl
  rw [k _ d e1, k _ p e2]
def Piece.ptr (a s : Nat) : Piece → Ptr
  | .inl (d, p) => ⟨1, UInt16.ofNat (if d = 0 ∧ p = 0 then a else s), UInt8.ofNat d, UInt8.ofNat p, 0, 0⟩
  | .inr (.inl (c, n)) => ⟨2, UInt16.ofNat (if n = 0 then a + 1 else s), 0, 0, UInt8.ofNat c, UInt16.ofNat n⟩
  | .inr (.inr (cn, d, p)) => ⟨2, UInt16.ofNat (s + 1), UInt8.ofNat d, UInt8.ofNat p, 7, UInt16.ofNat cn⟩
theorem width_nat (c : Nat) (h1 : 2 ≤ c) (h2 : c ≤ 5) : (widthL (UInt8.ofNat c)).toNat = 2 ^ (c - 2) := by
  have : c = 2 ∨ c = 3 ∨ c = 4 ∨ c = 5 := by omega
  rcases this with rfl | rfl | rfl | rfl <;> decide
theorem pow8 (c : Nat) (h1 : 2 ≤ c) (h2 : c ≤ 5) : 2 ^ (c - 2) = 1 ∨ 2 ^ (c - 2) = 2 ∨ 2 ^ (c - 2) = 4 ∨ 2 ^ (c - 2) = 8 := by
  have : c = 2 ∨ c = 3 ∨ c = 4 ∨ c = 5 := by omega
  rcases this with rfl | rfl | rfl | rfl <;> decide
theorem words_li (at_ : UInt16) (c n : Nat) (hc0 : 2 ≤ c) (hc : c ≤ 6) (hn : n ≤ 128) : (wordsL ⟨2, at_, 0, 0, UInt8.ofNat c, UInt16.ofNat n⟩).toNat = (Piece.li c n).words := by
  unfold wordsL Piece.words
  have c1 : ¬ ((2 : UInt8) ≠ 2 ∨ UInt16.ofNat n > 128) := by
    simp only [gt_iff_lt, UInt16.lt_iff_toNat_lt, tn16 (show n < 65536 by omega)]
    have : (128 : UInt16).toNat = 128 := rfl
    simp; omega
  simp only [if_neg c1]
  rw [if_neg (by decide), if_neg (by simp)]
  by_cases h6 : c = 6
  · subst h6
    rw [if_neg (by decide), if_pos (by decide), if_pos rfl, tn16 (by omega)]
  · have h5 : UInt8.ofNat c ≥ 2 ∧ UInt8.ofNat c ≤ 5 := by
      simp only [ge_iff_le, UInt8.le_iff_toNat_le, tn8 (show c < 256 by omega)]
      have : (2 : UInt8).toNat = 2 := rfl
      have : (5 : UInt8).toNat = 5 := rfl
      omega
    rw [if_pos h5, if_neg h6, UInt16.toNat_div, UInt16.toNat_add, UInt16.toNat_mul, UInt8.toNat_toUInt16, tn16 (by omega), width_nat c hc0 (by omega)]
    have e7 : (7 : UInt16).toNat = 7 := rfl
    have e8 : (8 : UInt16).toNat = 8 := rfl
    have h8 : n * 2 ^ (c - 2) ≤ 128 * 8 := by
      rcases pow8 c hc0 (by omega) with h | h | h | h <;> rw [h] <;> omega
    rw [e7, e8, Nat.mod_eq_of_lt (a := n * 2 ^ (c - 2)) (by omega), Nat.mod_eq_of_lt (by omega)]
theorem sized_of {d p : Nat} (hd : d ≤ 8) (hp : p ≤ 8) (k : UInt8) (a : UInt16) (c : UInt8) (n : UInt16) : sizedL ⟨k, a, UInt8.ofNat d, UInt8.ofNat p, c, n⟩ = true := by
  unfold sizedL
  have h1 : UInt8.ofNat d ≤ 8 := by rw [UInt8.le_iff_toNat_le, tn8 (by omega)]; exact hd
  have h2 : UInt8.ofNat p ≤ 8 := by rw [UInt8.le_iff_toNat_le, tn8 (by omega)]; exact hp
  simp [h1, h2]
theorem each_of {d p : Nat} (hd : d ≤ 8) (hp : p ≤ 8) (k : UInt8) (a : UInt16) (c : UInt8) (n : UInt16) : eachL ⟨k, a, UInt8.ofNat d, UInt8.ofNat p, c, n⟩ = UInt16.ofNat (d + p) := by
  unfold eachL
  apply eq16
  rw [UInt16.toNat_add, UInt8.toNat_toUInt16, UInt8.toNat_toUInt16, tn8 (by omega), tn8 (by omega)]
  omega
theorem piece_words {A : Nat → UInt64} {a s : Nat} {c : Piece} (h : c.ok A a s) : (wordsL (c.ptr a s)).toNat = c.words := by
  rcases c with ⟨d, p⟩ | ⟨c, n⟩ | ⟨cn, d, p⟩
  · skip
    obtain ⟨hd, hp, _⟩ := h
    unfold Piece.ptr wordsL
    simp only []
    rw [if_neg (by decide), if_pos ⟨trivial, sized_of hd hp _ _ _ _⟩, each_of hd hp, tn16 (by omega)]; rfl
  · exact words_li _ c n h.1 h.2.1 h.2.2.1
  · skip
    obtain ⟨hc, hd, hp, _, _, hm, _⟩ := h
    unfold Piece.ptr wordsL
    have c1 : ¬ ((2 : UInt8) ≠ 2 ∨ UInt16.ofNat cn > 128) := by
      simp only [gt_iff_lt, UInt16.lt_iff_toNat_lt, tn16 (show cn < 65536 by omega)]
      have : (128 : UInt16).toNat = 128 := rfl
      simp; omega
    simp only [if_neg c1]
    rw [if_neg (by decide), if_neg (by simp), if_neg (by decide), if_neg (by decide), if_pos ⟨trivial, sized_of hd hp _ _ _ _⟩, each_of hd hp]
    have e : 1 + UInt16.ofNat cn * UInt16.ofNat (d + p) = UInt16.ofNat (1 + cn * (d + p)) := by
      apply eq16
      rw [UInt16.toNat_add, UInt16.toNat_mul, tn16 (by omega), tn16 (by omega)]
      have : (1 : UInt16).toNat = 1 := rfl
      omega
    have e2 : (257 : UInt16) = UInt16.ofNat 257 := rfl
    rw [e, e2, min16 (by omega) (by omega), tn16 (by omega)]
    simp only [Piece.words]; omega
theorem piece_first {A : Nat → UInt64} {a s : Nat} {c : Piece} (h : c.ok A a s) (hs : s < 60000) (hw : 0 < c.words) : (firstL (c.ptr a s)).toNat = s := by
  rcases c with ⟨d, p⟩ | ⟨c, n⟩ | ⟨cn, d, p⟩
  · skip
    simp only [Piece.words] at hw
    unfold Piece.ptr firstL
    simp only []
    rw [if_neg (by simp), if_neg (by omega), tn16 (by omega)]
  · skip
    obtain ⟨h1, h2, h3, _⟩ := h
    have hn : n ≠ 0 := by
      rintro rfl
      simp [Piece.words] at hw
    unfold Piece.ptr firstL
    simp only []
    rw [if_neg, if_neg hn, tn16 (by omega)]
    intro ⟨_, h⟩
    have := congrArg UInt8.toNat h
    rw [tn8 (by omega)] at this
    have e : (7 : UInt8).toNat = 7 := rfl
    omega
  · skip
    unfold Piece.ptr firstL
    simp only []
    rw [if_pos ⟨trivial, trivial⟩]
    have : (1 : UInt16) = UInt16.ofNat 1 := rfl
    rw [this, sub16 (by omega) (by omega), tn16 (by omega)]
    omega
theorem piece_kind (c : Piece) (a s : Nat) : (c.ptr a s).kind ≠ 0 := by rcases c with ⟨d, p⟩ | ⟨c, n⟩ | ⟨cn, d, p⟩ <;> simp [Piece.ptr]
theorem piece_padded {A : Nat → UInt64} {a s len : Nat} {c : Piece} (h : c.ok A a s) (hl : len ≤ 256) (hs : s + c.words ≤ len) : paddedL A len (c.ptr a s) = true := by
  rcases c with ⟨d, p⟩ | ⟨c, n⟩ | ⟨cn, d, p⟩
  · rfl
  · skip
    obtain ⟨h1, h2, h3, h4, h5⟩ := h
    unfold paddedL
    split
    · rfl
    have hb : bytesL ((Piece.li c n).ptr a s) = if c = 6 then 0 else n * 2 ^ (c - 2) := by
      unfold bytesL Piece.ptr
      simp only [tn16 (show n < 65536 by omega)]
      split
      · rename_i h6; subst h6; rw [show widthL (UInt8.ofNat 6) = 0 by decide]; simp
      · rw [width_nat c h1 (by omega)]
    rw [hb]
    by_cases h6 : c = 6
    · rw [if_pos h6]; rfl
    · rw [if_neg h6]
      split
      · rfl
      rename_i hne
      have hn : n ≠ 0 := by rintro rfl; simp at hne
      have h8 : n * 2 ^ (c - 2) ≤ 128 * 8 := by
        rcases pow8 c h1 (by omega) with h | h | h | h <;> rw [h] <;> omega
      simp only [Piece.words] at hs
      rw [if_neg h6] at hs
      have e : ((Piece.li c n).ptr a s).at_.toNat = s := by
        simp only [Piece.ptr]
        rw [if_neg hn, tn16 (by omega)]
      rw [e, h5 (by omega) hne, decide_eq_true (by omega)]
      rfl
  · skip
    unfold paddedL
    have hb : bytesL ((Piece.ss cn d p).ptr a s) = 0 := by
      unfold bytesL Piece.ptr
      simp only [show widthL 7 = 0 by decide]; simp
    rw [hb]
    split <;> rfl
theorem spans_of (len s n : Nat) (hl : len ≤ 256) (hs : s + n ≤ len) (h1 : 1 ≤ s ∨ n = 0) : spansL len 1 (s : Int) (n : Int) = true := by
  have e : w32 (len : Int) = len := w32_id (by omega) (by omega)
  unfold spansL
  split
  · rw [decide_eq_true (by omega), decide_eq_true (by omega)]; rfl
  · have : (1 : UInt16).toNat = 1 := rfl
    rw [w32_id (x := (s : Int) + (n : Int)) (by omega) (by omega), decide_eq_true (by omega), decide_eq_true (by omega)]; rfl
theorem toU16_add1 (s : Nat) (h : s ≤ 1000) : toU16 (w32 ((s : Int) + 1)) = UInt16.ofNat (s + 1) := by
  rw [w32_id (by omega) (by omega), ← toU16_nat]
  congr 1
theorem resolve_piece {A : Nat → UInt64} {a s len : Nat} {c : Piece} (h : c.ok A a s) (ha : a < len) (hl : len ≤ 256) (hs1 : 1 ≤ s) (hs : s + c.words ≤ len) : resolveL A len (UInt16.ofNat a) = (c.ptr a s, true) := by
  unfold resolveL
  have hb : (UInt16.ofNat a + 1).toNat = a + 1 := by
    rw [UInt16.toNat_add, tn16 (by omega)]
    have : (1 : UInt16).toNat = 1 := rfl
    omega
  rw [tn16 (by omega), if_neg (by omega)]
  unfold resolveWordL
  rw [if_neg (by omega)]
  rcases c with ⟨d, p⟩ | ⟨c, n⟩ | ⟨cn, d, p⟩
  · skip
    obtain ⟨hd, hp, hA⟩ := h
    simp only [Piece.words] at hs
    have hw := makeStruct_nat a s d p (by omega) (by omega) hd hp
    rw [← hA] at hw
    generalize A a = w at *
    have ho := off30_lt a (if d = 0 ∧ p = 0 then a else s)
    have hsg := sign_of w a (if d = 0 ∧ p = 0 then a else s) (by omega) (by split <;> omega) (by rw [hw]; omega) _ hb
    have hsec := sections_of w d p (by rw [hw]; omega) (by rw [hw]; omega) hd hp
    have h02 : takeL w 0 2 = 0 := by
      apply UInt64.toNat_inj.1
      rw [t02, hw]
      show _ = 0
      omega
    have hw0 : w ≠ 0 := by
      rintro rfl
      have e0 : (0 : UInt64).toNat = 0 := rfl
      rw [e0] at hw
      by_cases h0 : d = 0 ∧ p = 0
      · rw [if_pos h0] at hw
        unfold off30 at hw
        omega
      · omega
    rw [if_neg hw0]
    simp only [hsg, hsec, h02, if_true]
    have he : w32 (((UInt8.ofNat d).toNat : Int) + ((UInt8.ofNat p).toNat : Int)) = ((d + p : Nat) : Int) := by
      rw [tn8 (by omega), tn8 (by omega), w32_id (by omega) (by omega)]; omega
    rw [he]
    have hsp : spansL len 1 (((if d = 0 ∧ p = 0 then a else s : Nat)) : Int) ((d + p : Nat) : Int) = true := by
      apply spans_of len _ _ hl
      · split <;> omega
      · by_cases h0 : d = 0 ∧ p = 0
        · right; omega
        · left; rw [if_neg h0]; exact hs1
    rw [hsp, if_neg (by simp), toU16_nat]
    rfl
  · skip
    obtain ⟨hc0, hc, hn, hA, _⟩ := h
    have hw := makeList_nat a (if n = 0 then a + 1 else s) c n (by omega) (by split <;> omega) hc0 (by omega) (by omega) (fun _ => hn)
    rw [← hA] at hw
    generalize A a = w at *
    have ho := off30_lt a (if n = 0 then a + 1 else s)
    have hsg := sign_of w a (if n = 0 then a + 1 else s) (by omega) (by split <;> omega) (by rw [hw]; omega) _ hb
    have h02 : takeL w 0 2 = 1 := by
      apply UInt64.toNat_inj.1
      rw [t02, hw]
      show _ = 1
      omega
    have hw0 : w ≠ 0 := by
      rintro rfl
      have e0 : (0 : UInt64).toNat = 0 := rfl
      rw [e0] at hw
      omega
    have hcd : (takeL w 32 3).toUInt8 = UInt8.ofNat c := by
      have e : (takeL w 32 3).toNat = c := by rw [t32_3, hw]; omega
      rw [← e]; rfl
    have hcn : w32 ((takeL w 35 29).toNat : Int) = (n : Int) := by
      have e : (takeL w 35 29).toNat = n := by rw [t35_29, hw]; omega
      rw [e, w32_id (by omega) (by omega)]
    rw [if_neg hw0]
    simp only [hsg, h02, hcd, hcn, if_true]
    rw [if_neg (by decide), if_neg (by
      intro h
      have := congrArg UInt8.toNat h
      rw [tn8 (by omega)] at this
      have e : (7 : UInt8).toNat = 7 := rfl
      omega)]
    unfold plainL
    have c1 : ¬ (UInt8.ofNat c < 2 ∨ UInt8.ofNat c > 6 ∨ (n : Int) > 128) := by
      simp only [gt_iff_lt, UInt8.lt_iff_toNat_lt, tn8 (show c < 256 by omega)]
      have : (2 : UInt8).toNat = 2 := rfl
      have : (6 : UInt8).toNat = 6 := rfl
      omega
    rw [if_neg c1, toU16_nat, words_li 0 c n hc0 hc hn]
    have hn0 : n = 0 → (Piece.li c n).words = 0 := by rintro rfl; simp [Piece.words]
    rw [spans_of len _ _ hl (by split; rw [hn0 (by assumption)]; omega; exact hs) (by
      by_cases h0 : n = 0
      · right; exact hn0 h0
      · left; rw [if_neg h0]; exact hs1), if_pos rfl, toU16_nat]
    rfl
  · skip
    obtain ⟨hc, hd, hp, h0, h1, hm, hA, hT⟩ := h
    simp only [Piece.words] at hs
    have hw := makeList_nat a s 7 (cn * (d + p)) (by omega) (by omega) (by omega) (by omega) (by omega) (fun h => absurd rfl h)
    have h7 : (UInt8.ofNat 7) = 7 := rfl
    rw [h7, ← hA] at hw
    have ht := makeTag_nat cn d p hc hd hp
    rw [← hT] at ht
    have hn : cn * (d + p) ≤ 255 := hm
    generalize hnm : cn * (d + p) = n at *
    generalize A a = w at *
    have ho := off30_lt a s
    have hsg := sign_of w a s (by omega) (by omega) (by rw [hw]; omega) _ hb
    have h02 : takeL w 0 2 = 1 := by
      apply UInt64.toNat_inj.1
      rw [t02, hw]
      show _ = 1
      omega
    have hw0 : w ≠ 0 := by
      rintro rfl
      have e0 : (0 : UInt64).toNat = 0 := rfl
      rw [e0] at hw
      omega
    have hcd : (takeL w 32 3).toUInt8 = 7 := by
      have e : (takeL w 32 3).toNat = 7 := by rw [t32_3, hw]; omega
      rw [← h7, ← e]; rfl
    have hcn : w32 ((takeL w 35 29).toNat : Int) = (n : Int) := by
      have e : (takeL w 35 29).toNat = n := by rw [t35_29, hw]; omega
      rw [e, w32_id (by omega) (by omega)]
    rw [if_neg hw0]
    simp only [hsg, h02, hcd, hcn, if_true]
    rw [if_neg (by decide)]
    unfold structsL
    have e1 : w32 ((n : Int) + 1) = ((n + 1 : Nat) : Int) := by rw [w32_id (by omega) (by omega)]; omega
    rw [e1, spans_of len s (n + 1) hl (by omega) (.inl hs1), if_pos rfl]
    simp only [Int.toNat_natCast]
    generalize A s = tg at *
    have hsec := sections_of tg d p (by rw [ht]; omega) (by rw [ht]; omega) hd hp
    have hcnt : (takeL tg 2 30).toNat = cn := by rw [t2_30, ht]; omega
    have ht0 : takeL tg 0 2 = 0 := by
      apply UInt64.toNat_inj.1
      rw [t02, ht]
      show _ = 0
      omega
    have ec : takeL tg 2 30 = UInt64.ofNat cn := by
      apply UInt64.toNat_inj.1
      rw [hcnt, UInt64.toNat_ofNat']; omega
    rw [hsec]
    simp only []
    rw [if_neg (by
      rw [ht0, ec]
      simp only [gt_iff_lt, UInt64.lt_iff_toNat_lt, UInt64.toNat_ofNat']
      have : (128 : UInt64).toNat = 128 := rfl
      simp; omega)]
    have he : w32 (((UInt8.ofNat d).toNat : Int) + ((UInt8.ofNat p).toNat : Int)) = ((d + p : Nat) : Int) := by
      rw [tn8 (by omega), tn8 (by omega), w32_id (by omega) (by omega)]; omega
    have hmul : w32 (w32 ((takeL tg 2 30).toNat : Int) * ((d + p : Nat) : Int)) = (n : Int) := by
      rw [hcnt, w32_id (x := (cn : Int)) (by omega) (by omega), ← Int.natCast_mul, hnm, w32_id (by omega) (by omega)]
    rw [he, hmul, if_neg, toU16_add1 s (by omega), ec]
    · have : (UInt64.ofNat cn).toUInt16 = UInt16.ofNat cn := by
        apply UInt16.toNat_inj.1
        rw [UInt64.toNat_toUInt16, UInt64.toNat_ofNat', UInt16.toNat_ofNat']; omega
      rw [this]
      rfl
    · rintro (⟨h2, h3⟩ | h2)
      · apply h3
        have : cn = 0 := by
          refine Decidable.byContradiction fun h4 => ?_
          have := h1 (by omega)
          omega
        rw [ec, this]; rfl
      · exact h2 rfl
end Eng
end Go.Proofs.Ygcfab
