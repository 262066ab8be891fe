/-
  The plain functions of wire and bitsx: what the Go functions compute, on plain words.
-/
import Derived.Test.YgcfabOps
set_option maxRecDepth 100000
set_option linter.unusedSimpArgs false
set_option linter.unusedVariables false
namespace Go.Proofs.Ygcfab
namespace Eng

def maskL (n : UInt8) : UInt64 := shl64 1 n.toNat - 1
def fitsL (a n : UInt8) : Bool := decide (w64 ((a.toNat : Int) + (n.toNat : Int)) ≤ 64)
def takeL (w : UInt64) (a n : UInt8) : UInt64 := if fitsL a n then shr64 w a.toNat &&& maskL n else 0
def putL (w v : UInt64) (a n : UInt8) : UInt64 := if fitsL a n then (w &&& ~~~(shl64 (maskL n) a.toNat)) ||| (shl64 (v &&& maskL n) a.toNat) else w
def signL (v : UInt64) (n : UInt8) : Int :=
  if n == 0 then 0 else if n ≥ 64 then w64 (v.toNat : Int)
  else w64 ((((v &&& maskL n) ^^^ shl64 1 (n - 1).toNat) - shl64 1 (n - 1).toNat).toNat : Int)

structure Ptr where
  kind : UInt8
  at_ : UInt16
  data : UInt8
  ptrs : UInt8
  code : UInt8
  count : UInt16
def Ptr.zero : Ptr := ⟨0, 0, 0, 0, 0, 0⟩
theorem Ptr.eta (p : Ptr) : (⟨p.kind, p.at_, p.data, p.ptrs, p.code, p.count⟩ : Ptr) = p := rfl
def Ptr.beq (p q : Ptr) : Bool := p.kind == q.kind && p.at_ == q.at_ && p.data == q.data && p.ptrs == q.ptrs && p.code == q.code && p.count == q.count
theorem Ptr.beq_iff (p q : Ptr) : p.beq q = true ↔ p = q := by
  cases p; cases q
  simp [Ptr.beq, and_assoc]
def pl (p : Ptr) : List Value := [u8 p.kind, u16 p.at_, u8 p.data, u8 p.ptrs, u8 p.code, u16 p.count]
def pv (p : Ptr) : Value := .agg (pl p).toArray
theorem pv_cells (p : Ptr) : (pv p).cells = (pl p).toArray := rfl
theorem pl_len (p : Ptr) : (pl p).length = 6 := rfl
theorem pl_0 (p : Ptr) : lget (pl p) 0 = u8 p.kind := rfl
theorem pl_1 (p : Ptr) : lget (pl p) 1 = u16 p.at_ := rfl
theorem pl_2 (p : Ptr) : lget (pl p) 2 = u8 p.data := rfl
theorem pl_3 (p : Ptr) : lget (pl p) 3 = u8 p.ptrs := rfl
theorem pl_4 (p : Ptr) : lget (pl p) 4 = u8 p.code := rfl
theorem pl_5 (p : Ptr) : lget (pl p) 5 = u16 p.count := rfl
theorem pv_eta (p : Ptr) : pv ⟨p.kind, p.at_, p.data, p.ptrs, p.code, p.count⟩ = pv p := rfl
theorem pv_fold (a : UInt8) (b : UInt16) (c d e : UInt8) (f : UInt16) : Value.agg [u8 a, u16 b, u8 c, u8 d, u8 e, u16 f].toArray = pv ⟨a, b, c, d, e, f⟩ := rfl

def widthL (c : UInt8) : UInt8 := if c < 2 ∨ c > 5 then 0 else shl8 1 (c - 2).toNat
def sizedL (p : Ptr) : Bool := decide (p.data ≤ 8) && decide (p.ptrs ≤ 8)
def eachL (p : Ptr) : UInt16 := p.data.toUInt16 + p.ptrs.toUInt16
def wordsL (p : Ptr) : UInt16 :=
  if p.kind = 0 then 0
  else if p.kind = 1 ∧ sizedL p = true then eachL p
  else if p.kind ≠ 2 ∨ p.count > 128 then 257
  else if p.code ≥ 2 ∧ p.code ≤ 5 then (p.count * (widthL p.code).toUInt16 + 7) / 8
  else if p.code = 6 then p.count
  else if p.code = 7 ∧ sizedL p = true then min (1 + p.count * eachL p) 257
  else 257
def firstL (p : Ptr) : UInt16 := if p.kind = 2 ∧ p.code = 7 then p.at_ - 1 else p.at_
def offsetL (f t : UInt16) : UInt64 := putL 0 (toU64 (w32 (w32 ((t.toNat : Int) - (f.toNat : Int)) - 1))) 2 30
def makeStructL (f t : UInt16) (d p : UInt8) : UInt64 :=
  if f ≥ 256 ∨ t > 256 ∨ d > 8 ∨ p > 8 then 0
  else (offsetL f (if d = 0 ∧ p = 0 then f else t) ||| shl64 d.toUInt64 32) ||| shl64 p.toUInt64 48
def makeListL (f t : UInt16) (c : UInt8) (n : UInt32) : UInt64 :=
  if f ≥ 256 ∨ t > 256 ∨ c < 2 ∨ c > 7 then 0
  else if n > 256 ∨ c ≠ 7 ∧ n > 128 then 0
  else ((1 ||| offsetL f t) ||| shl64 c.toUInt64 32) ||| shl64 n.toUInt64 35
def makeTagL (c : UInt16) (d p : UInt8) : UInt64 :=
  if c > 128 ∨ d > 8 ∨ p > 8 then 0
  else (shl64 c.toUInt64 2 ||| shl64 d.toUInt64 32) ||| shl64 p.toUInt64 48
def sectionsL (w : UInt64) : UInt8 × UInt8 × Bool :=
  if takeL w 32 16 > 8 ∨ takeL w 48 16 > 8 then (0, 0, false) else ((takeL w 32 16).toUInt8, (takeL w 48 16).toUInt8, true)
def spansL (len : Nat) (low : UInt16) (to n : Int) : Bool :=
  if n = 0 then decide (to ≥ 0) && decide (to ≤ w32 (len : Int))
  else decide (to ≥ (low.toNat : Int)) && decide (w32 (to + n) ≤ w32 (len : Int))
def plainL (len : Nat) (low : UInt16) (to : Int) (code : UInt8) (n : Int) : Ptr × Bool :=
  if code < 2 ∨ code > 6 ∨ n > 128 then (.zero, false)
  else if spansL len low to ((wordsL ⟨2, 0, 0, 0, code, toU16 n⟩).toNat : Int) then (⟨2, toU16 to, 0, 0, code, toU16 n⟩, true)
  else (.zero, false)
def structsL (A : Nat → UInt64) (len : Nat) (low : UInt16) (to n : Int) : Ptr × Bool :=
  if spansL len low to (w32 (n + 1)) then
    let tag := A to.toNat
    let s := sectionsL tag
    let count := takeL tag 2 30
    if s.2.2 = false ∨ takeL tag 0 2 ≠ 0 ∨ count > 128 then (.zero, false)
    else
      let each := w32 ((s.1.toNat : Int) + (s.2.1.toNat : Int))
      if (each = 0 ∧ count ≠ 0) ∨ w32 (w32 (count.toNat : Int) * each) ≠ n then (.zero, false)
      else (⟨2, toU16 (w32 (to + 1)), s.1, s.2.1, 7, count.toUInt16⟩, true)
  else (.zero, false)
def resolveWordL (A : Nat → UInt64) (len : Nat) (w : UInt64) (base low : UInt16) : Ptr × Bool :=
  if (len : Int) > 256 then (.zero, false)
  else if w = 0 then (.zero, true)
  else
    let to := w32 ((base.toNat : Int) + w32 (signL (shr64 w 2) 30))
    if takeL w 0 2 = 0 then
      let s := sectionsL w
      if s.2.2 = false ∨ spansL len low to (w32 ((s.1.toNat : Int) + (s.2.1.toNat : Int))) = false then (.zero, false)
      else (⟨1, toU16 to, s.1, s.2.1, 0, 0⟩, true)
    else if takeL w 0 2 = 1 then
      if (takeL w 32 3).toUInt8 = 7 then structsL A len low to (w32 (takeL w 35 29).toNat)
      else plainL len low to (takeL w 32 3).toUInt8 (w32 (takeL w 35 29).toNat)
    else (.zero, false)
def resolveL (A : Nat → UInt64) (len : Nat) (at_ : UInt16) : Ptr × Bool :=
  if (len : Int) > 256 ∨ (at_.toNat : Int) ≥ (len : Int) then (.zero, false)
  else resolveWordL A len (A at_.toNat) (at_ + 1) 1
def bytesL (p : Ptr) : Nat := p.count.toNat * (widthL p.code).toNat
def paddedL (A : Nat → UInt64) (len : Nat) (p : Ptr) : Bool :=
  if p.kind ≠ 2 then true
  else if bytesL p % 8 = 0 then true
  else decide (p.at_.toNat + bytesL p / 8 < len) && (shr64 (A (p.at_.toNat + bytesL p / 8)) (bytesL p % 8 * 8) == 0)
theorem widthL_le (c : UInt8) : (widthL c).toNat ≤ 8 := by
  unfold widthL
  split
  · decide
  · rename_i h
    have h1 : 2 ≤ c.toNat := by
      rcases Nat.lt_or_ge c.toNat 2 with h' | h'
      · exact absurd (.inl (UInt8.lt_iff_toNat_lt.2 h')) h
      · exact h'
    have h2 : c.toNat ≤ 5 := by
      rcases Nat.lt_or_ge 5 c.toNat with h' | h'
      · exact absurd (.inr (UInt8.lt_iff_toNat_lt.2 h')) h
      · exact h'
    unfold shl8
    rw [UInt8.toNat_ofNat', UInt8.toNat_sub_of_le c 2 (UInt8.le_iff_toNat_le.2 (show (2 : UInt8).toNat ≤ c.toNat from h1))]
    have h3 : (1 : UInt8).toNat = 1 := rfl
    have h4 : (2 : UInt8).toNat = 2 := rfl
    rw [h3, h4]
    have : c.toNat - 2 = 0 ∨ c.toNat - 2 = 1 ∨ c.toNat - 2 = 2 ∨ c.toNat - 2 = 3 := by omega
    rcases this with e | e | e | e <;> rw [e] <;> decide
theorem bytesL_le (p : Ptr) : bytesL p ≤ 524280 := by
  unfold bytesL
  have h1 := p.count.toNat_lt
  have h2 := widthL_le p.code
  calc p.count.toNat * (widthL p.code).toNat ≤ 65535 * 8 := Nat.mul_le_mul (by omega) h2
    _ = 524280 := rfl
def insideL (len : Nat) (p : Ptr) : Bool :=
  if (len : Int) > 256 ∨ p.kind ≠ 1 ∧ p.kind ≠ 2 then false
  else
    let n : Int := ((wordsL p).toNat : Int)
    let first := if p.kind = 2 ∧ p.code = 7 then w64 ((p.at_.toNat : Int) - 1) else (p.at_.toNat : Int)
    decide (w64 (first + n) ≤ (len : Int)) && (decide (n = 0) || decide (first ≥ 1))
theorem xor29 (a b : Nat) (ha : a < 2 ^ 29) : (2 ^ 29 * b + a) ^^^ (2 ^ 29) = 2 ^ 29 * (b ^^^ 1) + a := by
  apply Nat.eq_of_testBit_eq
  intro i
  rw [Nat.testBit_xor, Nat.testBit_two_pow_mul_add _ ha, Nat.testBit_two_pow_mul_add _ ha, Nat.testBit_two_pow]
  by_cases hi : i < 29
  · have : ¬ (29 = i) := by omega
    simp [hi, this]
  · by_cases h0 : i = 29
    · subst h0
      rw [if_neg hi, if_neg hi, Nat.testBit_xor]
      rfl
    · have h1 : ¬ (29 = i) := fun e => h0 e.symm
      have h2 : Nat.testBit 1 (i - 29) = false := by
        cases h : Nat.testBit 1 (i - 29) with
        | false => rfl
        | true => have := Nat.testBit_one_eq_true_iff_self_eq_zero.1 h; omega
      simp [hi, h1, Nat.testBit_xor, h2]
theorem xor29_lo (m : Nat) (h : m < 536870912) : m ^^^ 536870912 = m + 536870912 := by
  have := xor29 m 0 h
  rw [Nat.mul_zero, Nat.zero_add] at this
  rw [show (536870912 : Nat) = 2 ^ 29 from rfl, this, Nat.zero_xor, Nat.mul_one, Nat.add_comm]
theorem xor29_hi (m : Nat) (h0 : 536870912 ≤ m) (h : m < 1073741824) : m ^^^ 536870912 = m - 536870912 := by
  have := xor29 (m - 536870912) 1 (by have : (2:Nat) ^ 29 = 536870912 := rfl; omega)
  rw [Nat.xor_self, Nat.mul_zero, Nat.zero_add, Nat.mul_one] at this
  have e : 2 ^ 29 + (m - 536870912) = m := by have : (2:Nat) ^ 29 = 536870912 := rfl; omega
  rw [e] at this
  exact this
theorem maskL_toNat (n : UInt8) (h : n.toNat < 64) : (maskL n).toNat = 2 ^ n.toNat - 1 := by
  unfold maskL shl64
  have h1 : (2 : Nat) ^ n.toNat < 2 ^ 64 := Nat.pow_lt_pow_right (by decide) h
  have h2 : 0 < (2 : Nat) ^ n.toNat := Nat.pow_pos (by decide)
  rw [UInt64.toNat_sub_of_le]
  · simp only [UInt64.toNat_ofNat', UInt64.toNat_one, Nat.one_mul, Nat.mod_eq_of_lt h1]
  · rw [UInt64.le_iff_toNat_le]
    simp only [UInt64.toNat_ofNat', UInt64.toNat_one, Nat.one_mul, Nat.mod_eq_of_lt h1]
    omega
theorem top29 : (shl64 1 (30 - 1 : UInt8).toNat).toNat = 536870912 := rfl
theorem sign30_nat (v : UInt64) : (((v &&& maskL 30) ^^^ shl64 1 (30 - 1 : UInt8).toNat) - shl64 1 (30 - 1 : UInt8).toNat).toNat = if v.toNat % 1073741824 < 536870912 then v.toNat % 1073741824 else 18446744073709551616 - 1073741824 + v.toNat % 1073741824 := by
  have e1 : (v &&& maskL 30).toNat = v.toNat % 1073741824 := by
    rw [UInt64.toNat_and, maskL_toNat 30 (by decide)]
    exact Nat.and_two_pow_sub_one_eq_mod _ 30
  rw [UInt64.toNat_sub, UInt64.toNat_xor, e1, top29]
  have hm : v.toNat % 1073741824 < 1073741824 := Nat.mod_lt _ (by decide)
  generalize v.toNat % 1073741824 = m at *
  split
  · rw [xor29_lo m (by assumption)]; omega
  · rw [xor29_hi m (by omega) hm]; omega
theorem sign30_eq (v : UInt64) : signL v 30 = if v.toNat % 1073741824 < 536870912 then ((v.toNat % 1073741824 : Nat) : Int) else ((v.toNat % 1073741824 : Nat) : Int) - 1073741824 := by
  have e4 : signL v 30 = w64 ((((v &&& maskL 30) ^^^ shl64 1 (30 - 1 : UInt8).toNat) - shl64 1 (30 - 1 : UInt8).toNat).toNat : Int) := by
    unfold signL
    rw [if_neg (by decide), if_neg (by decide)]
  rw [e4, sign30_nat, w64_eq]
  have hm : v.toNat % 1073741824 < 1073741824 := Nat.mod_lt _ (by decide)
  generalize v.toNat % 1073741824 = m at *
  split
  · rw [if_neg (by omega)]; omega
  · rw [if_pos (by omega)]; omega
theorem sign30 (w : UInt64) : -536870912 ≤ signL (shr64 w 2) 30 ∧ signL (shr64 w 2) 30 ≤ 536870911 := by
  rw [sign30_eq]
  have hm : (shr64 w 2).toNat % 1073741824 < 1073741824 := Nat.mod_lt _ (by decide)
  split <;> omega
theorem take_lt (w : UInt64) (a n : UInt8) : (takeL w a n).toNat < 2 ^ n.toNat := by
  have h2 : 0 < (2 : Nat) ^ n.toNat := Nat.pow_pos (by decide)
  unfold takeL
  split
  · rcases Nat.lt_or_ge n.toNat 64 with h | h
    · rw [UInt64.toNat_and, maskL_toNat n h, Nat.and_two_pow_sub_one_eq_mod]
      exact Nat.mod_lt _ h2
    · exact Nat.lt_of_lt_of_le (UInt64.toNat_lt _) (Nat.pow_le_pow_right (by decide) h)
  · exact h2
end Eng
end Go.Proofs.Ygcfab
