/-
  What the pointer words of an editor resolve to.
-/
import Derived.Test.YgcfabEp1
set_option linter.unusedSimpArgs false
set_option linter.unusedVariables false
set_option maxRecDepth 100000
namespace Go.Proofs.Ygcfab
namespace Eng
theorem resolve_li {A : Nat → UInt64} {a s len c n : Nat} (ha : a < len) (hl : len ≤ 256) (hc0 : 2 ≤ c) (hc : c ≤ 6) (hn : n ≤ 128) (hA : A a = makeListL (UInt16.ofNat a) (UInt16.ofNat s) (UInt8.ofNat c) (UInt32.ofNat n)) (hs : s + (Piece.li c n).words ≤ len) (hs1 : 1 ≤ s ∨ (Piece.li c n).words = 0) :
    resolveL A len (UInt16.ofNat a) = (⟨2, UInt16.ofNat s, 0, 0, UInt8.ofNat c, UInt16.ofNat n⟩, true) := by
  unfold resolveL
  have hb : (UInt16.ofNat a + 1).toNat = a + 1 := by
    rw [UInt16.toNat_add, tn16 (by omega)]
    have : (1 : UInt16).toNat = 1 := rfl
    omega
  rw [tn16 (by omega), if_neg (by omega)]
  unfold resolveWordL
  rw [if_neg (by omega)]
  have hw := makeList_nat a s c n (by omega) (by omega) hc0 (by omega) (by omega) (fun _ => hn)
  rw [← hA] at hw
  generalize A a = w at *
  have ho := off30_lt a s
  have hsg := sign_of w a s (by omega) (by omega) (by rw [hw]; omega) _ hb
  have h02 : takeL w 0 2 = 1 := by
    apply UInt64.toNat_inj.1
    rw [t02, hw]
    show _ = 1
    omega
  have hw0 : w ≠ 0 := by
    rintro rfl
    have e0 : (0 : UInt64).toNat = 0 := rfl
    rw [e0] at hw
    omega
  have hcd : (takeL w 32 3).toUInt8 = UInt8.ofNat c := by
    have e : (takeL w 32 3).toNat = c := by rw [t32_3, hw]; omega
    rw [← e]; rfl
  have hcn : w32 ((takeL w 35 29).toNat : Int) = (n : Int) := by
    have e : (takeL w 35 29).toNat = n := by rw [t35_29, hw]; omega
    rw [e, w32_id (by omega) (by omega)]
  rw [if_neg hw0]
  simp only [hsg, h02, hcd, hcn, if_true]
  rw [if_neg (by decide), if_neg (by
    intro h
    have := congrArg UInt8.toNat h
    rw [tn8 (by omega)] at this
    have e : (7 : UInt8).toNat = 7 := rfl
    omega)]
  unfold plainL
  have c1 : ¬ (UInt8.ofNat c < 2 ∨ UInt8.ofNat c > 6 ∨ (n : Int) > 128) := by
    simp only [gt_iff_lt, UInt8.lt_iff_toNat_lt, tn8 (show c < 256 by omega)]
    have : (2 : UInt8).toNat = 2 := rfl
    have : (6 : UInt8).toNat = 6 := rfl
    omega
  rw [if_neg c1, toU16_nat, words_li 0 c n hc0 hc hn]
  rw [spans_of len _ _ hl hs hs1, if_pos rfl, toU16_nat]
theorem resolve_ss {A : Nat → UInt64} {a s len cn d p : Nat} (ha : a < len) (hl : len ≤ 256) (hs1 : 1 ≤ s) (hc : cn ≤ 128) (hd : d ≤ 8) (hp : p ≤ 8) (h1 : 0 < cn → 0 < d + p) (hm : cn * (d + p) ≤ 255)
    (hA : A a = makeListL (UInt16.ofNat a) (UInt16.ofNat s) 7 (UInt32.ofNat (cn * (d + p)))) (hT : A s = makeTagL (UInt16.ofNat cn) (UInt8.ofNat d) (UInt8.ofNat p)) (hs : s + (1 + cn * (d + p)) ≤ len) :
    resolveL A len (UInt16.ofNat a) = (⟨2, UInt16.ofNat (s + 1), UInt8.ofNat d, UInt8.ofNat p, 7, UInt16.ofNat cn⟩, true) := by
  unfold resolveL
  have hb : (UInt16.ofNat a + 1).toNat = a + 1 := by
    rw [UInt16.toNat_add, tn16 (by omega)]
    have : (1 : UInt16).toNat = 1 := rfl
    omega
  rw [tn16 (by omega), if_neg (by omega)]
  unfold resolveWordL
  rw [if_neg (by omega)]
  have hw := makeList_nat a s 7 (cn * (d + p)) (by omega) (by omega) (by omega) (by omega) (by omega) (fun h => absurd rfl h)
  have h7 : (UInt8.ofNat 7) = 7 := rfl
  rw [h7, ← hA] at hw
  have ht := makeTag_nat cn d p hc hd hp
  rw [← hT] at ht
  have hn : cn * (d + p) ≤ 255 := hm
  generalize hnm : cn * (d + p) = n at *
  generalize A a = w at *
  have ho := off30_lt a s
  have hsg := sign_of w a s (by omega) (by omega) (by rw [hw]; omega) _ hb
  have h02 : takeL w 0 2 = 1 := by
    apply UInt64.toNat_inj.1
    rw [t02, hw]
    show _ = 1
    omega
  have hw0 : w ≠ 0 := by
    rintro rfl
    have e0 : (0 : UInt64).toNat = 0 := rfl
    rw [e0] at hw
    omega
  have hcd : (takeL w 32 3).toUInt8 = 7 := by
    have e : (takeL w 32 3).toNat = 7 := by rw [t32_3, hw]; omega
    rw [← h7, ← e]; rfl
  have hcn : w32 ((takeL w 35 29).toNat : Int) = (n : Int) := by
    have e : (takeL w 35 29).toNat = n := by rw [t35_29, hw]; omega
    rw [e, w32_id (by omega) (by omega)]
  rw [if_neg hw0]
  simp only [hsg, h02, hcd, hcn, if_true]
  rw [if_neg (by decide)]
  unfold structsL
  have e1 : w32 ((n : Int) + 1) = ((n + 1 : Nat) : Int) := by rw [w32_id (by omega) (by omega)]; omega
  rw [e1, spans_of len s (n + 1) hl (by omega) (.inl hs1), if_pos rfl]
  simp only [Int.toNat_natCast]
  generalize A s = tg at *
  have hsec := sections_of tg d p (by rw [ht]; omega) (by rw [ht]; omega) hd hp
  have hcnt : (takeL tg 2 30).toNat = cn := by rw [t2_30, ht]; omega
  have ht0 : takeL tg 0 2 = 0 := by
    apply UInt64.toNat_inj.1
    rw [t02, ht]
    show _ = 0
    omega
  have ec : takeL tg 2 30 = UInt64.ofNat cn := by
    apply UInt64.toNat_inj.1
    rw [hcnt, UInt64.toNat_ofNat']; omega
  rw [hsec]
  simp only []
  rw [if_neg (by
    rw [ht0, ec]
    simp only [gt_iff_lt, UInt64.lt_iff_toNat_lt, UInt64.toNat_ofNat']
    have : (128 : UInt64).toNat = 128 := rfl
    simp; omega)]
  have he : w32 (((UInt8.ofNat d).toNat : Int) + ((UInt8.ofNat p).toNat : Int)) = ((d + p : Nat) : Int) := by
    rw [tn8 (by omega), tn8 (by omega), w32_id (by omega) (by omega)]; omega
  have hmul : w32 (w32 ((takeL tg 2 30).toNat : Int) * ((d + p : Nat) : Int)) = (n : Int) := by
    rw [hcnt, w32_id (x := (cn : Int)) (by omega) (by omega), ← Int.natCast_mul, hnm, w32_id (by omega) (by omega)]
  rw [he, hmul, if_neg, toU16_add1 s (by omega), ec]
  · have : (UInt64.ofNat cn).toUInt16 = UInt16.ofNat cn := by
      apply UInt16.toNat_inj.1
      rw [UInt64.toNat_toUInt16, UInt64.toNat_ofNat', UInt16.toNat_ofNat']; omega
    rw [this]
  · rintro (⟨h2, h3⟩ | h2)
    · apply h3
      have : cn = 0 := by
        refine Decidable.byContradiction fun h4 => ?_
        have := h1 (by omega)
        omega
      rw [ec, this]; rfl
    · exact h2 rfl

/-- what a list without a tag is, by its words -/
theorem words_ok' {p : Ptr} (hk : p.kind = 2) (h7 : p.code ≠ 7) (hw : (wordsL p).toNat ≤ 256) : 2 ≤ p.code.toNat ∧ p.code.toNat ≤ 6 ∧ p.count.toNat ≤ 128 ∧ (wordsL p).toNat = (Piece.li p.code.toNat p.count.toNat).words := by
  have e257 : (257 : UInt16).toNat = 257 := rfl
  have key : 2 ≤ p.code.toNat ∧ p.code.toNat ≤ 6 ∧ p.count.toNat ≤ 128 := by
    unfold wordsL at hw
    rw [if_neg (by rw [hk]; decide), if_neg (by rw [hk]; rintro ⟨h, _⟩; exact absurd h (by decide))] at hw
    by_cases c : p.kind ≠ 2 ∨ p.count > 128
    · rw [if_pos c] at hw; omega
    rw [if_neg c] at hw
    have hc : p.count.toNat ≤ 128 := by
      have : ¬ p.count > 128 := fun h => c (.inr h)
      rw [gt_iff_lt, UInt16.lt_iff_toNat_lt] at this
      have e : (128 : UInt16).toNat = 128 := rfl
      omega
    by_cases c5 : p.code ≥ 2 ∧ p.code ≤ 5
    · have h1 := UInt8.le_iff_toNat_le.1 c5.1
      have h2 := UInt8.le_iff_toNat_le.1 c5.2
      have e2 : (2 : UInt8).toNat = 2 := rfl
      have e5 : (5 : UInt8).toNat = 5 := rfl
      omega
    rw [if_neg c5] at hw
    by_cases c6 : p.code = 6
    · rw [c6]
      have e6 : (6 : UInt8).toNat = 6 := rfl
      omega
    rw [if_neg c6, if_neg (fun h => h7 h.1)] at hw
    omega
  refine ⟨key.1, key.2.1, key.2.2, ?_⟩
  rw [← words_li p.at_ p.code.toNat p.count.toNat key.1 key.2.1 key.2.2]
  have e : wordsL p = wordsL ⟨2, p.at_, 0, 0, UInt8.ofNat p.code.toNat, UInt16.ofNat p.count.toNat⟩ := by
    rw [UInt8.ofNat_toNat, UInt16.ofNat_toNat]
    unfold wordsL
    simp [hk, h7]
  rw [e]
theorem strB_iff (p : Ptr) : strB p = true ↔ p.kind = 2 ∧ p.code = 7 := by
  unfold strB
  simp
theorem firstL_str {p : Ptr} (h : strB p = true) : firstL p = p.at_ - 1 := by unfold firstL; rw [if_pos ((strB_iff p).1 h)]
theorem firstL_no {p : Ptr} (h : strB p = false) : firstL p = p.at_ := by
  unfold firstL
  rw [if_neg]
  intro h'
  rw [(strB_iff p).2 h'] at h
  cases h
theorem firstL_nat {p : Ptr} (h : strB p = true) (h1 : 1 ≤ p.at_.toNat) : (firstL p).toNat = p.at_.toNat - 1 := by
  have e1 : (1 : UInt16).toNat = 1 := rfl
  rw [firstL_str h, UInt16.toNat_sub_of_le _ _ (UInt16.le_iff_toNat_le.2 (by rw [e1]; exact h1)), e1]
theorem kind_st {p : Ptr} (h : kindOk p = true) (hk : p.kind = 1) : p.code = 0 ∧ p.count = 0 := by
  unfold kindOk at h
  rw [hk] at h
  simpa using h
theorem kind_li {p : Ptr} (h : kindOk p = true) (hk : p.kind = 2) (h7 : p.code ≠ 7) : p.data = 0 ∧ p.ptrs = 0 := by
  unfold kindOk at h
  rw [hk] at h
  simp [h7] at h
  exact h
theorem resolve_ptr {A : Nat → UInt64} {len i : Nat} {p : Ptr} (hl : len ≤ 256) (hi : i < len) (hin : insideL len p = true) (hk : kindOk p = true)
    (hw : strB p = true → A (firstL p).toNat = makeTagL p.count p.data p.ptrs ∧ (0 < p.count.toNat → 0 < p.data.toNat + p.ptrs.toNat)) (hA : A i = pointerL (UInt16.ofNat i) p) (hz : wlessB p = true → p.at_.toNat = i) :
    resolveL A len (UInt16.ofNat i) = (p, true) := by
  have hkk := ((inside_iff len p hl).1 hin).1
  rcases hkk with k1 | k2
  · obtain ⟨q1, q2⟩ := kind_st hk k1
    obtain ⟨i1, i2, i3, i4, i5⟩ := inside_st hl hin k1
    have hs : strB p = false := by
      cases c : strB p
      · rfl
      · have := (strB_iff p).1 c; rw [k1] at this; exact absurd this.1 (by decide)
    have hp : pointerL (UInt16.ofNat i) p = makeStructL (UInt16.ofNat i) p.at_ p.data p.ptrs := by
      unfold pointerL; rw [if_pos k1, firstL_no hs]
    rw [hp] at hA
    obtain ⟨kind, at_, data, ptrs, code, count⟩ := p
    simp only at k1 q1 q2 i1 i2 i4 i5 hA hz
    subst k1 q1 q2
    by_cases c0 : data = 0 ∧ ptrs = 0
    · obtain ⟨rfl, rfl⟩ := c0
      have hz' : at_.toNat = i := hz rfl
      have e1 : at_ = UInt16.ofNat i := eq16 hz'
      subst e1
      have := resolve_piece (A := A) (a := i) (s := 1) (len := len) (c := Piece.st 0 0) ⟨by omega, by omega, by
        rw [hA]
        apply UInt64.toNat_inj.1
        have h1 := makeStruct_nat i i 0 0 (by omega) (by omega) (by omega) (by omega)
        have h2 := makeStruct_nat i 1 0 0 (by omega) (by omega) (by omega) (by omega)
        simp only [and_self, if_true] at h1 h2
        rw [h2]
        exact h1⟩ hi hl (by omega) (by simp only [Piece.words]; omega)
      rw [this]
      simp [Piece.ptr]
    · have hd : ¬ (data.toNat = 0 ∧ ptrs.toNat = 0) := fun h => c0 ⟨UInt8.toNat_inj.1 h.1, UInt8.toNat_inj.1 h.2⟩
      have := resolve_piece (A := A) (a := i) (s := at_.toNat) (len := len) (c := Piece.st data.toNat ptrs.toNat) ⟨i1, i2, by rw [hA, UInt16.ofNat_toNat, UInt8.ofNat_toNat, UInt8.ofNat_toNat]⟩ hi hl (by omega) (by simp only [Piece.words]; omega)
      rw [this]
      unfold Piece.ptr
      simp only [if_neg hd, UInt16.ofNat_toNat, UInt8.ofNat_toNat]
  · by_cases c7 : p.code = 7
    · have hs := (strB_iff p).2 ⟨k2, c7⟩
      obtain ⟨i1, i2, i3, i4, i5, i6⟩ := inside_ss hl hin hs
      obtain ⟨w1, w2⟩ := hw hs
      have hf := firstL_nat hs (by omega)
      have hp : pointerL (UInt16.ofNat i) p = makeListL (UInt16.ofNat i) (firstL p) p.code ((wordsL p).toUInt32 - 1) := by
        unfold pointerL; rw [if_neg (by rw [k2]; decide), if_pos c7]
      have e32 : (wordsL p).toUInt32 - 1 = UInt32.ofNat (p.count.toNat * (p.data.toNat + p.ptrs.toNat)) := by
        apply UInt32.toNat_inj.1
        rw [UInt32.toNat_sub_of_le, UInt16.toNat_toUInt32, i4, UInt32.toNat_ofNat']
        · have e : (1 : UInt32).toNat = 1 := rfl
          omega
        · rw [UInt32.le_iff_toNat_le, UInt16.toNat_toUInt32, i4]
          have e : (1 : UInt32).toNat = 1 := rfl
          omega
      have := resolve_ss (A := A) (a := i) (s := p.at_.toNat - 1) (len := len) (cn := p.count.toNat) (d := p.data.toNat) (p := p.ptrs.toNat) hi hl (by omega) i1 i2 i3 w2 (by omega)
        (by rw [hA, hp, c7, e32, ← hf, UInt16.ofNat_toNat]) (by rw [← hf, w1, UInt16.ofNat_toNat, UInt8.ofNat_toNat, UInt8.ofNat_toNat]) (by omega)
      rw [this, show p.at_.toNat - 1 + 1 = p.at_.toNat by omega, UInt16.ofNat_toNat, UInt16.ofNat_toNat, UInt8.ofNat_toNat, UInt8.ofNat_toNat]
      obtain ⟨kind, at_, data, ptrs, code, count⟩ := p
      simp only at k2 c7
      subst k2 c7
      rfl
    · obtain ⟨q1, q2⟩ := kind_li hk k2 c7
      have hs : strB p = false := by
        cases c : strB p
        · rfl
        · exact absurd ((strB_iff p).1 c).2 c7
      obtain ⟨_, hh⟩ := (inside_iff len p hl).1 hin
      rw [if_neg (fun h => c7 h.2)] at hh
      obtain ⟨w1, w2, w3, w4⟩ := words_ok' k2 c7 (by omega)
      have hp : pointerL (UInt16.ofNat i) p = makeListL (UInt16.ofNat i) p.at_ p.code p.count.toUInt32 := by
        unfold pointerL; rw [if_neg (by rw [k2]; decide), if_neg c7, firstL_no hs]
      have e32 : p.count.toUInt32 = UInt32.ofNat p.count.toNat := by
        apply UInt32.toNat_inj.1
        rw [UInt16.toNat_toUInt32, UInt32.toNat_ofNat']
        omega
      have := resolve_li (A := A) (a := i) (s := p.at_.toNat) (len := len) (c := p.code.toNat) (n := p.count.toNat) hi hl w1 w2 w3 (by rw [hA, hp, e32, UInt16.ofNat_toNat, UInt8.ofNat_toNat]) (by rw [← w4]; exact hh.1) (by rw [← w4]; exact hh.2.elim .inr .inl)
      rw [this, UInt16.ofNat_toNat, UInt16.ofNat_toNat, UInt8.ofNat_toNat]
      obtain ⟨kind, at_, data, ptrs, code, count⟩ := p
      simp only at k2 q1 q2
      subst k2 q1 q2
      rfl
theorem ptr_ne0 {A : Nat → UInt64} {len i : Nat} {p : Ptr} (hl : len ≤ 256) (hi : i < len) (hin : insideL len p = true) (h : resolveL A len (UInt16.ofNat i) = (p, true)) : A i ≠ 0 := by
  intro e
  unfold resolveL at h
  rw [tn16 (by omega), if_neg (by omega)] at h
  unfold resolveWordL at h
  rw [if_neg (by omega), if_pos e] at h
  have : p = .zero := by
    have := congrArg Prod.fst h
    exact this.symm
  rw [this] at hin
  have := ((inside_iff len _ hl).1 hin).1
  exact absurd this (by decide)
end Eng
end Go.Proofs.Ygcfab
