/-
  Package edit, without Go: what the clauses give to one another.
-/
import Derived.Test.YgcfabEd7
set_option linter.unusedSimpArgs false
set_option linter.unusedVariables false
namespace Go.Proofs.Ygcfab
namespace Eng
theorem sizedL_iff (p : Ptr) : sizedL p = true ↔ p.data.toNat ≤ 8 ∧ p.ptrs.toNat ≤ 8 := by
  unfold sizedL
  simp only [Bool.and_eq_true, decide_eq_true_eq, UInt8.le_iff_toNat_le]
  exact Iff.rfl
theorem each_nat (p : Ptr) : (eachL p).toNat = p.data.toNat + p.ptrs.toNat := by
  unfold eachL
  have h1 := p.data.toNat_lt
  have h2 := p.ptrs.toNat_lt
  rw [UInt16.toNat_add, UInt8.toNat_toUInt16, UInt8.toNat_toUInt16]
  omega
theorem inside_st {len : Nat} {p : Ptr} (hl : len ≤ 256) (h : insideL len p = true) (hk : p.kind = 1) : p.data.toNat ≤ 8 ∧ p.ptrs.toNat ≤ 8 ∧ (wordsL p).toNat = p.data.toNat + p.ptrs.toNat ∧ p.at_.toNat + (p.data.toNat + p.ptrs.toNat) ≤ len ∧ (p.data.toNat + p.ptrs.toNat = 0 ∨ 1 ≤ p.at_.toNat) := by
  obtain ⟨_, h⟩ := (inside_iff len p hl).1 h
  have hn : ¬ (p.kind = 2 ∧ p.code = 7) := by rw [hk]; rintro ⟨h, _⟩; exact absurd h (by decide)
  rw [if_neg hn] at h
  have hw : wordsL p = if sizedL p = true then eachL p else 257 := by
    unfold wordsL
    rw [if_neg (by rw [hk]; decide)]
    by_cases c : sizedL p = true
    · rw [if_pos ⟨hk, c⟩, if_pos c]
    · rw [if_neg (fun h => c h.2), if_neg c, if_pos (.inl (by rw [hk]; decide))]
  by_cases c : sizedL p = true
  · rw [if_pos c] at hw
    rw [hw, each_nat] at h
    have := (sizedL_iff p).1 c
    exact ⟨this.1, this.2, by rw [hw, each_nat], h.1, h.2⟩
  · rw [if_neg c] at hw
    rw [hw] at h
    have e : (257 : UInt16).toNat = 257 := rfl
    omega
theorem inside_ss {len : Nat} {p : Ptr} (hl : len ≤ 256) (h : insideL len p = true) (hs : strB p = true) :
    p.count.toNat ≤ 128 ∧ p.data.toNat ≤ 8 ∧ p.ptrs.toNat ≤ 8 ∧ (wordsL p).toNat = 1 + p.count.toNat * (p.data.toNat + p.ptrs.toNat) ∧ 2 ≤ p.at_.toNat ∧ p.at_.toNat + p.count.toNat * (p.data.toNat + p.ptrs.toNat) ≤ len := by
  obtain ⟨_, h⟩ := (inside_iff len p hl).1 h
  unfold strB at hs
  simp only [Bool.and_eq_true, beq_iff_eq] at hs
  rw [if_pos hs] at h
  have e257 : (257 : UInt16).toNat = 257 := rfl
  have hw : wordsL p = if p.count > 128 then 257 else if sizedL p = true then min (1 + p.count * eachL p) 257 else 257 := by
    unfold wordsL
    rw [if_neg (by rw [hs.1]; decide), if_neg (by rw [hs.1]; rintro ⟨h, _⟩; exact absurd h (by decide))]
    by_cases c : p.count > 128
    · rw [if_pos (.inr c), if_pos c]
    · rw [if_neg (by rintro (h | h); exact h hs.1; exact c h), if_neg c, if_neg (by rw [hs.2]; rintro ⟨_, h⟩; exact absurd h (by decide)), if_neg (by rw [hs.2]; decide)]
      by_cases c2 : sizedL p = true
      · rw [if_pos ⟨hs.2, c2⟩, if_pos c2]
      · rw [if_neg (fun h => c2 h.2), if_neg c2]
  by_cases c : p.count > 128
  · rw [if_pos c] at hw; rw [hw] at h; omega
  rw [if_neg c] at hw
  by_cases c2 : sizedL p = true
  · rw [if_pos c2] at hw
    have h8 := (sizedL_iff p).1 c2
    have hcc : p.count.toNat ≤ 128 := by
      rw [gt_iff_lt, UInt16.lt_iff_toNat_lt] at c
      have e : (128 : UInt16).toNat = 128 := rfl
      omega
    have hm : p.count.toNat * (p.data.toNat + p.ptrs.toNat) ≤ 128 * 16 := Nat.mul_le_mul hcc (by omega)
    have e : 1 + p.count * eachL p = UInt16.ofNat (1 + p.count.toNat * (p.data.toNat + p.ptrs.toNat)) := by
      apply eq16
      rw [UInt16.toNat_add, UInt16.toNat_mul, each_nat]
      have e1 : (1 : UInt16).toNat = 1 := rfl
      rw [e1]; omega
    have e2 : (257 : UInt16) = UInt16.ofNat 257 := rfl
    rw [e, e2, min16 (by omega) (by omega)] at hw
    have hwn : (wordsL p).toNat = min (1 + p.count.toNat * (p.data.toNat + p.ptrs.toNat)) 257 := by rw [hw, tn16 (by omega)]
    rw [hwn] at h
    refine ⟨hcc, h8.1, h8.2, by omega, by omega, by omega⟩
  · rw [if_neg c2] at hw; rw [hw] at h; omega
theorem inside_six {len : Nat} {p : Ptr} (hl : len ≤ 256) (h : insideL len p = true) (hk : p.kind = 2) (hc : p.code = 6) : p.count.toNat ≤ 128 ∧ (wordsL p).toNat = p.count.toNat ∧ p.at_.toNat + p.count.toNat ≤ len := by
  obtain ⟨_, h⟩ := (inside_iff len p hl).1 h
  rw [if_neg (by rw [hc]; rintro ⟨_, h⟩; exact absurd h (by decide))] at h
  have e257 : (257 : UInt16).toNat = 257 := rfl
  have hw : wordsL p = if p.count > 128 then 257 else p.count := by
    unfold wordsL
    rw [if_neg (by rw [hk]; decide), if_neg (by rw [hk]; rintro ⟨h, _⟩; exact absurd h (by decide))]
    by_cases c : p.count > 128
    · rw [if_pos (.inr c), if_pos c]
    · rw [if_neg (by rintro (h | h); exact h hk; exact c h), if_neg c, if_neg (by rw [hc]; rintro ⟨_, h⟩; exact absurd h (by decide)), if_pos hc]
  by_cases c : p.count > 128
  · rw [if_pos c] at hw; rw [hw] at h; omega
  · rw [if_neg c] at hw
    rw [hw] at h ⊢
    rw [gt_iff_lt, UInt16.lt_iff_toNat_lt] at c
    have e : (128 : UInt16).toNat = 128 := rfl
    omega
/-- an element and its list -/
structure ElemOf (S : Ed) (k u : Nat) : Prop where
  up : (S.O k).up.toInt = (u : Int)
  pos : 1 ≤ u
  lt : u < S.cnt
  live : (S.O u).dead = false
  top : (S.O u).elem = false
  str : strB (S.O u).p = true
  via : (S.O k).via.toNat < (S.O u).p.count.toNat
  at_ : k = u + 1 + (S.O k).via.toNat
  p : (S.O k).p = elemP (S.O u).p (S.O k).via.toNat
theorem elem_of {S : Ed} (h1 : C1 S S.cnt) (h2 : C2 S S.cnt) : ∀ n k, k ≤ n → 1 ≤ k → k < S.cnt → (S.O k).dead = false → (S.O k).elem = true → ∃ u, ElemOf S k u := by
  intro n
  induction n with
  | zero => intro k hk h0; omega
  | succ n ih =>
    intro k hkn hk1 hk hd he
    have hs := h1.shaped k hk1 hk hd
    unfold shapedB at hs
    rw [he] at hs
    simp only [if_true] at hs
    obtain ⟨a1, a2, a3⟩ := (aliveB_iff S _).1 hs
    have hel := h2.element k hk1 hk hd
    unfold elementB at hel
    rw [he] at hel
    simp only [if_true] at hel
    unfold isElem at hel
    simp only [Bool.and_eq_true, decide_eq_true_eq, beq_iff_eq] at hel
    obtain ⟨b1, b2, b3, b4⟩ := hel
    obtain ⟨u, hu⟩ : ∃ u : Nat, (S.O k).up.toInt = (u : Int) := ⟨(S.O k).up.toInt.toNat, by omega⟩
    rw [hu] at a1 a2 a3 b1 b2 b3 b4
    simp only [Int.toNat_natCast] at a3 b2 b3
    have hu1 : 1 ≤ u := by omega
    have huc : u < S.cnt := by omega
    have hv : (S.O k).via.toNat < (S.O u).p.count.toNat := by
      rw [UInt16.lt_iff_toNat_lt, UInt8.toNat_toUInt16] at b3; exact b3
    have hku : k = u + 1 + (S.O k).via.toNat := by omega
    have hue : (S.O u).elem = false := by
      cases hc : (S.O u).elem
      · rfl
      · obtain ⟨w, hw⟩ := ih u (by omega) hu1 huc a3 hc
        have hp := hw.p
        unfold strB at b2
        rw [hp] at b2
        simp [elemP] at b2
    have hlu := h2.element u hu1 huc a3
    unfold elementB at hlu
    rw [hue, b2] at hlu
    simp only [Bool.false_eq_true, if_false, if_true] at hlu
    unfold listOk at hlu
    simp only [Bool.and_eq_true] at hlu
    have hall := (allTo_iff _ _).1 hlu.2 (S.O k).via.toNat hv
    unfold elemOk at hall
    rw [← hku] at hall
    simp only [Bool.and_eq_true] at hall
    exact ⟨u, hu, hu1, huc, a3, hue, b2, hv, hku, (Ptr.beq_iff _ _).1 hall.2⟩
theorem wk_of {S : Ed} (h0 : S.O 0 = ob0) (h1 : C1 S S.cnt) (h2 : C2 S S.cnt) : ∀ n (h : Int) (d : Nat), d ≤ 8 → (h ≤ 0 ∨ (h < (S.cnt : Int) ∧ (S.O h.toNat).dead = false)) → 2 * (9 - d) + (if (S.O h.toNat).elem then 1 else 0) ≤ n → Wk S n h d := by
  intro n
  induction n with
  | zero => intro h d hd hh hn; omega
  | succ n ih =>
    intro h d hd hh hn
    by_cases hp : h ≤ 0
    · exact .inl hp
    obtain ⟨ha, hb⟩ := hh.resolve_left hp
    refine .inr ⟨ha, ?_⟩
    obtain ⟨k, rfl⟩ : ∃ k : Nat, h = (k : Int) := ⟨h.toNat, by omega⟩
    simp only [Int.toNat_natCast] at hb hn
    cases he : (S.O k).elem
    · have e1 : stepD S (k : Nat) = 1 := by unfold stepD; rw [Int.toNat_natCast, he]; rfl
      rw [e1]
      by_cases h8 : 8 < d + 1
      · exact .inl h8
      · right
        simp only [he, Bool.false_eq_true, if_false] at hn
        have hs := shaped_top he (h1.shaped k (by omega) (by omega) hb)
        refine ih _ (d + 1) (by omega) ?_ ?_
        · unfold upI
          rw [Int.toNat_natCast]
          rcases up_of hs.2.1 with h | h
          · rw [h]; left; decide
          · exact .inr h.2
        · split <;> omega
    · have e1 : stepD S (k : Nat) = 0 := by unfold stepD; rw [Int.toNat_natCast, he]; rfl
      rw [e1, Nat.add_zero]
      right
      simp only [he, if_true] at hn
      obtain ⟨u, hu⟩ := elem_of h1 h2 k k (Nat.le_refl _) (by omega) (by omega) hb he
      have e2 : upI S (k : Nat) = (u : Int) := by unfold upI; rw [Int.toNat_natCast]; exact hu.up
      rw [e2]
      refine ih _ d hd (.inr ⟨by have := hu.lt; omega, by rw [Int.toNat_natCast]; exact hu.live⟩) ?_
      simp only [Int.toNat_natCast, hu.top, Bool.false_eq_true, if_false]
      omega
theorem elem_range {S : Ed} (hl : S.len ≤ 256) (h1 : C1 S S.cnt) {k u : Nat} (h : ElemOf S k u) :
    (S.O k).p.kind = 1 ∧ (S.O k).p.data = (S.O u).p.data ∧ (S.O k).p.ptrs = (S.O u).p.ptrs ∧ (S.O k).p.at_.toNat = (S.O u).p.at_.toNat + (S.O k).via.toNat * ((S.O u).p.data.toNat + (S.O u).p.ptrs.toNat) ∧
      (S.O k).p.at_.toNat + ((S.O u).p.data.toNat + (S.O u).p.ptrs.toNat) ≤ (S.O u).p.at_.toNat + (S.O u).p.count.toNat * ((S.O u).p.data.toNat + (S.O u).p.ptrs.toNat) ∧
      (S.O u).p.at_.toNat + (S.O u).p.count.toNat * ((S.O u).p.data.toNat + (S.O u).p.ptrs.toNat) ≤ S.len := by
  have hs := shaped_top h.top (h1.shaped u h.pos h.lt h.live)
  obtain ⟨i1, i2, i3, i4, i5, i6⟩ := inside_ss hl hs.1 h.str
  have hp := h.p
  have hv := h.via
  have hm : (S.O k).via.toNat * ((S.O u).p.data.toNat + (S.O u).p.ptrs.toNat) + ((S.O u).p.data.toNat + (S.O u).p.ptrs.toNat) ≤ (S.O u).p.count.toNat * ((S.O u).p.data.toNat + (S.O u).p.ptrs.toNat) := by
    rw [← Nat.succ_mul]; exact Nat.mul_le_mul_right _ hv
  have hat : (S.O k).p.at_.toNat = (S.O u).p.at_.toNat + (S.O k).via.toNat * ((S.O u).p.data.toNat + (S.O u).p.ptrs.toNat) := by
    rw [hp]
    show ((S.O u).p.at_ + UInt16.ofNat (S.O k).via.toNat * ((S.O u).p.data.toUInt16 + (S.O u).p.ptrs.toUInt16)).toNat = _
    have e := each_nat (S.O u).p
    unfold eachL at e
    rw [UInt16.toNat_add, UInt16.toNat_mul, e, tn16 (by omega)]
    omega
  refine ⟨by rw [hp]; rfl, by rw [hp]; rfl, by rw [hp]; rfl, hat, by omega, i6⟩
theorem ptr_range {S : Ed} (hl : 1 ≤ S.len ∧ S.len ≤ 256) (h0 : S.O 0 = ob0) (h1 : C1 S S.cnt) (h2 : C2 S S.cnt) (k : Nat) (hk : k < S.cnt) (hn : 0 < (ptrN (S.O k)).toNat) : (ptrA (S.O k)).toNat + (ptrN (S.O k)).toNat ≤ S.len := by
  by_cases k0 : k = 0
  · subst k0
    rw [h0]
    have e1 : (ptrA ob0).toNat = 0 := by decide
    have e2 : (ptrN ob0).toNat = 1 := by decide
    omega
  have hd : (S.O k).dead = false := by
    cases c : (S.O k).dead
    · rfl
    · unfold ptrN at hn; rw [if_pos (.inl c)] at hn; exact absurd hn (by decide)
  have hs : strB (S.O k).p = false := by
    cases c : strB (S.O k).p
    · rfl
    · unfold ptrN at hn; rw [if_pos (.inr c)] at hn; exact absurd hn (by decide)
  have hc : ¬ ((S.O k).dead = true ∨ strB (S.O k).p = true) := by rw [hd, hs]; simp
  have key : ∀ p : Ptr, p.at_.toNat + (p.data.toNat + p.ptrs.toNat) ≤ S.len → (p.at_ + p.data.toUInt16).toNat + p.ptrs.toUInt16.toNat ≤ S.len := by
    intro p hp
    rw [UInt16.toNat_add, UInt8.toNat_toUInt16, UInt8.toNat_toUInt16]
    omega
  unfold ptrN ptrA at *
  rw [if_neg hc] at hn
  rw [if_neg hc, if_neg hc]
  cases he : (S.O k).elem
  · have hsh := shaped_top he (h1.shaped k (by omega) hk hd)
    by_cases hk2 : (S.O k).p.kind = 2
    · rw [if_pos hk2] at hn
      rw [if_pos hk2, if_pos hk2]
      by_cases h6 : (S.O k).p.code = 6
      · rw [if_pos h6]
        have := inside_six hl.2 hsh.1 hk2 h6
        omega
      · rw [if_neg h6] at hn; exact absurd hn (by decide)
    · rw [if_neg hk2, if_neg hk2]
      have hk1 : (S.O k).p.kind = 1 := by
        rcases ((inside_iff _ _ hl.2).1 hsh.1).1 with h | h
        · exact h
        · exact absurd h hk2
      have := inside_st hl.2 hsh.1 hk1
      exact key _ this.2.2.2.1
  · obtain ⟨u, hu⟩ := elem_of h1 h2 k k (Nat.le_refl _) (by omega) hk hd he
    have hr := elem_range hl.2 h1 hu
    have hk2 : ¬ (S.O k).p.kind = 2 := by rw [hr.1]; decide
    rw [if_neg hk2, if_neg hk2]
    apply key
    rw [hr.2.1, hr.2.2.1]
    omega
end Eng
end Go.Proofs.Ygcfab
