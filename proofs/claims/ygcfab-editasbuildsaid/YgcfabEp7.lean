/-
  Package edit: make, orphan, makeList, setText keep what Check asks.
-/
import Derived.Test.YgcfabEp6
set_option linter.unusedSimpArgs false
set_option linter.unusedVariables false
set_option maxRecDepth 100000
namespace Go.Proofs.Ygcfab
namespace Eng
section
variable {S : Ed}
theorem wless_words {p : Ptr} (h : wlessB p = true) : (wordsL p).toNat = 0 ∧ p.kind = 1 ∧ p.ptrs = 0 ∧ p.data = 0 := by
  unfold wlessB at h
  simp only [Bool.and_eq_true, beq_iff_eq] at h
  have h1 : p.data.toNat = 0 := by rw [h.1.2]; rfl
  have h2 : p.ptrs.toNat = 0 := by rw [h.2]; rfl
  exact ⟨by rw [words_st h.1.1 (by omega) (by omega)]; omega, h.1.1, h.2, h.1.2⟩
/-- what the words say of an object that fits -/
theorem sl_words {p : Ptr} {v i : Nat} (hw : (wordsL p).toNat ≤ 256) (h : Sl p v i) : p.at_.toNat ≤ i ∧ i < p.at_.toNat + (wordsL p).toNat ∧ wlessB p = false := by
  rcases h with ⟨h1, h2, h3⟩ | ⟨h1, h2, h3, h4⟩
  · have hz : p.data.toNat ≤ 8 ∧ p.ptrs.toNat ≤ 8 := by
      refine (sizedL_iff p).1 ?_
      refine Decidable.byContradiction fun c => ?_
      unfold wordsL at hw
      rw [if_neg (by rw [h1]; decide), if_neg (fun h => c h.2), if_pos (.inl (by rw [h1]; decide))] at hw
      exact absurd hw (by decide)
    refine ⟨by omega, by rw [words_st h1 hz.1 hz.2]; omega, ?_⟩
    cases c : wlessB p
    · rfl
    · have := (wless_words c).2.2.1
      rw [this] at h2
      exact absurd h2 (Nat.not_lt_zero _)
  · obtain ⟨w1, w2, w3, w4⟩ := words_ok' h1 (by rw [h2]; decide) hw
    have e6 : p.code.toNat = 6 := by rw [h2]; rfl
    refine ⟨by omega, by rw [w4, li_words, if_pos e6]; omega, ?_⟩
    cases c : wlessB p
    · rfl
    · have := (wless_words c).2.1
      rw [h1] at this; exact absurd this (by decide)
theorem strB_at (p : Ptr) (a : UInt16) : strB { p with at_ := a } = strB p := rfl
theorem newP_facts {S : Ed} {p : Ptr} {slot : Nat} (hl : S.len + (wordsL p).toNat ≤ 256) (h1 : 1 ≤ S.len) (hs : slot < S.len) (hk : kindOk p = true) (hst : strB p = false) (hkd : p.kind = 1 ∨ p.kind = 2) :
    insideL (S.len + (wordsL p).toNat) (newP S p (UInt16.ofNat slot)) = true ∧ kindOk (newP S p (UInt16.ofNat slot)) = true ∧ strB (newP S p (UInt16.ofNat slot)) = false ∧ wordsL (newP S p (UInt16.ofNat slot)) = wordsL p ∧
      wlessB (newP S p (UInt16.ofNat slot)) = wlessB p ∧ (wlessB p = true → (newP S p (UInt16.ofNat slot)).at_.toNat = slot) ∧ (wlessB p = false → (newP S p (UInt16.ofNat slot)).at_.toNat = S.len) := by
  have e1 : wlessB p = true → (newP S p (UInt16.ofNat slot)).at_.toNat = slot := by
    intro h; unfold newP; rw [if_pos h]; exact tn16 (by omega)
  have e2 : wlessB p = false → (newP S p (UInt16.ofNat slot)).at_.toNat = S.len := by
    intro h; unfold newP; rw [h]; exact tn16 (by omega)
  have eg : ∀ {α : Type} (f : Ptr → α), (∀ a, f { p with at_ := a } = f p) → f (newP S p (UInt16.ofNat slot)) = f p := by
    intro α f hf; unfold newP; split <;> exact hf _
  have ew := eg wordsL (fun a => words_at p a)
  have es := eg strB (fun a => rfl)
  have ek := eg kindOk (fun a => rfl)
  have eki := eg Ptr.kind (fun a => rfl)
  have ewl := eg wlessB (fun a => rfl)
  refine ⟨?_, by rw [ek]; exact hk, by rw [es]; exact hst, ew, ewl, e1, e2⟩
  rw [inside_iff _ _ hl]
  refine ⟨by rw [eki]; exact hkd, ?_⟩
  rw [if_neg (fun h => by rw [(strB_iff _).2 h] at es; rw [hst] at es; cases es), ew]
  cases c : wlessB p
  · rw [e2 c]; omega
  · rw [e1 c, (wless_words c).1]; omega
theorem Gd.make (g : Gd S) (op : OpR) (p : Ptr) (hl : Lv S op.h.toNat) (hk : kindOk p = true) (hst : strB p = false) (hkd : p.kind = 1 ∨ p.kind = 2) : Gd (makeE S op p).2 := by
  cases hm : (makeE S op p).1
  · rw [makeE_false hm]; exact g
  obtain ⟨hr, e⟩ := makeE_true hm
  rw [e]
  obtain ⟨r1, r2, r3, r4, r5, r6⟩ := room_true hr
  rw [r1]
  have hsl := g.slotB_sl hl r2
  generalize (Eng.slotB S op.h op.i).1 = sl at *
  have hs' := eq16 (x := sl) rfl
  generalize hslot : sl.toNat = slot at *
  rw [hs']
  have hslt := (g.sl hl hsl).1
  have hlen := g.len.1
  obtain ⟨n1, n2, n3, n4, n5, n6, n7⟩ := newP_facts (S := S) (p := p) (slot := slot) r5 hlen hslt hk hst hkd
  have hfirst : firstL (newP S p (UInt16.ofNat slot)) = (newP S p (UInt16.ofNat slot)).at_ := firstL_no n3
  have hcov : ∀ i, covers (newP S p (UInt16.ofNat slot)) i → S.len ≤ i := by
    rintro i ⟨h1, h2⟩
    rw [hfirst] at h1 h2
    rw [n4] at h2
    cases c : wlessB p
    · rw [n7 c] at h1; exact h1
    · rw [n6 c, (wless_words c).1] at h2
      rw [n6 c] at h1
      omega
  have hzero : ∀ i, S.len ≤ i → upd (growE S (wordsL p).toNat).A slot (pointerL (UInt16.ofNat slot) (newP S p (UInt16.ofNat slot))) i = 0 := by
    intro i hi
    rw [upd_ne _ _ _ _ (by omega)]
    show (if i < S.len then S.A i else 0) = 0
    rw [if_neg (by omega)]
  have hc := g.cnt.2
  refine g.app ?_
  have hO : ∀ {x : Ob}, upd S.O S.cnt x S.cnt = x := fun {x} => upd_same _ _ _
  have hhs : (Int16.ofInt (op.h.toNat : Int)) = Int16.ofInt ((op.h.toNat : Nat) : Int) := rfl
  have hh8 := g.c256 hl.1
  refine ⟨⟨by show S.cnt < S.cnt + 1; omega, by show S.cnt + 1 ≤ 256; omega⟩, ⟨by show S.len ≤ S.len + _; omega, r5⟩, ?_, ?_, ?_, ?_, ?_, ?_, ?_, ?_, ?_, ?_, ?_, ?_, ?_, ?_⟩
  · intro k hk
    exact upd_ne _ _ _ _ (by omega)
  · show (upd S.O S.cnt _ S.cnt).dead = false
    rw [hO]
  · show (upd S.O S.cnt _ S.cnt).elem = false
    rw [hO]
  · show insideL _ (upd S.O S.cnt _ S.cnt).p = true
    rw [hO]; exact n1
  · show kindOk (upd S.O S.cnt _ S.cnt).p = true
    rw [hO]; exact n2
  · intro i
    show covers (upd S.O S.cnt _ S.cnt).p i → _
    rw [hO]; exact hcov i
  · intro k h1 h2
    have : k < S.cnt + 1 := h2
    omega
  · show strB (upd S.O S.cnt _ S.cnt).p = true → _
    rw [hO]
    intro h
    have h' : strB (newP S p (UInt16.ofNat slot)) = true := h
    rw [n3] at h'; cases h'
  · show wholeB _ (upd S.O S.cnt _ S.cnt).p = true
    rw [hO]
    refine Iff.mpr (whole_iff r5 n1) ⟨fun h => ?_, fun hk' _ hb => ?_⟩
    · have h' : strB (newP S p (UInt16.ofNat slot)) = true := h
      rw [n3] at h'; cases h'
    · have := hcov _ (pad_cov r5 n1 hk' n3 hb)
      show shr64 (upd (growE S (wordsL p).toNat).A slot _ _) _ = 0
      rw [hzero _ this]
      rw [eq_zero_iff]
      intro i _
      rw [bitU_shr, bitU_zero]
  · show (upd S.O S.cnt _ S.cnt).up = -1 → _
    rw [hO]
    intro h
    exfalso
    have h' : Int16.ofInt ((op.h.toNat : Nat) : Int) = -1 := h
    have := i16n (u := op.h.toNat) (by omega)
    rw [h', show (-1 : Int16).toInt = -1 by decide] at this
    omega
  · right
    refine ⟨op.h.toNat, slot, ?_, hl, r4, ?_, r3, ?_, ?_⟩
    · show (upd S.O S.cnt _ S.cnt).up = _
      rw [hO]
    · show Sl _ (upd S.O S.cnt _ S.cnt).via.toNat _
      rw [hO]; exact hsl
    · show upd (growE S (wordsL p).toNat).A slot _ slot = pointerL _ (upd S.O S.cnt _ S.cnt).p
      rw [hO, upd_same]
    · show wlessB (upd S.O S.cnt _ S.cnt).p = true → (upd S.O S.cnt _ S.cnt).p.at_.toNat = slot
      rw [hO]
      intro h
      exact n6 (by rw [← n5]; exact h)
  · intro i hi
    by_cases e : i = slot
    · right
      refine ⟨op.h.toNat, ?_, hl, ?_, by rw [e]; exact r3⟩
      · show (upd S.O S.cnt _ S.cnt).up = _
        rw [hO]
      · show Sl _ (upd S.O S.cnt _ S.cnt).via.toNat _
        rw [hO, e]; exact hsl
    · left
      show upd (growE S (wordsL p).toNat).A slot _ i = _
      rw [upd_ne _ _ _ _ e]
      show (if i < S.len then S.A i else 0) = _
      rw [if_pos hi]
  · intro i h1 h2 h3
    exact absurd (hzero i h1) h3
  · intro k v i h1 h2 hs
    have h2' : k < S.cnt + 1 := h2
    have e : k = S.cnt := by omega
    subst e
    have hs' : Sl (upd S.O S.cnt _ S.cnt).p v i := hs
    rw [hO] at hs'
    obtain ⟨a1, a2, a3⟩ := sl_words (p := newP S p (UInt16.ofNat slot)) (by rw [n4]; omega) hs'
    rw [n5] at a3
    rw [n7 a3] at a1
    exact ⟨a1, hzero i a1⟩
theorem Gd.orphan (g : Gd S) (op : OpR) : Gd (orphanE S op).2 := by
  unfold orphanE
  split
  · exact g
  rename_i hc
  simp only [not_or, Bool.not_eq_false] at hc
  have hf := hc.2
  unfold fitsB at hf
  simp only [Bool.and_eq_true, decide_eq_true_eq] at hf
  have hlen := g.len.1
  generalize hP : (⟨1, 0, op.x, op.y, 0, 0⟩ : Ptr) = P at *
  have hpk : P.kind = 1 := by rw [← hP]
  have hor : orphP S op = { P with at_ := if wordsL P > 0 then UInt16.ofNat S.len else 0 } := by
    unfold orphP; rw [hP, ← hP]
  have hfits := hf.1
  have hcnt : S.cnt + 1 ≤ 256 := by have := hf.2; omega
  generalize hQ : orphP S op = Q at *
  have e1 : wordsL Q = wordsL P := by rw [hor, words_at]
  have e2 : Q.kind = 1 := by rw [hor]; exact hpk
  have e3 : strB Q = false := st_no e2
  have e4 : kindOk Q = true := by
    rw [← hQ]; rfl
  have eat : (wordsL P).toNat ≠ 0 → Q.at_.toNat = S.len := by
    intro h
    have : wordsL P > 0 := by rw [gt_iff_lt, UInt16.lt_iff_toNat_lt]; show 0 < _; omega
    rw [hor]
    show (if wordsL P > 0 then UInt16.ofNat S.len else 0).toNat = _
    rw [if_pos this]; exact tn16 (by have := g.len.2; omega)
  have eat0 : (wordsL P).toNat = 0 → Q.at_ = 0 := by
    intro h
    have : ¬ wordsL P > 0 := by rw [gt_iff_lt, UInt16.lt_iff_toNat_lt, h]; show ¬ 0 < 0; omega
    rw [hor]
    show (if wordsL P > 0 then UInt16.ofNat S.len else 0) = _
    rw [if_neg this]
  have hin : insideL (S.len + (wordsL P).toNat) Q = true := by
    rw [inside_iff _ _ hfits]
    refine ⟨.inl e2, ?_⟩
    rw [if_neg (fun h => by rw [(strB_iff _).2 h] at e3; cases e3), e1]
    by_cases c : (wordsL P).toNat = 0
    · rw [eat0 c, c]
      show 0 + 0 ≤ _ ∧ _
      omega
    · rw [eat c]; omega
  have hO : ∀ {x : Ob}, upd S.O S.cnt x S.cnt = x := fun {x} => upd_same _ _ _
  have hzero : ∀ i, S.len ≤ i → (growE S (wordsL P).toNat).A i = 0 := by
    intro i hi
    show (if i < S.len then S.A i else 0) = 0
    rw [if_neg (by omega)]
  have hcov : ∀ i, covers Q i → S.len ≤ i := by
    rintro i ⟨h1, h2⟩
    rw [firstL_no e3] at h1 h2
    rw [e1] at h2
    by_cases c : (wordsL P).toNat = 0
    · omega
    · rw [eat c] at h1; exact h1
  refine g.app ⟨⟨by show S.cnt < S.cnt + 1; omega, hcnt⟩, ⟨by show S.len ≤ S.len + _; omega, hfits⟩, ?_, ?_, ?_, ?_, ?_, ?_, ?_, ?_, ?_, ?_, ?_, ?_, ?_, ?_⟩
  · intro k hk
    exact upd_ne _ _ _ _ (by omega)
  · show (upd S.O S.cnt _ S.cnt).dead = false
    rw [hO]
  · show (upd S.O S.cnt _ S.cnt).elem = false
    rw [hO]
  · show insideL _ (upd S.O S.cnt _ S.cnt).p = true
    rw [hO]; exact hin
  · show kindOk (upd S.O S.cnt _ S.cnt).p = true
    rw [hO]; exact e4
  · intro i
    show covers (upd S.O S.cnt _ S.cnt).p i → _
    rw [hO]; exact hcov i
  · intro k h1 h2
    have : k < S.cnt + 1 := h2
    omega
  · show strB (upd S.O S.cnt _ S.cnt).p = true → _
    rw [hO]
    intro h
    have h' : strB Q = true := h
    rw [e3] at h'; cases h'
  · show wholeB _ (upd S.O S.cnt _ S.cnt).p = true
    rw [hO]
    refine Iff.mpr (whole_iff hfits hin) ⟨fun h => ?_, fun hk' _ hb => ?_⟩
    · have h' : strB Q = true := h
      rw [e3] at h'; cases h'
    · have h' : Q.kind = 2 := hk'
      rw [e2] at h'; exact absurd h' (by decide)
  · show (upd S.O S.cnt _ S.cnt).up = -1 → orphB (upd S.O S.cnt _ S.cnt) = true
    rw [hO]
    intro _
    unfold orphB
    show ((0 : UInt8) == 0 && (!wlessB Q || Q.at_ == 0)) = true
    cases c : wlessB Q
    · rfl
    · rw [eat0 (by rw [← e1]; exact (wless_words c).1)]; rfl
  · left
    show (upd S.O S.cnt _ S.cnt).up = -1
    rw [hO]
  · intro i hi
    left
    show (if i < S.len then S.A i else 0) = _
    rw [if_pos hi]
  · intro i h1 h2 h3
    exact absurd (hzero i h1) h3
  · intro k v i h1 h2 hs
    have h2' : k < S.cnt + 1 := h2
    have e : k = S.cnt := by omega
    subst e
    have hs' : Sl (upd S.O S.cnt _ S.cnt).p v i := hs
    rw [hO] at hs'
    obtain ⟨a1, a2, a3⟩ := sl_words (p := Q) (by rw [e1]; omega) hs'
    rw [e1] at a2
    rw [eat (by omega)] at a1
    exact ⟨a1, hzero i a1⟩
end
end Eng
end Go.Proofs.Ygcfab
