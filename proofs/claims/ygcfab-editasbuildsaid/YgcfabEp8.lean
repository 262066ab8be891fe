/-
  Package edit: makeList, setText keep what Check asks.
-/
import Derived.Test.YgcfabEp7
set_option linter.unusedSimpArgs false
set_option linter.unusedVariables false
set_option maxRecDepth 100000
namespace Go.Proofs.Ygcfab
namespace Eng
section
variable {S : Ed}
theorem ss_words {p : Ptr} (hk : p.kind = 2) (hc : p.code = 7) (hw : (wordsL p).toNat ≤ 256) : p.count.toNat ≤ 128 ∧ p.data.toNat ≤ 8 ∧ p.ptrs.toNat ≤ 8 ∧ (wordsL p).toNat = 1 + p.count.toNat * (p.data.toNat + p.ptrs.toNat) := by
  have e257 : (257 : UInt16).toNat = 257 := rfl
  have h128 : (128 : UInt16).toNat = 128 := rfl
  have hs := (strB_iff p).2 ⟨hk, hc⟩
  have hin : insideL 256 { p with at_ := 2 } = true ∨ True := .inr trivial
  have key : p.count.toNat ≤ 128 ∧ sizedL p = true := by
    unfold wordsL at hw
    rw [if_neg (by rw [hk]; decide), if_neg (by rw [hk]; rintro ⟨h, _⟩; exact absurd h (by decide))] at hw
    by_cases c : p.kind ≠ 2 ∨ p.count > 128
    · rw [if_pos c] at hw; omega
    rw [if_neg c, if_neg (by rw [hc]; rintro ⟨_, h⟩; exact absurd h (by decide)), if_neg (by rw [hc]; decide)] at hw
    have hcn : p.count.toNat ≤ 128 := by
      have : ¬ p.count > 128 := fun h => c (.inr h)
      rw [gt_iff_lt, UInt16.lt_iff_toNat_lt] at this
      omega
    refine ⟨hcn, ?_⟩
    refine Decidable.byContradiction fun c2 => ?_
    rw [if_neg (fun h => c2 h.2)] at hw
    omega
  obtain ⟨k1, k2⟩ := key
  have hz := (sizedL_iff p).1 k2
  refine ⟨k1, hz.1, hz.2, ?_⟩
  refine words_ss hk hc k1 hz.1 hz.2 ?_
  refine Decidable.byContradiction fun c => ?_
  have hb : p.count.toNat * (p.data.toNat + p.ptrs.toNat) ≤ 128 * 16 := Nat.mul_le_mul k1 (by omega)
  unfold wordsL at hw
  rw [if_neg (by rw [hk]; decide), if_neg (by rw [hk]; rintro ⟨h, _⟩; exact absurd h (by decide)), if_neg (by rw [hk, gt_iff_lt, UInt16.lt_iff_toNat_lt]; rintro (h | h); exact h rfl; omega),
    if_neg (by rw [hc]; rintro ⟨_, h⟩; exact absurd h (by decide)), if_neg (by rw [hc]; decide), if_pos ⟨hc, k2⟩] at hw
  have e : 1 + p.count * eachL p = UInt16.ofNat (1 + p.count.toNat * (p.data.toNat + p.ptrs.toNat)) := by
    apply eq16
    rw [UInt16.toNat_add, UInt16.toNat_mul, each_nat]
    have : (1 : UInt16).toNat = 1 := rfl
    omega
  rw [e, show (257 : UInt16) = UInt16.ofNat 257 from rfl, min16 (by omega) (by omega), tn16 (by omega)] at hw
  omega
theorem y_zero (y : UInt8) (h1 : (shr8 y 4).toNat = 0) (h2 : (y &&& 15).toNat = 0) : y = 0 := by
  have hy := y.toNat_lt
  apply UInt8.toNat_inj.1
  rw [UInt8.toNat_and] at h2
  have e15 : (15 : UInt8).toNat = 2 ^ 4 - 1 := rfl
  rw [e15, Nat.and_two_pow_sub_one_eq_mod] at h2
  unfold shr8 at h1
  rw [UInt8.toNat_ofNat'] at h1
  show y.toNat = 0
  omega
theorem Gd.makeList (g : Gd S) (op : OpR) (hl : Lv S op.h.toNat) : Gd (makeListE S op).2 := by
  unfold makeListE
  by_cases c7 : op.x ≠ 7
  · rw [if_pos c7]
    refine g.make op _ hl ?_ ?_ (.inr rfl)
    · unfold kindOk; simp
    · cases c : strB ⟨2, 0, 0, 0, op.x, op.n⟩
      · rfl
      · exact absurd ((strB_iff _).1 c).2 c7
  rw [if_neg c7]
  split
  · exact g
  rename_i hr
  simp only [not_or, Bool.not_eq_false, not_and] at hr
  obtain ⟨r1, r2, r3, r4, r5, r6⟩ := room_true hr.1
  have hy := hr.2
  rw [r1]
  have hsl := g.slotB_sl hl r2
  generalize (Eng.slotB S op.h op.i).1 = sl at *
  have hs' := eq16 (x := sl) rfl
  generalize hslot : sl.toNat = slot at *
  rw [hs']
  have hslt := (g.sl hl hsl).1
  have hlen := g.len.1
  have hc := g.cnt.2
  have hh8 := g.c256 hl.1
  obtain ⟨i1, i2, i3, i4⟩ := ss_words (p := mlP op) rfl rfl (by omega)
  have eN : (mlP op).count = op.n := rfl
  have eD : (mlP op).data = mlD op := rfl
  have eC : (mlP op).ptrs = mlC op := rfl
  rw [eN] at i1 i4
  rw [eD] at i2 i4
  rw [eC] at i3 i4
  rw [i4] at r5
  have hmQ : wordsL (mlQ S op) = wordsL (mlP op) := words_at _ _
  have hat : (mlQ S op).at_.toNat = S.len + 1 := by
    show (UInt16.ofNat S.len + 1).toNat = _
    have : (1 : UInt16).toNat = 1 := rfl
    rw [UInt16.toNat_add, tn16 (by omega), this]
    omega
  have hst : strB (mlQ S op) = true := rfl
  have hfi : (firstL (mlQ S op)).toNat = S.len := by rw [firstL_nat hst (by omega), hat]; omega
  have hel : ∀ i, i < op.n.toNat → (UInt16.ofNat i).toUInt8.toNat = i := by
    intro i hi
    rw [UInt16.toNat_toUInt8, tn16 (by omega)]
    omega
  have hnew : (mlK S op (UInt16.ofNat slot) op.n.toNat).O S.cnt = ⟨mlQ S op, Int16.ofInt (op.h.toNat : Int), op.i, false, false⟩ := by
    show (if S.cnt < S.cnt then _ else if S.cnt = S.cnt then _ else _) = _
    rw [if_neg (by omega), if_pos rfl]
  have hnE : ∀ i, (mlK S op (UInt16.ofNat slot) op.n.toNat).O (S.cnt + 1 + i) = mlO S op i := by
    intro i
    show (if S.cnt + 1 + i < S.cnt then _ else if S.cnt + 1 + i = S.cnt then _ else mlO S op (S.cnt + 1 + i - S.cnt - 1)) = _
    rw [if_neg (by omega), if_neg (by omega), show S.cnt + 1 + i - S.cnt - 1 = i by omega]
  have hin : insideL (S.len + (wordsL (mlP op)).toNat) (mlQ S op) = true := by
    rw [inside_iff _ _ (by omega)]
    refine ⟨.inr rfl, ?_⟩
    rw [if_pos ⟨rfl, rfl⟩, hmQ, hat, i4]
    omega
  have hA0 : ∀ i, S.len < i → mlA S op (UInt16.ofNat slot) i = 0 := by
    intro i hi
    unfold mlA
    rw [upd_ne _ _ _ _ (by omega), tn16 (by omega), upd_ne _ _ _ _ (by omega)]
    show (if i < S.len then S.A i else 0) = 0
    rw [if_neg (by omega)]
  have hcc : S.cnt + 1 + op.n.toNat ≤ 256 := by omega
  have elem : ∀ k, S.cnt < k → k < S.cnt + 1 + op.n.toNat → ElemOf (mlK S op (UInt16.ofNat slot) op.n.toNat) k S.cnt ∧ ((mlK S op (UInt16.ofNat slot) op.n.toNat).O k).elem = true := by
    intro k h1 h2
    obtain ⟨i, rfl⟩ : ∃ i, k = S.cnt + 1 + i := ⟨k - S.cnt - 1, by omega⟩
    have hi : i < op.n.toNat := by omega
    rw [hnE i]
    refine ⟨⟨?_, g.cnt.1, by show S.cnt < S.cnt + 1 + _; omega, by rw [hnew], by rw [hnew], by rw [hnew]; exact hst, ?_, ?_, ?_⟩, rfl⟩
    · rw [hnE i]
      show (Int16.ofInt (S.cnt : Int)).toInt = _
      exact i16n (by omega)
    · rw [hnE i, hnew]
      show (UInt16.ofNat i).toUInt8.toNat < op.n.toNat
      rw [hel i hi]; exact hi
    · rw [hnE i]
      show S.cnt + 1 + i = S.cnt + 1 + (UInt16.ofNat i).toUInt8.toNat
      rw [hel i hi]
    · rw [hnE i, hnew]
      show mlE S op i = elemP (mlQ S op) (UInt16.ofNat i).toUInt8.toNat
      rw [hel i hi]
      rfl
  refine g.app ⟨⟨by show S.cnt < S.cnt + 1 + _; omega, hcc⟩, ⟨by show S.len ≤ S.len + _; omega, by show S.len + (wordsL (mlP op)).toNat ≤ 256; omega⟩, ?_, by rw [hnew], by rw [hnew], by rw [hnew]; exact hin, by rw [hnew]; rfl, ?_, elem, ?_, ?_, ?_, ?_, ?_, ?_, ?_⟩
  · intro k hk
    show (if k < S.cnt then S.O k else _) = _
    rw [if_pos hk]
  · intro i
    rw [hnew]
    rintro ⟨h1, h2⟩
    have h1' : (firstL (mlQ S op)).toNat ≤ i := h1
    omega
  · intro _
    rw [hnew, listOk_iff]
    refine ⟨by show S.cnt + op.n.toNat < S.cnt + 1 + op.n.toNat; omega, fun h0 => ?_, fun j hj => ?_⟩
    · have h0' : 0 < op.n.toNat := h0
      refine Decidable.byContradiction fun c => ?_
      have c' : ¬ 0 < (mlD op).toNat + (mlC op).toNat := c
      refine hy h0' (y_zero op.y ?_ ?_)
      · show (mlD op).toNat = 0; omega
      · show (mlC op).toNat = 0; omega
    · have hj' : j < op.n.toNat := hj
      rw [hnE j]
      refine ⟨rfl, rfl, i16n (by omega), ?_, rfl⟩
      show (UInt16.ofNat j).toUInt8.toUInt16 = UInt16.ofNat j
      apply eq16
      rw [UInt8.toNat_toUInt16, hel j hj']
  · rw [hnew]
    refine Iff.mpr (whole_iff (by show S.len + (wordsL (mlP op)).toNat ≤ 256; omega) hin) ⟨fun _ => ?_, fun _ h => ?_⟩
    · show mlA S op (UInt16.ofNat slot) (firstL (mlQ S op)).toNat = makeTagL op.n (mlD op) (mlC op)
      rw [hfi]
      unfold mlA
      rw [upd_same]
    · have h' : strB (mlQ S op) = false := h
      rw [hst] at h'; cases h'
  · rw [hnew]
    intro h
    exfalso
    have h' : Int16.ofInt ((op.h.toNat : Nat) : Int) = -1 := h
    have := i16n (u := op.h.toNat) (by omega)
    rw [h', show (-1 : Int16).toInt = -1 by decide] at this
    omega
  · right
    refine ⟨op.h.toNat, slot, ?_, hl, r4, by rw [hnew]; exact hsl, r3, ?_, ?_⟩
    · show ((mlK S op (UInt16.ofNat slot) op.n.toNat).O S.cnt).up = _
      rw [hnew]
    · rw [hnew]
      show mlA S op (UInt16.ofNat slot) slot = pointerL (UInt16.ofNat slot) (mlQ S op)
      unfold mlA
      rw [upd_ne _ _ _ _ (by omega), tn16 (by omega), upd_same]
    · rw [hnew]
      intro h
      have h' : wlessB (mlQ S op) = true := h
      exact absurd (wless_words h').2.1 (show ¬ (2 : UInt8) = 1 by decide)
  · intro i hi
    by_cases e : i = slot
    · right
      refine ⟨op.h.toNat, ?_, hl, by rw [hnew, e]; exact hsl, by rw [e]; exact r3⟩
      show ((mlK S op (UInt16.ofNat slot) op.n.toNat).O S.cnt).up = _
      rw [hnew]
    · left
      show mlA S op (UInt16.ofNat slot) i = _
      unfold mlA
      rw [upd_ne _ _ _ _ (by omega), tn16 (by omega), upd_ne _ _ _ _ e]
      show (if i < S.len then S.A i else 0) = _
      rw [if_pos hi]
  · intro i h1 h2 h3
    rw [hnew]
    have h2' : i < S.len + (wordsL (mlP op)).toNat := h2
    refine ⟨?_, ?_⟩
    · show (firstL (mlQ S op)).toNat ≤ i
      omega
    · show i < (firstL (mlQ S op)).toNat + (wordsL (mlQ S op)).toNat
      rw [hmQ]; omega
  · intro k v i h1 h2 hs
    by_cases e : k = S.cnt
    · subst e
      rw [hnew] at hs
      have := sl_kind hs
      have h' : strB (mlQ S op) = false := this
      rw [hst] at h'; cases h'
    · obtain ⟨j, rfl⟩ : ∃ j, k = S.cnt + 1 + j := ⟨k - S.cnt - 1, by omega⟩
      have h2' : S.cnt + 1 + j < S.cnt + 1 + op.n.toNat := h2
      rw [hnE j] at hs
      have hm : j * ((mlD op).toNat + (mlC op).toNat) ≤ op.n.toNat * ((mlD op).toNat + (mlC op).toNat) := Nat.mul_le_mul_right _ (by omega)
      have hat' : (mlE S op j).at_.toNat = S.len + 1 + j * ((mlD op).toNat + (mlC op).toNat) := by
        show (UInt16.ofNat S.len + 1 + UInt16.ofNat j * ((mlD op).toUInt16 + (mlC op).toUInt16)).toNat = _
        have e1 : (UInt16.ofNat S.len + 1).toNat = S.len + 1 := hat
        rw [UInt16.toNat_add, e1, UInt16.toNat_mul, UInt16.toNat_add, UInt8.toNat_toUInt16, UInt8.toNat_toUInt16, tn16 (by omega), Nat.mod_eq_of_lt (a := (mlD op).toNat + (mlC op).toNat) (by omega)]
        omega
      have hge : (mlE S op j).at_.toNat ≤ i := by
        rcases hs with ⟨_, _, h⟩ | ⟨_, _, _, h⟩
        · have h' : i = (mlE S op j).at_.toNat + (mlO S op j).p.data.toNat + v := h
          omega
        · have h' : i = (mlE S op j).at_.toNat + v := h
          omega
      rw [hat'] at hge
      exact ⟨by omega, hA0 i (by omega)⟩
/-- the text's bytes leave the words behind it alone -/
theorem textN_pad (s : ByteArray) (A : Nat → UInt64) (a w m : Nat) (hm : m < 64) (hs : ∀ j, j < s.size → j / 8 = w → j % 8 * 8 + 8 ≤ m) (hz : shr64 (A (a + w)) m = 0) : ∀ j, j ≤ s.size → shr64 (textN s A a j (a + w)) m = 0
  | 0, _ => hz
  | j + 1, hj => by
    have ih := textN_pad s A a w m hm hs hz j (by omega)
    rw [textN]
    by_cases e : j / 8 = w
    · rw [e, upd_same]
      have h8 := hs j (by omega) e
      rw [eq_zero_iff] at ih ⊢
      intro i hi
      have h1 := ih i hi
      rw [bitU_shr] at h1 ⊢
      rw [bitU_or, h1, bitU_shl]
      have hb : bitU (sb s j).toUInt64 (m + i - j % 8 * 8) = false := by
        unfold bitU
        rw [UInt8.toNat_toUInt64]
        apply Nat.testBit_lt_two_pow
        have h1 := (sb s j).toNat_lt
        have h2 : 2 ^ 8 ≤ 2 ^ (m + i - j % 8 * 8) := Nat.pow_le_pow_right (by omega) (by omega)
        omega
      rw [hb]
      simp
    · rw [upd_ne _ _ _ _ (by omega)]; exact ih
theorem textN_out (s : ByteArray) (A : Nat → UInt64) (a : Nat) (i : Nat) : ∀ j, (i < a ∨ a + (j + 7) / 8 ≤ i) → textN s A a j i = A i
  | 0, _ => rfl
  | j + 1, h => by
    rw [textN, upd_ne _ _ _ _ (by omega)]
    exact textN_out s A a i j (by omega)
theorem Gd.setText (g : Gd S) (op : OpR) (hl : Lv S op.h.toNat) : Gd (setTextE S op).2 := by
  unfold setTextE
  split
  · exact g
  rename_i hc
  simp only [not_or, Bool.not_eq_false] at hc
  obtain ⟨hct, hm⟩ := hc
  have hsz : op.s.size < 128 := by
    unfold contentB at hct
    split at hct
    · cases hct
    · omega
  have hP : kindOk (txP op.s) = true := rfl
  have hS : strB (txP op.s) = false := rfl
  have g1 := g.make op (txP op.s) hl hP hS (.inr rfl)
  obtain ⟨hr, e⟩ := makeE_true hm
  obtain ⟨r1, r2, r3, r4, r5, r6⟩ := room_true hr
  have hcnt : (makeE S op (txP op.s)).2.cnt = S.cnt + 1 := by rw [e]
  have hlen' : (makeE S op (txP op.s)).2.len = S.len + (wordsL (txP op.s)).toNat := by rw [e]
  have hwl : wlessB (txP op.s) = false := rfl
  have hO : (makeE S op (txP op.s)).2.O S.cnt = ⟨{ txP op.s with at_ := UInt16.ofNat S.len }, Int16.ofInt (op.h.toNat : Int), op.i, false, false⟩ := by
    rw [e]
    show upd S.O S.cnt _ S.cnt = _
    rw [upd_same]
    unfold newP
    rw [hwl]
    rfl
  have hA : ∀ i, S.len ≤ i → (makeE S op (txP op.s)).2.A i = 0 := by
    intro i hi
    have hsl := (g.sl hl (g.slotB_sl hl r2)).1
    rw [e]
    show upd (growE S _).A _ _ i = 0
    rw [r1, upd_ne _ _ _ _ (by omega)]
    show (if i < S.len then S.A i else 0) = 0
    rw [if_neg (by omega)]
  generalize (makeE S op (txP op.s)).2 = S1 at *
  have hT : Tp S1 S.cnt := ⟨g.cnt.1, by omega, by rw [hO], by rw [hO]⟩
  have hw := words_tx op.s hsz
  have hlen := g.len.2
  have hst1 : strB (S1.O S.cnt).p = false := by rw [hO]; rfl
  have hf1 : (firstL (S1.O S.cnt).p).toNat = S.len := by rw [firstL_no hst1, hO]; exact tn16 (by omega)
  have hw1 : (wordsL (S1.O S.cnt).p).toNat = (op.s.size + 8) / 8 := by rw [hO, ← hw]; exact congrArg UInt16.toNat (words_at (txP op.s) _)
  have hat1 : (S1.O S.cnt).p.at_.toNat = S.len := by rw [hO]; exact tn16 (by omega)
  have hb1 : bytesL (S1.O S.cnt).p = op.s.size + 1 := by
    rw [hO]
    show (UInt16.ofNat (op.s.size + 1)).toNat * (widthL 2).toNat = _
    rw [tn16 (by omega), show (widthL 2).toNat = 1 by decide]
    omega
  have hno : ∀ v i, ¬ Sl (S1.O S.cnt).p v i := by
    rintro v i (⟨h, _⟩ | ⟨_, h, _⟩)
    · rw [hO] at h; exact absurd h (show ¬ (2 : UInt8) = 1 by decide)
    · rw [hO] at h; exact absurd h (show ¬ (2 : UInt8) = 6 by decide)
  refine g1.setA (h := S.cnt) hT.lv _ (fun i => ?_) (fun _ => ?_)
  · by_cases c : i < S.len ∨ S.len + (op.s.size + 7) / 8 ≤ i
    · left; exact textN_out _ _ _ _ _ c
    · right
      refine ⟨?_, fun v => hno v i⟩
      unfold part covers
      rw [hst1, if_neg (by simp), hf1, hw1]
      omega
  · refine Iff.mpr (whole_iff (by exact g1.len.2) (by exact g1.inside _ hT)) ⟨fun h => ?_, fun _ _ hb => ?_⟩
    · have h' : strB (S1.O S.cnt).p = true := h
      rw [hst1] at h'; cases h'
    · have hb' : bytesL (S1.O S.cnt).p % 8 ≠ 0 := hb
      show shr64 (textN op.s S1.A S.len op.s.size ((S1.O S.cnt).p.at_.toNat + bytesL (S1.O S.cnt).p / 8)) (bytesL (S1.O S.cnt).p % 8 * 8) = 0
      rw [hat1, hb1]
      rw [hb1] at hb'
      refine textN_pad _ _ _ _ _ (by omega) (fun j hj hjw => by omega) ?_ _ (Nat.le_refl _)
      rw [hA _ (by omega), eq_zero_iff]
      intro i _
      rw [bitU_shr, bitU_zero]
end
end Eng
end Go.Proofs.Ygcfab
