/-
  Package edit: the words of the live handles lie apart; Check holds.
-/
import Derived.Test.YgcfabEp2
set_option linter.unusedSimpArgs false
set_option linter.unusedVariables false
set_option maxRecDepth 100000
namespace Go.Proofs.Ygcfab
namespace Eng
theorem words_st {p : Ptr} (hk : p.kind = 1) (h1 : p.data.toNat ≤ 8) (h2 : p.ptrs.toNat ≤ 8) : (wordsL p).toNat = p.data.toNat + p.ptrs.toNat := by
  unfold wordsL
  rw [if_neg (by rw [hk]; decide), if_pos ⟨hk, (sizedL_iff p).2 ⟨h1, h2⟩⟩, each_nat]
theorem st_no {p : Ptr} (hk : p.kind = 1) : strB p = false := by
  cases c : strB p
  · rfl
  · have := (strB_iff p).1 c; rw [hk] at this; exact absurd this.1 (by decide)
section
variable {S : Ed}
theorem Gd.ss (g : Gd S) {k : Nat} (h : Tp S k) (hs : strB (S.O k).p = true) : (S.O k).p.count.toNat ≤ 128 ∧ (S.O k).p.data.toNat ≤ 8 ∧ (S.O k).p.ptrs.toNat ≤ 8 ∧ (wordsL (S.O k).p).toNat = 1 + (S.O k).p.count.toNat * ((S.O k).p.data.toNat + (S.O k).p.ptrs.toNat) ∧ 2 ≤ (S.O k).p.at_.toNat ∧ (S.O k).p.at_.toNat + (S.O k).p.count.toNat * ((S.O k).p.data.toNat + (S.O k).p.ptrs.toNat) ≤ S.len := inside_ss g.len.2 (g.inside k h) hs
theorem Gd.er (g : Gd S) {k u : Nat} (h : ElemOf S k u) :
    (S.O k).p.kind = 1 ∧ (S.O k).p.data = (S.O u).p.data ∧ (S.O k).p.ptrs = (S.O u).p.ptrs ∧ (S.O k).p.at_.toNat = (S.O u).p.at_.toNat + (S.O k).via.toNat * ((S.O u).p.data.toNat + (S.O u).p.ptrs.toNat) ∧
      (S.O k).p.at_.toNat + ((S.O u).p.data.toNat + (S.O u).p.ptrs.toNat) ≤ (S.O u).p.at_.toNat + (S.O u).p.count.toNat * ((S.O u).p.data.toNat + (S.O u).p.ptrs.toNat) ∧
      (S.O u).p.at_.toNat + (S.O u).p.count.toNat * ((S.O u).p.data.toNat + (S.O u).p.ptrs.toNat) ≤ S.len := by
  have hl := g.len.2
  obtain ⟨i1, i2, i3, i4, i5, i6⟩ := g.ss h.tp h.str
  have hp := h.p
  have hv := h.via
  have hm : (S.O k).via.toNat * ((S.O u).p.data.toNat + (S.O u).p.ptrs.toNat) + ((S.O u).p.data.toNat + (S.O u).p.ptrs.toNat) ≤ (S.O u).p.count.toNat * ((S.O u).p.data.toNat + (S.O u).p.ptrs.toNat) := by
    rw [← Nat.succ_mul]; exact Nat.mul_le_mul_right _ hv
  have hat : (S.O k).p.at_.toNat = (S.O u).p.at_.toNat + (S.O k).via.toNat * ((S.O u).p.data.toNat + (S.O u).p.ptrs.toNat) := by
    rw [hp]
    show ((S.O u).p.at_ + UInt16.ofNat (S.O k).via.toNat * ((S.O u).p.data.toUInt16 + (S.O u).p.ptrs.toUInt16)).toNat = _
    have e := each_nat (S.O u).p
    unfold eachL at e
    rw [UInt16.toNat_add, UInt16.toNat_mul, e, tn16 (by omega)]
    omega
  refine ⟨by rw [hp]; rfl, by rw [hp]; rfl, by rw [hp]; rfl, hat, by omega, i6⟩
/-- a live struct -/
theorem Gd.st (g : Gd S) {k : Nat} (h : Lv S k) (hk : (S.O k).p.kind = 1) : (S.O k).p.data.toNat ≤ 8 ∧ (S.O k).p.ptrs.toNat ≤ 8 ∧ (S.O k).p.at_.toNat + (S.O k).p.data.toNat + (S.O k).p.ptrs.toNat ≤ S.len ∧
    (wordsL (S.O k).p).toNat = (S.O k).p.data.toNat + (S.O k).p.ptrs.toNat ∧ (firstL (S.O k).p) = (S.O k).p.at_ ∧ strB (S.O k).p = false := by
  have h0 := st_no hk
  have key : (S.O k).p.data.toNat ≤ 8 ∧ (S.O k).p.ptrs.toNat ≤ 8 ∧ (S.O k).p.at_.toNat + (S.O k).p.data.toNat + (S.O k).p.ptrs.toNat ≤ S.len := by
    rcases g.cases h with rfl | ht | ⟨hk', he, u, hu⟩
    · rw [g.first]
      have e1 : ob0.p.data.toNat = 0 := rfl
      have e2 : ob0.p.ptrs.toNat = 1 := rfl
      have e3 : ob0.p.at_.toNat = 0 := rfl
      have := g.len.1
      omega
    · obtain ⟨i1, i2, i3, i4, i5⟩ := inside_st g.len.2 (g.inside k ht) hk
      omega
    · obtain ⟨e1, e2, e3, e4, e5, e6⟩ := g.er hu
      obtain ⟨i1, i2, i3, i4, i5, i6⟩ := g.ss hu.tp hu.str
      rw [e2, e3]
      omega
  exact ⟨key.1, key.2.1, key.2.2, words_st hk key.1 key.2.1, firstL_no h0, h0⟩
theorem Gd.kinds (g : Gd S) {k : Nat} (h : Lv S k) : (S.O k).p.kind = 1 ∨ ((S.O k).p.kind = 2 ∧ Tp S k) := by
  rcases g.cases h with rfl | ht | ⟨hk', he, u, hu⟩
  · left; rw [g.first]; rfl
  · rcases ((inside_iff S.len _ g.len.2).1 (g.inside k ht)).1 with e | e
    · exact .inl e
    · exact .inr ⟨e, ht⟩
  · exact .inl (g.er hu).1
theorem Gd.range (g : Gd S) {k : Nat} (h : Lv S k) : (firstL (S.O k).p).toNat + (wordsL (S.O k).p).toNat ≤ S.len := by
  rcases g.kinds h with hk | ⟨hk, ht⟩
  · obtain ⟨h1, h2, h3, h4, h5, h6⟩ := g.st h hk
    rw [h5, h4]; omega
  · obtain ⟨_, hh⟩ := (inside_iff S.len _ g.len.2).1 (g.inside k ht)
    cases c : strB (S.O k).p
    · rw [if_neg (fun h => by rw [(strB_iff _).2 h] at c; cases c)] at hh
      rw [firstL_no c]; exact hh.1
    · rw [if_pos ((strB_iff _).1 c)] at hh
      rw [firstL_nat c (by omega)]; exact hh.2.1
theorem Gd.pos (g : Gd S) {k i : Nat} (h : Tp S k) (hc : covers (S.O k).p i) : 1 ≤ i ∧ i < S.len := by
  have := first_of _ _ g.len.2 (g.inside k h) (by have := hc.1; have := hc.2; omega)
  have := hc.1
  have := hc.2
  omega
/-- the words that are a handle's own -/
def part (S : Ed) (k i : Nat) : Prop := if strB (S.O k).p = true then i = (firstL (S.O k).p).toNat else covers (S.O k).p i
theorem Gd.pcases (g : Gd S) {k i : Nat} (h : Lv S k) (hp : part S k i) : (k = 0 ∧ i = 0) ∨ (Tp S k ∧ covers (S.O k).p i) ∨
    (∃ u, ElemOf S k u ∧ covers (S.O u).p i ∧ (firstL (S.O u).p).toNat < i ∧ (S.O k).p.at_.toNat ≤ i ∧ i < (S.O k).p.at_.toNat + ((S.O u).p.data.toNat + (S.O u).p.ptrs.toNat)) := by
  unfold part at hp
  rcases g.cases h with rfl | ht | ⟨hk', he, u, hu⟩
  · left
    rw [g.first] at hp
    have e1 : strB ob0.p = false := by decide
    rw [e1, if_neg (by simp)] at hp
    have e2 : (firstL ob0.p).toNat = 0 := by decide
    have e3 : (wordsL ob0.p).toNat = 1 := by decide
    unfold covers at hp
    omega
  · right; left
    refine ⟨ht, ?_⟩
    split at hp
    · rename_i c
      have := words7 ((strB_iff _).1 c).1 ((strB_iff _).1 c).2
      unfold covers
      omega
    · exact hp
  · right; right
    obtain ⟨e1, e2, e3, e4, e5, e6⟩ := g.er hu
    obtain ⟨q1, q2, q3, q4, q5, q6⟩ := g.st h e1
    obtain ⟨i1, i2, i3, i4, i5, i6⟩ := g.ss hu.tp hu.str
    rw [q6, if_neg (by simp)] at hp
    unfold covers at hp
    rw [q5, q4, e2, e3] at hp
    have hf := firstL_nat hu.str (by omega)
    exact ⟨u, hu, by unfold covers; rw [hf, i4]; omega, by omega, hp.1, hp.2⟩
theorem Gd.pinj (g : Gd S) {k k' i : Nat} (h : Lv S k) (h' : Lv S k') (hp : part S k i) (hp' : part S k' i) : k = k' := by
  have hq := hp
  have hq' := hp'
  unfold part at hq hq'
  rcases g.pcases h hp with ⟨rfl, rfl⟩ | ⟨ht, hc⟩ | ⟨u, hu, hc, hf, ha, hb⟩
  · rcases g.pcases h' hp' with ⟨rfl, _⟩ | ⟨ht', hc'⟩ | ⟨u', hu', hc', _⟩
    · rfl
    · have := (g.pos ht' hc').1; omega
    · have := (g.pos hu'.tp hc').1; omega
  · rcases g.pcases h' hp' with ⟨rfl, rfl⟩ | ⟨ht', hc'⟩ | ⟨u', hu', hc', hf', _⟩
    · have := (g.pos ht hc).1; omega
    · exact g.apart k k' i ht ht' hc hc'
    · have e := g.apart k u' i ht hu'.tp hc hc'
      subst e
      rw [hu'.str, if_pos rfl] at hq
      omega
  · rcases g.pcases h' hp' with ⟨rfl, rfl⟩ | ⟨ht', hc'⟩ | ⟨u', hu', hc', hf', ha', hb'⟩
    · have := (g.pos hu.tp hc).1; omega
    · have e := g.apart u k' i hu.tp ht' hc hc'
      subst e
      rw [hu.str, if_pos rfl] at hq'
      omega
    · have e := g.apart u u' i hu.tp hu'.tp hc hc'
      subst e
      have e1 := (g.er hu).2.2.2.1
      have e2 := (g.er hu').2.2.2.1
      rw [e1] at ha hb
      rw [e2] at ha' hb'
      generalize (S.O u).p.data.toNat + (S.O u).p.ptrs.toNat = e at *
      have hv : (S.O k).via.toNat = (S.O k').via.toNat := by
        rcases Nat.lt_trichotomy (S.O k).via.toNat (S.O k').via.toNat with h | h | h
        · have := Nat.mul_le_mul_right e (show (S.O k).via.toNat + 1 ≤ (S.O k').via.toNat from h)
          rw [Nat.add_mul] at this
          omega
        · exact h
        · have := Nat.mul_le_mul_right e (show (S.O k').via.toNat + 1 ≤ (S.O k).via.toNat from h)
          rw [Nat.add_mul] at this
          omega
      have a1 := hu.at_
      have a2 := hu'.at_
      omega
theorem sl_kind {p : Ptr} {v i : Nat} (h : Sl p v i) : strB p = false := by
  cases c : strB p
  · rfl
  · have := (strB_iff p).1 c
    rcases h with ⟨h, _⟩ | ⟨_, h, _⟩
    · rw [h] at this; exact absurd this.1 (by decide)
    · rw [h] at this; exact absurd this.2 (by decide)
theorem Gd.sl (g : Gd S) {k v i : Nat} (h : Lv S k) (hs : Sl (S.O k).p v i) : i < S.len ∧ part S k i ∧ v < 256 ∧ v ≤ 128 := by
  have h0 := sl_kind hs
  have hl := g.len.2
  unfold part covers
  rw [h0, if_neg (by simp)]
  rcases hs with ⟨hk, h1, h2⟩ | ⟨hk, hc, h1, h2⟩
  · obtain ⟨q1, q2, q3, q4, q5, q6⟩ := g.st h hk
    rw [q5, q4]
    omega
  · rcases g.kinds h with hk' | ⟨_, ht⟩
    · rw [hk] at hk'; exact absurd hk' (by decide)
    · obtain ⟨i1, i2, i3⟩ := inside_six hl (g.inside k ht) hk hc
      rw [firstL_no h0, i2]
      omega
theorem sl_inj {p : Ptr} {v v' i : Nat} (h : Sl p v i) (h' : Sl p v' i) : v = v' := by
  rcases h with ⟨a1, a2, a3⟩ | ⟨a1, a2, a3, a4⟩ <;> rcases h' with ⟨b1, b2, b3⟩ | ⟨b1, b2, b3, b4⟩
  · omega
  · rw [a1] at b1; exact absurd b1 (by decide)
  · rw [a1] at b1; exact absurd b1 (by decide)
  · omega
theorem sl_fun {p : Ptr} {v i i' : Nat} (h : Sl p v i) (h' : Sl p v i') : i = i' := by
  rcases h with ⟨a1, a2, a3⟩ | ⟨a1, a2, a3, a4⟩ <;> rcases h' with ⟨b1, b2, b3⟩ | ⟨b1, b2, b3, b4⟩
  · omega
  · rw [a1] at b1; exact absurd b1 (by decide)
  · rw [a1] at b1; exact absurd b1 (by decide)
  · omega
theorem Gd.sl_two (g : Gd S) {k k' v v' i : Nat} (h : Lv S k) (h' : Lv S k') (hs : Sl (S.O k).p v i) (hs' : Sl (S.O k').p v' i) : k = k' ∧ v = v' := by
  have e := g.pinj h h' (g.sl h hs).2.1 (g.sl h' hs').2.1
  subst e
  exact ⟨rfl, sl_inj hs hs'⟩
theorem Gd.slotB (g : Gd S) {h v i : Nat} (hl : Lv S h) (hs : Sl (S.O h).p v i) : slotB S (UInt8.ofNat h) (UInt8.ofNat v) = (UInt16.ofNat i, true) := by
  obtain ⟨h1, _, h3, _⟩ := g.sl hl hs
  have hlen := g.len.2
  have hc := g.c256 hl.1
  unfold Eng.slotB
  rw [tn8 hc]
  rcases hs with ⟨hk, a1, a2⟩ | ⟨hk, a1, a2, a3⟩
  · have e : (S.O h).p.at_ + (S.O h).p.data.toUInt16 + (UInt8.ofNat v).toUInt16 = UInt16.ofNat i := by
      apply eq16
      rw [UInt16.toNat_add, UInt16.toNat_add, UInt8.toNat_toUInt16, UInt8.toNat_toUInt16, tn8 h3]
      omega
    rw [if_pos ⟨hk, by rw [UInt8.lt_iff_toNat_lt, tn8 h3]; exact a1⟩, e, tn16 (by omega), decide_eq_true h1]
  · have e : (S.O h).p.at_ + (UInt8.ofNat v).toUInt16 = UInt16.ofNat i := by
      apply eq16
      rw [UInt16.toNat_add, UInt8.toNat_toUInt16, tn8 h3]
      omega
    rw [if_neg (by rw [hk]; rintro ⟨h, _⟩; exact absurd h (by decide)), if_pos ⟨hk, a1, by rw [UInt16.lt_iff_toNat_lt, UInt8.toNat_toUInt16, tn8 h3]; exact a2⟩, e, tn16 (by omega), decide_eq_true h1]
theorem Gd.slotB_sl (g : Gd S) {h v : UInt8} (hl : Lv S h.toNat) (hs : (Eng.slotB S h v).2 = true) : Sl (S.O h.toNat).p v.toNat (Eng.slotB S h v).1.toNat := by
  unfold Eng.slotB at hs ⊢
  have hlen := g.len.2
  by_cases c1 : (S.O h.toNat).p.kind = 1 ∧ v < (S.O h.toNat).p.ptrs
  · rw [if_pos c1] at hs ⊢
    have a1 := UInt8.lt_iff_toNat_lt.1 c1.2
    obtain ⟨q1, q2, q3, q4, q5, q6⟩ := g.st hl c1.1
    refine .inl ⟨c1.1, a1, ?_⟩
    show ((S.O h.toNat).p.at_ + (S.O h.toNat).p.data.toUInt16 + v.toUInt16).toNat = _
    rw [UInt16.toNat_add, UInt16.toNat_add, UInt8.toNat_toUInt16, UInt8.toNat_toUInt16]
    omega
  · rw [if_neg c1] at hs ⊢
    by_cases c2 : (S.O h.toNat).p.kind = 2 ∧ (S.O h.toNat).p.code = 6 ∧ v.toUInt16 < (S.O h.toNat).p.count
    · rw [if_pos c2] at hs ⊢
      have a1 := UInt16.lt_iff_toNat_lt.1 c2.2.2
      rw [UInt8.toNat_toUInt16] at a1
      rcases g.kinds hl with hk' | ⟨_, ht⟩
      · rw [c2.1] at hk'; exact absurd hk' (by decide)
      obtain ⟨i1, i2, i3⟩ := inside_six hlen (g.inside _ ht) c2.1 c2.2.1
      refine .inr ⟨c2.1, c2.2.1, a1, ?_⟩
      show ((S.O h.toNat).p.at_ + v.toUInt16).toNat = _
      rw [UInt16.toNat_add, UInt8.toNat_toUInt16]
      omega
    · rw [if_neg c2] at hs
      cases hs
theorem Gd.up_cases (g : Gd S) {k : Nat} (h : Tp S k) (hn : (S.O k).up ≠ -1) : ∃ u, Hs S k u ∧ Lv S u := by
  rcases g.up k h with e | e
  · exact absurd e hn
  · exact e
theorem Gd.slotOf (g : Gd S) {k u i : Nat} (h : Tp S k) (hu : Hs S k u) (hl : Lv S u) (hs : Sl (S.O u).p (S.O k).via.toNat i) : slotOf S k = (UInt16.ofNat i, true) := by
  unfold Eng.slotOf
  rw [hs_up hu (g.c256 hl.1), toU8n (g.c256 hl.1)]
  have := g.slotB hl hs
  rw [UInt8.ofNat_toNat] at this
  exact this
theorem Gd.pair (g : Gd S) {k : Nat} (h : Tp S k) (hs : strB (S.O k).p = true) : S.A (firstL (S.O k).p).toNat = makeTagL (S.O k).p.count (S.O k).p.data (S.O k).p.ptrs ∧ (0 < (S.O k).p.count.toNat → 0 < (S.O k).p.data.toNat + (S.O k).p.ptrs.toNat) := by
  have h1 := g.whole k h
  have h2 := g.list k h hs
  unfold wholeB at h1
  rw [((strB_iff _).1 hs).1, hs] at h1
  simp only [beq_self_eq_true, if_true, beq_iff_eq] at h1
  rw [firstL_str hs]
  refine ⟨h1, fun hc => ?_⟩
  unfold listOk at h2
  simp only [Bool.and_eq_true, decide_eq_true_eq, Bool.not_eq_true', Bool.and_eq_false_iff, decide_eq_false_iff_not, gt_iff_lt] at h2
  rcases h2.1.2 with h | h
  · rw [UInt16.lt_iff_toNat_lt] at h
    exact absurd hc h
  · have e := each_nat (S.O k).p
    unfold eachL at e
    have : (S.O k).p.data.toUInt16 + (S.O k).p.ptrs.toUInt16 ≠ 0 := by
      intro e0; rw [e0] at h; cases h
    have : ((S.O k).p.data.toUInt16 + (S.O k).p.ptrs.toUInt16).toNat ≠ 0 := fun e0 => this (UInt16.toNat_inj.1 e0)
    omega
theorem Gd.res (g : Gd S) {k u i : Nat} (h : Tp S k) (hu : Hs S k u) (hl : Lv S u) (hs : Sl (S.O u).p (S.O k).via.toNat i) : resolveL S.A S.len (UInt16.ofNat i) = ((S.O k).p, true) ∧ S.A i ≠ 0 := by
  obtain ⟨i', h1, h2, h3⟩ := g.hang k u h hu hl.1
  have e := sl_fun hs h1
  subst e
  have hi := (g.sl hl hs).1
  have hr := resolve_ptr g.len.2 hi (g.inside k h) (g.kind k h) (g.pair h) h2 h3
  exact ⟨hr, ptr_ne0 g.len.2 hi (g.inside k h) hr⟩
theorem shal_of : ∀ (m n : Nat) (h : Int) (d : Nat), Ends S n h → d + depN S n h ≤ 8 → shalN S m h d = true
  | 0, _, _, _, _, _ => rfl
  | m + 1, n, h, d, he, hd => by
    rw [shalN]
    by_cases h0 : h ≤ 0
    · rw [if_pos h0]
    rw [if_neg h0]
    match n, he with
    | 0, he => exact absurd he h0
    | n + 1, he =>
      rcases he with he | ⟨_, he⟩
      · exact absurd he h0
      rw [depN_s, if_neg h0] at hd
      rw [if_neg (by omega)]
      exact shal_of m n _ _ he (by omega)
theorem Gd.ptrAt (g : Gd S) {h i : Nat} (hh : h < S.cnt) (hp : ptrAt (S.O h) i) : Lv S h ∧ ∃ v, Sl (S.O h).p v i := by
  unfold Eng.ptrAt ptrN ptrA at hp
  by_cases c : (S.O h).dead = true ∨ strB (S.O h).p = true
  · rw [if_pos c, if_pos c] at hp
    have : (0 : UInt16).toNat = 0 := rfl
    omega
  rw [if_neg c, if_neg c] at hp
  have hl : Lv S h := ⟨hh, by cases d : (S.O h).dead; rfl; exact absurd (.inl d) c⟩
  refine ⟨hl, ?_⟩
  by_cases k2 : (S.O h).p.kind = 2
  · rw [if_pos k2, if_pos k2] at hp
    by_cases c6 : (S.O h).p.code = 6
    · rw [if_pos c6] at hp
      exact ⟨i - (S.O h).p.at_.toNat, .inr ⟨k2, c6, by omega, by omega⟩⟩
    · rw [if_neg c6] at hp
      have : (0 : UInt16).toNat = 0 := rfl
      omega
  · rw [if_neg k2, if_neg k2] at hp
    rcases g.kinds hl with k1 | ⟨k2', _⟩
    · obtain ⟨q1, q2, q3, q4, q5, q6⟩ := g.st hl k1
      have hlen := g.len.2
      rw [UInt16.toNat_add, UInt8.toNat_toUInt16, UInt8.toNat_toUInt16] at hp
      exact ⟨i - (S.O h).p.at_.toNat - (S.O h).p.data.toNat, .inl ⟨k1, by omega, by omega⟩⟩
    · exact absurd k2' k2
theorem Gd.check (g : Gd S) : CheckP S := by
  have hc := g.cnt.2
  refine ⟨g.len, g.cnt, g.first, ⟨?_, ?_⟩, ⟨?_, ?_, ?_⟩, ?_, ?_⟩
  · intro k hk hk2 hd
    unfold shapedB
    rcases g.cases ⟨hk2, hd⟩ with rfl | ht | ⟨_, he, u, hu⟩
    · omega
    · rw [ht.2.2.2, if_neg (by simp), g.inside k ht, g.kind k ht]
      have : upOk S (S.O k) = true := by
        unfold upOk
        rcases g.up k ht with e | ⟨u, hu, hl⟩
        · rw [e, show (-1 : Int16).toInt = -1 by decide]; simp
        · have hu' := hs_up hu (g.c256 hl.1)
          have ha : aliveB S (S.O k).up.toInt = true := by
            rw [aliveB_iff, hu']
            exact ⟨by omega, by have := hl.1; omega, by rw [Int.toNat_natCast]; exact hl.2⟩
          rw [ha, hu', decide_eq_false (by omega)]
          simp
      rw [this]; rfl
    · rw [he, if_pos rfl, aliveB_iff, hu.up]
      exact ⟨by omega, by have := hu.lt; omega, by rw [Int.toNat_natCast]; exact hu.live⟩
  · intro k hk hk2 ht i hi
    have hT : Tp S k := ⟨hk, hk2, ht⟩
    refine ⟨by have := (g.pos hT hi).1; omega, fun k' h1 h2 h3 h4 => ?_⟩
    have := g.apart k k' i hT ⟨h1, by omega, h3⟩ hi h4
    omega
  · intro k hk hk2 hd
    unfold elementB
    rcases g.cases ⟨hk2, hd⟩ with rfl | ht | ⟨_, he, u, hu⟩
    · omega
    · rw [ht.2.2.2, if_neg (by simp)]
      cases c : strB (S.O k).p
      · rfl
      · exact g.list k ht c
    · rw [he, if_pos rfl]
      unfold isElem
      rw [hu.up, Int.toNat_natCast, hu.str, decide_eq_true (by have := hu.pos; omega), decide_eq_true (by rw [UInt16.lt_iff_toNat_lt, UInt8.toNat_toUInt16]; exact hu.via)]
      have := hu.at_
      simp only [Bool.true_and, beq_iff_eq]
      omega
  · exact fun k hk hk2 ht => g.whole k ⟨hk, hk2, ht⟩
  · intro k hk hk2 ht
    have hT : Tp S k := ⟨hk, hk2, ht⟩
    refine ⟨g.orph k hT, fun hn => ?_⟩
    obtain ⟨u, hu, hl⟩ := g.up_cases hT hn
    obtain ⟨i, h1, h2, h3⟩ := g.hang k u hT hu hl.1
    have hs := g.slotOf hT hu hl h1
    rw [hs]
    refine ⟨rfl, (g.res hT hu hl h1).1, fun k' hk1 hk2 hh => ?_⟩
    obtain ⟨ht', hn', hs'⟩ := hh
    have hT' : Tp S k' := ⟨hk1, by omega, ht'⟩
    obtain ⟨u', hu', hl'⟩ := g.up_cases hT' hn'
    obtain ⟨i', h1', h2', h3'⟩ := g.hang k' u' hT' hu' hl'.1
    rw [g.slotOf hT' hu' hl' h1'] at hs'
    have hlen := g.len.2
    have e : i' = i := by
      have a1 := (g.sl hl h1).1
      have a2 := (g.sl hl' h1').1
      have : (UInt16.ofNat i').toNat = (UInt16.ofNat i).toNat := hs'
      rw [tn16 (by omega), tn16 (by omega)] at this
      exact this
    subst e
    obtain ⟨e1, e2⟩ := g.sl_two hl hl' h1 h1'
    subst e1
    have := g.inj k k' u hT hT' hu hu' hl.1 (UInt8.toNat_inj.1 e2)
    omega
  · intro k hk ht
    by_cases k0 : k = 0
    · subst k0
      exact shal_of 40 0 _ 0 (Int.le_refl 0) (by rw [show depN S 0 ((0 : Nat) : Int) = 0 from rfl]; omega)
    · obtain ⟨n, e1, e2⟩ := g.shal k ⟨by omega, hk, ht⟩
      exact shal_of 40 n _ 0 e1 (by omega)
  · intro i hi hA
    refine ⟨?_, ?_⟩
    · rcases g.own i hi hA with e | ⟨k, ht, hc⟩
      · exact .inl e
      · exact .inr ⟨k, ht.1, ht.2.1, ht.2.2, hc⟩
    · rintro ⟨h, hh, hp⟩
      obtain ⟨hl, v, hv⟩ := g.ptrAt hh hp
      obtain ⟨k, ht, hu, hvia⟩ := g.slot i h v hl hv hA
      refine ⟨k, ht.1, ht.2.1, ht.2.2, hs_ne hu (g.c256 hl.1), ?_⟩
      rw [g.slotOf ht hu hl (by rw [hvia]; exact hv)]
      exact tn16 (by have := g.len.2; omega)
end
end Eng
end Go.Proofs.Ygcfab
