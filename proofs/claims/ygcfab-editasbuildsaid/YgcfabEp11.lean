/-
  Package edit: a list cut short.
-/
import Derived.Test.YgcfabEp10
set_option linter.unusedSimpArgs false
set_option linter.unusedVariables false
set_option maxRecDepth 100000
namespace Go.Proofs.Ygcfab
namespace Eng
section
variable {S S' : Ed}
def trR (S : Ed) (op : OpR) (c : Nat) : Prop := Lv S c ∧ Hs S c op.h.toNat ∧ op.n.toNat ≤ (S.O c).via.toNat
theorem trK_s (S : Ed) (op : OpR) (k : Nat) : trK S op (k + 1) = if trGo (trK S op k) op k = true then killE (trK S op k) (k : Nat) else trK S op k := rfl
theorem trK_KS (g : Gd S) (op : OpR) : ∀ m, m ≤ S.cnt → KS S (fun k => ∃ c, c < m ∧ trR S op c ∧ Ab S c (k : Int)) S.A (trK S op m)
  | 0, _ => ⟨rfl, rfl, fun _ => rfl, fun _ => rfl, fun _ => rfl, fun _ => rfl, fun k hk => ⟨fun h => ⟨h, fun ⟨c, hc, _⟩ => by omega⟩, fun h => h.1⟩, fun _ _ _ ⟨c, hc, _⟩ _ => by omega, fun _ _ => rfl⟩
  | m + 1, hm => by
    have ih := trK_KS g op m (by omega)
    rw [trK_s]
    generalize trK S op m = Sm at *
    have hgo : trGo Sm op m = true ↔ (S.O m).dead = false ∧ ¬ (∃ c, c < m ∧ trR S op c ∧ Ab S c (m : Int)) ∧ Hs S m op.h.toNat ∧ op.n.toNat ≤ (S.O m).via.toNat := by
      unfold trGo
      rw [Bool.and_eq_true, Bool.and_eq_true, aliveB_iff, Int.toNat_natCast, ih.cnt, ih.dead m (by omega), ih.up, ih.via, beq_iff_eq, decide_eq_true_eq, ge_iff_le, UInt16.le_iff_toNat_le, UInt8.toNat_toUInt16]
      exact ⟨fun h => ⟨h.1.2.2.1, h.1.2.2.2, h.2.1, h.2.2⟩, fun h => ⟨⟨by omega, by omega, h.1, h.2.1⟩, h.2.2.1, h.2.2.2⟩⟩
    by_cases c : trGo Sm op m = true
    · rw [if_pos c]
      obtain ⟨c1, c2, c3, c4⟩ := hgo.1 c
      refine (ih.kill g m).congr (fun k hk => ?_)
      constructor
      · rintro (⟨c, h1, h2, h3⟩ | ⟨_, h⟩)
        · exact ⟨c, by omega, h2, h3⟩
        · exact ⟨m, by omega, ⟨⟨by omega, c1⟩, c3, c4⟩, h⟩
      · rintro ⟨c, h1, h2, h3⟩
        by_cases e : c = m
        · subst e; exact .inr ⟨hk, h3⟩
        · exact .inl ⟨c, by omega, h2, h3⟩
    · rw [if_neg c]
      refine ih.congr (fun k hk => ?_)
      constructor
      · rintro ⟨c, h1, h2, h3⟩; exact ⟨c, by omega, h2, h3⟩
      · rintro ⟨d, h1, h2, h3⟩
        by_cases e : d = m
        · subst e
          by_cases ex : ∃ c, c < d ∧ trR S op c ∧ Ab S c (d : Int)
          · obtain ⟨c', k1, k2, k3⟩ := ex
            exact ⟨c', k1, k2, k3.trans h3⟩
          · exact absurd (hgo.2 ⟨h2.1.2, ex, h2.2.1, h2.2.2⟩) c
        · exact ⟨d, by omega, h2, h3⟩
/-- the words behind the cut -/
structure TrA (B A : Nat → UInt64) (q : Ptr) (f a b : Nat) : Prop where
  out : ∀ i, ¬ (f ≤ i ∧ i < f + b) → A i = B i
  gone : ∀ i, f + a ≤ i → i < f + b → A i = 0
  same : ∀ i, f ≤ i → i < f + a → (q.code = 7 → i ≠ f) → (elSize q * q.count % 8 = 0) → A i = B i
  tag : q.code = 7 → A f = makeTagL q.count q.data q.ptrs
  last : q.code ≠ 7 → elSize q * q.count % 8 ≠ 0 → A (f + a - 1) = takeL (B (f + a - 1)) 0 (elSize q * q.count % 8 * 8).toUInt8
theorem trA_of (Sm : Ed) (q : Ptr) (f a b : Nat) (hab : a ≤ b) (hf : (firstL q).toNat = f) (h1 : elSize q * q.count % 8 ≠ 0 → 1 ≤ a) (h7 : q.code = 7 → 1 ≤ a ∧ elSize q * q.count % 8 = 0) :
    TrA Sm.A (tr4 (tr3 (tr2 Sm (f + a) (f + b)) q (f + a - 1)) q).A q f a b := by
  have e2 : ∀ i, (tr2 Sm (f + a) (f + b)).A i = if f + a ≤ i ∧ i < f + b then 0 else Sm.A i := fun i => rfl
  by_cases c3 : elSize q * q.count % 8 = 0
  · have e3 : tr3 (tr2 Sm (f + a) (f + b)) q (f + a - 1) = tr2 Sm (f + a) (f + b) := by unfold tr3; rw [if_pos c3]
    rw [e3]
    by_cases c4 : q.code = 7
    · have e4 : (tr4 (tr2 Sm (f + a) (f + b)) q).A = upd (tr2 Sm (f + a) (f + b)).A f (makeTagL q.count q.data q.ptrs) := by unfold tr4; rw [if_pos c4, hf]
      have := (h7 c4).1
      rw [e4]
      refine ⟨fun i hi => ?_, fun i h2 h3 => ?_, fun i h2 h3 h4 _ => ?_, fun _ => upd_same _ _ _, fun h => absurd c4 h⟩
      · rw [upd_ne _ _ _ _ (by omega), e2, if_neg (by omega)]
      · rw [upd_ne _ _ _ _ (by omega), e2, if_pos (by omega)]
      · rw [upd_ne _ _ _ _ (h4 c4), e2, if_neg (by omega)]
    · have e4 : tr4 (tr2 Sm (f + a) (f + b)) q = tr2 Sm (f + a) (f + b) := by unfold tr4; rw [if_neg c4]
      rw [e4]
      refine ⟨fun i hi => ?_, fun i h2 h3 => ?_, fun i h2 h3 h4 _ => ?_, fun h => absurd h c4, fun _ h => absurd c3 h⟩
      · rw [e2, if_neg (by omega)]
      · rw [e2, if_pos (by omega)]
      · rw [e2, if_neg (by omega)]
  · have c4 : q.code ≠ 7 := fun h => c3 (h7 h).2
    have := h1 c3
    have e3 : (tr3 (tr2 Sm (f + a) (f + b)) q (f + a - 1)).A = upd (tr2 Sm (f + a) (f + b)).A (f + a - 1) (takeL ((tr2 Sm (f + a) (f + b)).A (f + a - 1)) 0 (elSize q * q.count % 8 * 8).toUInt8) := by unfold tr3; rw [if_neg c3]
    have e4 : tr4 (tr3 (tr2 Sm (f + a) (f + b)) q (f + a - 1)) q = tr3 (tr2 Sm (f + a) (f + b)) q (f + a - 1) := by unfold tr4; rw [if_neg c4]
    rw [e4, e3]
    refine ⟨fun i hi => ?_, fun i h2 h3 => ?_, fun i h2 h3 h4 h5 => absurd h5 c3, fun h => absurd h c4, fun _ _ => ?_⟩
    · rw [upd_ne _ _ _ _ (by omega), e2, if_neg (by omega)]
    · rw [upd_ne _ _ _ _ (by omega), e2, if_pos (by omega)]
    · rw [upd_same, e2, if_neg (by omega)]
theorem take_pad (w : UInt64) (b : UInt8) (m : Nat) (hb : b.toNat = m) (hm : m < 64) : shr64 (takeL w 0 b) m = 0 := by
  apply UInt64.toNat_inj.1
  rw [shr64_nat]
  have := take_lt w 0 b
  rw [hb] at this
  exact Nat.div_eq_of_lt this
theorem endN_ge {S : Ed} (hr : ∀ k, Lv S k → (firstL (S.O k).p).toNat + (wordsL (S.O k).p).toNat ≤ 256) : ∀ (m k : Nat), m ≤ S.cnt → k < m → 0 < k → Lv S k → wlessB (S.O k).p = false → (firstL (S.O k).p).toNat + (wordsL (S.O k).p).toNat ≤ (endN S m).toNat
  | 0, k, _, h, _, _, _ => by omega
  | m + 1, k, hm, hk, h0, hl, hw => by
    have hadd : ∀ k, Lv S k → (firstL (S.O k).p + wordsL (S.O k).p).toNat = (firstL (S.O k).p).toNat + (wordsL (S.O k).p).toNat := by
      intro k hl
      have := hr k hl
      rw [UInt16.toNat_add]
      omega
    have hmax : ∀ a b : UInt16, a.toNat ≤ (max a b).toNat ∧ b.toNat ≤ (max a b).toNat := by
      intro a b
      show a.toNat ≤ (if a ≤ b then b else a).toNat ∧ b.toNat ≤ (if a ≤ b then b else a).toNat
      by_cases c : a ≤ b
      · rw [if_pos c]
        exact ⟨UInt16.le_iff_toNat_le.1 c, Nat.le_refl _⟩
      · rw [if_neg c]
        rw [UInt16.le_iff_toNat_le] at c
        omega
    rw [endN]
    by_cases e : k = m
    · subst e
      have ha : aliveB S (k : Nat) = true := (aliveB_iff S _).2 ⟨by omega, by have := hl.1; omega, by rw [Int.toNat_natCast]; exact hl.2⟩
      rw [if_pos ⟨ha, h0, hw⟩, ← hadd k hl]
      exact (hmax _ _).2
    · have ih := endN_ge hr m k (by omega) (by omega) h0 hl hw
      split
      · exact Nat.le_trans ih (hmax _ _).1
      · exact ih
theorem endN_pos {S : Ed} : ∀ m, 1 ≤ (endN S m).toNat
  | 0 => Nat.le_refl _
  | m + 1 => by
    have ih := endN_pos (S := S) m
    rw [endN]
    split
    · have : (endN S m).toNat ≤ (max (endN S m) (firstL (S.O m).p + wordsL (S.O m).p)).toNat := by
        show _ ≤ (if endN S m ≤ firstL (S.O m).p + wordsL (S.O m).p then _ else _ : UInt16).toNat
        split
        · rename_i c; exact UInt16.le_iff_toNat_le.1 c
        · exact Nat.le_refl _
      omega
    · exact ih
theorem inside_of {len len' : Nat} {p : Ptr} (h1 : len ≤ 256) (h2 : len' ≤ 256) (h : insideL len p = true) (hr : (firstL p).toNat + (wordsL p).toNat ≤ len') : insideL len' p = true := by
  rw [inside_iff _ _ h1] at h
  rw [inside_iff _ _ h2]
  refine ⟨h.1, ?_⟩
  have h' := h.2
  cases c : strB p
  · have c' : ¬ (p.kind = 2 ∧ p.code = 7) := fun h => by rw [(strB_iff _).2 h] at c; cases c
    rw [if_neg c'] at h' ⊢
    rw [firstL_no c] at hr
    exact ⟨hr, h'.2⟩
  · have c' := (strB_iff p).1 c
    rw [if_pos c'] at h' ⊢
    rw [firstL_nat c (by omega)] at hr
    exact ⟨h'.1, hr, h'.2.2⟩
end
end Eng
end Go.Proofs.Ygcfab
