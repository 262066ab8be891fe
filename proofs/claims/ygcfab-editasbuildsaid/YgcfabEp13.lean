/-
  Package edit: what passes Check passes it after each step.
-/
import Derived.Test.YgcfabEp12
set_option linter.unusedSimpArgs false
set_option linter.unusedVariables false
set_option maxRecDepth 100000
namespace Go.Proofs.Ygcfab
namespace Eng
section
variable {S S' : Ed}
theorem Gd.truncate (g : Gd S) (op : OpR) (hl : Lv S op.h.toNat) : Gd (truncE S op).2 := by
  unfold truncE
  split
  · exact g
  rename_i hc
  simp only [not_or, Decidable.not_not, gt_iff_lt] at hc
  obtain ⟨hk, hn⟩ := hc
  have hn' : op.n.toNat ≤ (S.O op.h.toNat).p.count.toNat := by
    rw [UInt16.lt_iff_toNat_lt] at hn; omega
  rcases g.kinds hl with hk' | ⟨_, ht⟩
  · rw [hk] at hk'; exact absurd hk' (by decide)
  obtain ⟨l1, l2, l3⟩ := g.less ht hk (UInt16.le_iff_toNat_le.2 hn')
  have hrg := g.range hl
  have hlen := g.len.2
  have ks := (trK_KS g op S.cnt (Nat.le_refl _)).congr (D' := Dn S (trR S op)) (by
    intro k hk
    constructor
    · rintro ⟨c, _, h2, h3⟩; exact ⟨hk, c, h2, h3⟩
    · rintro ⟨_, c, h2, h3⟩; exact ⟨c, h2.1.1, h2, h3⟩)
  have hxD : ¬ Dn S (trR S op) op.h.toNat := Dn.noP g ⟨hl, fun c hc => ⟨hc.1, hc.2.1⟩⟩
  generalize trK S op S.cnt = Sm at *
  generalize hx : op.h.toNat = x at *
  have hfq : firstL (cntP (S.O x).p op.n) = firstL (S.O x).p := rfl
  have e1 : (firstL (S.O x).p + wordsL (cntP (S.O x).p op.n)).toNat = (firstL (S.O x).p).toNat + (wordsL (cntP (S.O x).p op.n)).toNat := by rw [UInt16.toNat_add]; omega
  have e2 : (firstL (S.O x).p + wordsL (S.O x).p).toNat = (firstL (S.O x).p).toNat + (wordsL (S.O x).p).toNat := by rw [UInt16.toNat_add]; omega
  have hz : elSize (cntP (S.O x).p op.n) * (cntP (S.O x).p op.n).count % 8 ≠ 0 → 1 ≤ (wordsL (cntP (S.O x).p op.n)).toNat := l2
  have h7 : (cntP (S.O x).p op.n).code = 7 → 1 ≤ (wordsL (cntP (S.O x).p op.n)).toNat ∧ elSize (cntP (S.O x).p op.n) * (cntP (S.O x).p op.n).count % 8 = 0 := by
    intro c7
    have c7' : (S.O x).p.code = 7 := c7
    refine ⟨words7 (p := cntP (S.O x).p op.n) hk c7, ?_⟩
    have : elSize (cntP (S.O x).p op.n) = 0 := elSize_zero (by
      show ¬ (2 ≤ (S.O x).p.code.toNat ∧ (S.O x).p.code.toNat ≤ 5)
      rw [c7']; decide)
    rw [this, UInt16.zero_mul]
    rfl
  have e3 : ∀ T : Ed, tr3 T (cntP (S.O x).p op.n) (firstL (S.O x).p + wordsL (cntP (S.O x).p op.n) - 1).toNat = tr3 T (cntP (S.O x).p op.n) ((firstL (S.O x).p).toNat + (wordsL (cntP (S.O x).p op.n)).toNat - 1) := by
    intro T
    unfold tr3
    by_cases c : elSize (cntP (S.O x).p op.n) * (cntP (S.O x).p op.n).count % 8 = 0
    · rw [if_pos c, if_pos c]
    · have h1 := hz c
      have e : (firstL (S.O x).p + wordsL (cntP (S.O x).p op.n) - 1).toNat = (firstL (S.O x).p).toNat + (wordsL (cntP (S.O x).p op.n)).toNat - 1 := by
        have o1 : (1 : UInt16).toNat = 1 := rfl
        rw [UInt16.toNat_sub_of_le _ _ (UInt16.le_iff_toNat_le.2 (by rw [o1, e1]; omega)), e1, o1]
      rw [e]
  rw [e1, e2, e3]
  have tA := trA_of Sm (cntP (S.O x).p op.n) (firstL (S.O x).p).toNat (wordsL (cntP (S.O x).p op.n)).toNat (wordsL (S.O x).p).toNat l1 rfl hz h7
  have k3 := tr3_keep (tr2 Sm ((firstL (S.O x).p).toNat + (wordsL (cntP (S.O x).p op.n)).toNat) ((firstL (S.O x).p).toNat + (wordsL (S.O x).p).toNat)) (cntP (S.O x).p op.n) ((firstL (S.O x).p).toNat + (wordsL (cntP (S.O x).p op.n)).toNat - 1)
  have k4 := tr4_keep (tr3 (tr2 Sm ((firstL (S.O x).p).toNat + (wordsL (cntP (S.O x).p op.n)).toNat) ((firstL (S.O x).p).toNat + (wordsL (S.O x).p).toNat)) (cntP (S.O x).p op.n) ((firstL (S.O x).p).toNat + (wordsL (cntP (S.O x).p op.n)).toNat - 1)) (cntP (S.O x).p op.n)
  rw [k3.1, k3.2.1, k3.2.2] at k4
  obtain ⟨k4a, k4b, k4c⟩ := k4
  generalize tr4 (tr3 (tr2 Sm ((firstL (S.O x).p).toNat + (wordsL (cntP (S.O x).p op.n)).toNat) ((firstL (S.O x).p).toNat + (wordsL (S.O x).p).toNat)) (cntP (S.O x).p op.n) ((firstL (S.O x).p).toNat + (wordsL (cntP (S.O x).p op.n)).toNat - 1)) (cntP (S.O x).p op.n) = S4 at *
  have k4a' : S4.len = S.len := k4a.trans ks.len
  have k4b' : S4.cnt = S.cnt := k4b.trans ks.cnt
  have k4c' : S4.O = Sm.O := k4c
  clear k4a k4b k4c k3 e1 e2 e3
  -- the object
  generalize h5 : tr5 S4 x (cntP (S.O x).p op.n) = S5
  have h5A : S5.A = S4.A := by rw [← h5]; rfl
  have h5l : S5.len = S.len := by rw [← h5]; exact k4a'
  have h5c : S5.cnt = S.cnt := by rw [← h5]; exact k4b'
  have h5x : S5.O x = { Sm.O x with p := cntP (S.O x).p op.n } := by
    rw [← h5]
    show upd S4.O x _ x = _
    rw [upd_same, k4c']
  have h5m : ∀ k, k ≠ x → S5.O k = Sm.O k := by
    intro k hk
    rw [← h5]
    show upd S4.O x _ k = _
    rw [upd_ne _ _ _ _ hk, k4c']
  -- the pointer
  generalize h6 : tr6 S5 x (cntP (S.O x).p op.n) = S6
  have h6l : S6.len = S.len := by rw [← h6]; unfold tr6; split <;> exact h5l
  have h6c : S6.cnt = S.cnt := by rw [← h6]; unfold tr6; split <;> exact h5c
  have h6O : S6.O = S5.O := by rw [← h6]; unfold tr6; split <;> rfl
  have h5u : (S5.O x).up = (S.O x).up := by rw [h5x]; exact ks.up x
  have h6a : (S.O x).up = -1 → ∀ i, S6.A i = S4.A i := by
    intro hu i
    rw [← h6]
    unfold tr6
    rw [h5u, hu, show (-1 : Int16).toInt = -1 by decide, if_neg (by omega), h5A]
  have h6b : ∀ u s, Hs S x u → Lv S u → Sl (S.O u).p (S.O x).via.toNat s → S6.A s = pointerL (UInt16.ofNat s) (cntP (S.O x).p op.n) ∧ ∀ i, i ≠ s → S6.A i = S4.A i := by
    intro u s hu hlu hs
    have hux : u ≠ x := by
      rintro rfl
      exact g.hs_no hu hlu.1 hlu (Ab.refl _)
    have hso : Eng.slotOf S5 x = (UInt16.ofNat s, true) := by
      have h1 := g.slotOf ht hu hlu hs
      unfold Eng.slotOf at h1 ⊢
      rw [h5u, show (S5.O x).via = (S.O x).via by rw [h5x]; exact ks.via x]
      rw [← h1]
      apply slotB_congr
      · rw [hs_up hu (g.c256 hlu.1), toU8n (g.c256 hlu.1), tn8 (g.c256 hlu.1), h5m u hux]
        exact ks.p u
      · exact h5l
    have hs256 := (g.sl hlu hs).1
    have hA : S6.A = upd S4.A s (pointerL (UInt16.ofNat s) (cntP (S.O x).p op.n)) := by
      rw [← h6]
      unfold tr6
      rw [h5u, hs_up hu (g.c256 hlu.1), if_pos (by omega), hso, h5A]
      show upd S4.A (UInt16.ofNat s).toNat _ = _
      rw [tn16 (by omega)]
    rw [hA]
    exact ⟨upd_same _ _ _, fun i hi => upd_ne _ _ _ _ hi⟩
  -- the arena's end
  have hp6 : ∀ k, k ≠ x → (S6.O k).p = (S.O k).p := fun k e => by rw [h6O, h5m k e]; exact ks.p k
  have hp6x : (S6.O x).p = cntP (S.O x).p op.n := by rw [h6O, h5x]
  have hd6 : ∀ k, (S6.O k).dead = (Sm.O k).dead := by
    intro k
    rw [h6O]
    by_cases e : k = x
    · subst e; rw [h5x]
    · rw [h5m k e]
  have hlv6 : ∀ k, Lv S6 k ↔ Lv S k ∧ ¬ Dn S (trR S op) k := by
    intro k
    unfold Lv
    rw [h6c, hd6]
    constructor
    · rintro ⟨a, b⟩
      have := (ks.dead k a).1 b
      exact ⟨⟨a, this.1⟩, this.2⟩
    · rintro ⟨⟨a, b⟩, c⟩
      exact ⟨a, (ks.dead k a).2 ⟨b, c⟩⟩
  have hr6 : ∀ k, Lv S k → (firstL (S6.O k).p).toNat + (wordsL (S6.O k).p).toNat ≤ S.len := by
    intro k hlk
    by_cases e : k = x
    · subst e
      rw [hp6x, hfq]
      omega
    · rw [hp6 k e]; exact g.range hlk
  generalize h7' : tr7 S6 ((firstL (S.O x).p).toNat + (wordsL (S.O x).p).toNat) = S7
  have h7A : S7.A = S6.A := by rw [← h7']; unfold tr7; split <;> rfl
  have h7O : S7.O = S6.O := by rw [← h7']; unfold tr7; split <;> rfl
  have h7c : S7.cnt = S.cnt := by rw [← h7']; unfold tr7; split <;> exact h6c
  have h7l : S7.len = S.len ∨ S7.len = min (endN S6 S6.cnt).toNat S6.len := by
    rw [← h7']; unfold tr7; split
    · right; rfl
    · left; exact h6l
  have hlen0 := g.len.1
  have h7l2 : 1 ≤ S7.len ∧ S7.len ≤ S.len := by
    rcases h7l with h | h
    · omega
    · have := endN_pos (S := S6) S6.cnt
      omega
  show Gd S7
  refine g.tr op hx ht hk hn' ks tA l1 h7c (fun k e => ?_) ?_ (fun hu i => ?_) (fun u s a b c => ?_) h7l2 ?_
  · rw [h7O, h6O, h5m k e]
  · rw [h7O, h6O, h5x]
  · rw [h7A]; exact h6a hu i
  · rw [h7A]; exact h6b u s a b c
  · intro k hkt hD hw
    rw [h7O] at hw ⊢
    have h1 := hr6 k hkt.lv
    rcases h7l with h | h
    · omega
    · have h2 := endN_ge (S := S6) (fun k hk => by have := hr6 k ((hlv6 k).1 hk).1; omega) S6.cnt k (Nat.le_refl _) (by rw [h6c]; exact hkt.2.1) (by have := hkt.1; omega) ((hlv6 k).2 ⟨hkt.lv, hD⟩) hw
      omega
theorem Gd.step (g : Gd S) (op : OpR) : Gd (stepE S op).2 := by
  unfold stepE
  by_cases c : aliveB S (op.h.toNat : Nat) = false
  · rw [if_pos c]; exact g
  rw [if_neg c, ]
  rw [Bool.not_eq_false] at c
  have hl := g.alive.1 c
  split
  · exact g.make op _ hl (by unfold kindOk; rfl) rfl (.inl rfl)
  split
  · exact g.makeList op hl
  split
  · exact g.setText op hl
  split
  · exact g.setData op hl
  split
  · exact g.setElem op hl
  split
  · exact g.drop op hl
  split
  · exact g.detach op hl
  split
  · exact g.adopt op hl
  split
  · exact g.orphan op
  split
  · exact g.truncate op hl
  exact g
def E0 : Ed := ⟨fun _ => 0, 1, fun _ => ob0, 1⟩
theorem gd0 : Gd E0 := by
  have noT : ∀ k, Tp E0 k → False := fun k h => by have h1 := h.1; have h2 : k < 1 := h.2.1; omega
  refine ⟨⟨Nat.le_refl 1, by decide⟩, ⟨Nat.le_refl 1, by decide⟩, rfl, fun k h => (noT k h).elim, fun k h => (noT k h).elim, fun k h => (noT k h).elim, fun k _ _ h => (noT k h).elim, ?_, fun k h => (noT k h).elim, fun k h => (noT k h).elim, fun k h => (noT k h).elim, fun k _ h => (noT k h).elim, fun k _ _ h => (noT k h).elim, fun k h => (noT k h).elim, fun i _ h => absurd rfl h, fun i _ _ _ _ h => absurd rfl h⟩
  intro k h1 h2
  have : k < 1 := h2.1
  omega
end
end Eng
end Go.Proofs.Ygcfab
