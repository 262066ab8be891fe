/-
  Package edit: an object is made at the arena's end.
-/
import Derived.Test.YgcfabEp5
set_option linter.unusedSimpArgs false
set_option linter.unusedVariables false
set_option maxRecDepth 100000
namespace Go.Proofs.Ygcfab
namespace Eng
section
variable {S S' : Ed}
theorem inside_mono {len len' : Nat} {p : Ptr} (h1 : len ≤ len') (h2 : len' ≤ 256) (h : insideL len p = true) : insideL len' p = true := by
  rw [inside_iff _ _ (by omega)] at h
  rw [inside_iff _ _ h2]
  refine ⟨h.1, ?_⟩
  have h' := h.2
  split
  · rename_i c
    rw [if_pos c] at h'
    omega
  · rename_i c
    rw [if_neg c] at h'
    exact ⟨by omega, h'.2⟩
structure App (S S' : Ed) : Prop where
  cnt : S.cnt < S'.cnt ∧ S'.cnt ≤ 256
  len : S.len ≤ S'.len ∧ S'.len ≤ 256
  old : ∀ k, k < S.cnt → S'.O k = S.O k
  dead : (S'.O S.cnt).dead = false
  top : (S'.O S.cnt).elem = false
  inside : insideL S'.len (S'.O S.cnt).p = true
  kind : kindOk (S'.O S.cnt).p = true
  cov : ∀ i, covers (S'.O S.cnt).p i → S.len ≤ i
  elem : ∀ k, S.cnt < k → k < S'.cnt → ElemOf S' k S.cnt ∧ (S'.O k).elem = true
  list : strB (S'.O S.cnt).p = true → listOk S' S.cnt (S'.O S.cnt).p = true
  whole : wholeB S' (S'.O S.cnt).p = true
  orph : (S'.O S.cnt).up = -1 → orphB (S'.O S.cnt) = true
  up : (S'.O S.cnt).up = -1 ∨ ∃ h s, Hs S' S.cnt h ∧ Lv S h ∧ depN S 40 h < 8 ∧ Sl (S.O h).p (S'.O S.cnt).via.toNat s ∧ S.A s = 0 ∧ S'.A s = pointerL (UInt16.ofNat s) (S'.O S.cnt).p ∧ (wlessB (S'.O S.cnt).p = true → (S'.O S.cnt).p.at_.toNat = s)
  A : ∀ i, i < S.len → S'.A i = S.A i ∨ ∃ h, Hs S' S.cnt h ∧ Lv S h ∧ Sl (S.O h).p (S'.O S.cnt).via.toNat i ∧ S.A i = 0
  zero : ∀ i, S.len ≤ i → i < S'.len → S'.A i ≠ 0 → covers (S'.O S.cnt).p i
  sl : ∀ k v i, S.cnt ≤ k → k < S'.cnt → Sl (S'.O k).p v i → S.len ≤ i ∧ S'.A i = 0
theorem Gd.app (g : Gd S) (a : App S S') : Gd S' := by
  have c1 := a.cnt.1
  have c2 := a.cnt.2
  have l1 := a.len.1
  have l2 := a.len.2
  have lv : ∀ k, k < S.cnt → (Lv S' k ↔ Lv S k) := by
    intro k hk
    unfold Lv
    rw [a.old k hk]
    exact ⟨fun h => ⟨hk, h.2⟩, fun h => ⟨by omega, h.2⟩⟩
  have tp : ∀ k, k < S.cnt → (Tp S' k ↔ Tp S k) := by
    intro k hk
    unfold Tp Eng.top
    rw [a.old k hk]
    exact ⟨fun h => ⟨h.1, hk, h.2.2⟩, fun h => ⟨h.1, by omega, h.2.2⟩⟩
  have tc : ∀ k, Tp S' k → (k < S.cnt ∧ Tp S k ∧ S'.O k = S.O k) ∨ k = S.cnt := by
    intro k hk
    rcases Nat.lt_trichotomy k S.cnt with h | h | h
    · exact .inl ⟨h, (tp k h).1 hk, a.old k h⟩
    · exact .inr h
    · have := (a.elem k h hk.2.1).2
      rw [hk.2.2.2] at this
      cases this
  have tn : Tp S' S.cnt := ⟨by have := g.cnt.1; omega, c1, a.dead, a.top⟩
  have hso : ∀ k u, k < S.cnt → (Hs S' k u ↔ Hs S k u) := by
    intro k u hk
    unfold Hs
    rw [a.old k hk]
  -- what an old one hangs from is old
  have hup : ∀ k u, Tp S k → Hs S k u → u < S'.cnt → Lv S u := by
    intro k u ht hu hc
    obtain ⟨u', hu', hl'⟩ := g.up_cases ht (hs_ne hu (by omega))
    have e := hs_inj hu hu' (by omega) (g.c256 hl'.1)
    subst e
    exact hl'
  have hnew : ∀ u, Hs S' S.cnt u → u < S'.cnt → Lv S u ∧ depN S 40 u < 8 ∧ ∃ s, Sl (S.O u).p (S'.O S.cnt).via.toNat s ∧ S.A s = 0 ∧ S'.A s = pointerL (UInt16.ofNat s) (S'.O S.cnt).p ∧ (wlessB (S'.O S.cnt).p = true → (S'.O S.cnt).p.at_.toNat = s) := by
    intro u hu hc
    rcases a.up with e | ⟨h, s, b1, b2, b3, b4⟩
    · exact absurd e (hs_ne hu (by omega))
    · have e := hs_inj hu b1 (by omega) (g.c256 b2.1)
      subst e
      exact ⟨b2, b3, s, b4⟩
  have hcc := chain_congr (S := S) (S' := S') (by omega) (fun k hk => by rw [a.old k hk]; exact ⟨rfl, rfl⟩)
  refine ⟨⟨by have := g.len.1; omega, l2⟩, ⟨by omega, c2⟩, by rw [a.old 0 (by have := g.cnt.1; omega)]; exact g.first, ?_, ?_, ?_, ?_, ?_, ?_, ?_, ?_, ?_, ?_, ?_, ?_, ?_⟩
  · intro k ht
    rcases tc k ht with ⟨hk, ht', e⟩ | rfl
    · rw [e]; exact inside_mono l1 l2 (g.inside k ht')
    · exact a.inside
  · intro k ht
    rcases tc k ht with ⟨hk, ht', e⟩ | rfl
    · rw [e]; exact g.kind k ht'
    · exact a.kind
  · intro k ht
    rcases tc k ht with ⟨hk, ht', e⟩ | rfl
    · rcases g.up k ht' with h | ⟨u, hu, hl⟩
      · left; rw [e]; exact h
      · exact .inr ⟨u, (hso k u hk).2 hu, (lv u hl.1).2 hl⟩
    · rcases a.up with h | ⟨h, s, b1, b2, _⟩
      · exact .inl h
      · exact .inr ⟨h, b1, (lv h b2.1).2 b2⟩
  · intro k k' i ht ht' hc hc'
    rcases tc k ht with ⟨hk, hT, e⟩ | rfl <;> rcases tc k' ht' with ⟨hk', hT', e'⟩ | rfl
    · rw [e] at hc; rw [e'] at hc'
      exact g.apart k k' i hT hT' hc hc'
    · rw [e] at hc
      have := (g.pos hT hc).2
      have := a.cov i hc'
      omega
    · rw [e'] at hc'
      have := (g.pos hT' hc').2
      have := a.cov i hc
      omega
    · rfl
  · intro k hk hl he
    rcases Nat.lt_trichotomy k S.cnt with h | h | h
    · obtain ⟨u, hu⟩ := g.elem k hk ((lv k h).1 hl) (by rw [← a.old k h]; exact he)
      exact ⟨u, hu.congr (by omega) (a.old k h) (a.old u hu.lt)⟩
    · subst h; rw [a.top] at he; cases he
    · exact ⟨_, (a.elem k h hl.1).1⟩
  · intro k ht hs
    rcases tc k ht with ⟨hk, ht', e⟩ | rfl
    · rw [e] at hs ⊢
      have h1 := g.list k ht' hs
      have h2 := (listOk_iff S k _).1 h1
      exact listOk.congr h1 (by omega) (fun j hj => a.old _ (by omega))
    · exact a.list hs
  · intro k ht
    rcases tc k ht with ⟨hk, ht', e⟩ | rfl
    · rw [e]
      refine g.keep ht' l2 (inside_mono l1 l2 (g.inside k ht')) (fun i hi hv => ?_)
      have hlt : i < S.len := by
        rcases g.pcases ht'.lv hi with ⟨_, h⟩ | ⟨h1, h2⟩ | ⟨u, hu, hc, _⟩
        · have := g.len.1; omega
        · exact (g.pos h1 h2).2
        · exact (g.pos hu.tp hc).2
      rcases a.A i hlt with h | ⟨h, _, b2, b3, _⟩
      · exact h
      · have e2 := g.pinj ht'.lv b2 hi (g.sl b2 b3).2.1
        subst e2
        exact absurd b3 (hv _)
    · exact a.whole
  · intro k ht hu
    rcases tc k ht with ⟨hk, ht', e⟩ | rfl
    · rw [e] at hu ⊢; exact g.orph k ht' hu
    · exact a.orph hu
  · intro k u ht hu hc
    rcases tc k ht with ⟨hk, ht', e⟩ | rfl
    · have hu' := (hso k u hk).1 hu
      have hl := hup k u ht' hu' hc
      obtain ⟨i, h1, h2, h3⟩ := g.hang k u ht' hu' hl.1
      rw [e, a.old u hl.1]
      refine ⟨i, h1, ?_, h3⟩
      rcases a.A i (g.sl hl h1).1 with h | ⟨_, _, _, _, h0⟩
      · rw [h, h2]
      · exact absurd h0 (g.res ht' hu' hl h1).2
    · obtain ⟨hl, _, s, b1, b2, b3, b4⟩ := hnew u hu hc
      rw [a.old u hl.1]
      exact ⟨s, b1, b3, b4⟩
  · intro k k' u ht ht' hu hu' hc hv
    rcases tc k ht with ⟨hk, hT, e⟩ | rfl <;> rcases tc k' ht' with ⟨hk', hT', e'⟩ | rfl
    · have h1 := (hso k u hk).1 hu
      rw [e, e'] at hv
      exact g.inj k k' u hT hT' h1 ((hso k' u hk').1 hu') (hup k u hT h1 hc).1 hv
    · exfalso
      have h1 := (hso k u hk).1 hu
      have hl := hup k u hT h1 hc
      obtain ⟨_, _, s, b1, b2, _⟩ := hnew u hu' hc
      rw [← hv, e] at b1
      exact (g.res hT h1 hl b1).2 b2
    · exfalso
      have h1 := (hso k' u hk').1 hu'
      have hl := hup k' u hT' h1 hc
      obtain ⟨_, _, s, b1, b2, _⟩ := hnew u hu hc
      rw [hv, e'] at b1
      exact (g.res hT' h1 hl b1).2 b2
    · rfl
  · intro k ht
    rcases tc k ht with ⟨hk, ht', e⟩ | rfl
    · obtain ⟨n, e1, e2⟩ := g.shal k ht'
      obtain ⟨i1, i2⟩ := hcc n _ e1
      exact ⟨n, i1, by rw [i2]; exact e2⟩
    · have hpos : ¬ ((S.cnt : Nat) : Int) ≤ 0 := by have := g.cnt.1; omega
      have hstep : stepD S' ((S.cnt : Nat) : Int) = 1 := by rw [stepD_nat, a.top]; rfl
      rcases a.up with h | ⟨h, s, b1, b2, b3, _⟩
      · have eu : upI S' ((S.cnt : Nat) : Int) = -1 := by rw [upI_nat, h]; decide
        refine ⟨1, .inr ⟨by omega, ?_⟩, ?_⟩
        · rw [eu]; show (-1 : Int) ≤ 0; decide
        · rw [depN_s, if_neg hpos, hstep, eu]
          show 1 + 0 ≤ 8
          omega
      · have eu : upI S' ((S.cnt : Nat) : Int) = (h : Int) := by rw [upI_nat, hs_up b1 (g.c256 b2.1)]
        obtain ⟨i1, i2⟩ := hcc 40 (h : Int) (g.e40 b2).1
        refine ⟨40 + 1, .inr ⟨by omega, by rw [eu]; exact i1⟩, ?_⟩
        rw [depN_s, if_neg hpos, hstep, eu, i2]
        omega
  · intro i hi h0
    by_cases c : i < S.len
    · rcases a.A i c with h | ⟨h, _, b2, b3, _⟩
      · rw [h] at h0
        rcases g.own i c h0 with e | ⟨k, ht, hc⟩
        · exact .inl e
        · exact .inr ⟨k, (tp k ht.2.1).2 ht, by rw [a.old k ht.2.1]; exact hc⟩
      · rcases g.pcases b2 (g.sl b2 b3).2.1 with ⟨_, h⟩ | ⟨ht, hc⟩ | ⟨u, hu, hc, _⟩
        · exact .inl h
        · exact .inr ⟨_, (tp _ ht.2.1).2 ht, by rw [a.old _ ht.2.1]; exact hc⟩
        · exact .inr ⟨u, (tp u hu.lt).2 hu.tp, by rw [a.old u hu.lt]; exact hc⟩
    · exact .inr ⟨S.cnt, tn, a.zero i (by omega) hi h0⟩
  · intro i h v hl hs h0
    by_cases c : h < S.cnt
    · have hl' := (lv h c).1 hl
      rw [a.old h c] at hs
      rcases a.A i (g.sl hl' hs).1 with e | ⟨h', b1, b2, b3, _⟩
      · rw [e] at h0
        obtain ⟨k, ht, hu, hv⟩ := g.slot i h v hl' hs h0
        exact ⟨k, (tp k ht.2.1).2 ht, (hso k h ht.2.1).2 hu, by rw [a.old k ht.2.1]; exact hv⟩
      · obtain ⟨e1, e2⟩ := g.sl_two hl' b2 hs b3
        subst e1
        exact ⟨S.cnt, tn, b1, e2.symm⟩
    · exact absurd (a.sl h v i (by omega) hl.1 hs).2 h0
end
end Eng
end Go.Proofs.Ygcfab
