/-
  law.hurtChain: a chain of structs behind all else (plain).
-/
import Derived.Test.YgcfabEb1
set_option linter.unusedSimpArgs false
set_option linter.unusedVariables false
set_option maxRecDepth 100000
namespace Go.Proofs.Ygcfab
namespace Eng
section
variable {S : Ed}
def chO (l : Nat) (u : Int16) : Ob := ⟨⟨1, UInt16.ofNat l, 0, 1, 0, 0⟩, u, 0, false, false⟩
/-- the editor with one struct more, its pointer at the last word if it is not the first -/
def chE (S : Ed) (i : Nat) : Ed :=
  ⟨fun j => if j < S.len then (if 0 < i ∧ j = S.len - 1 then 281474976710656 else S.A j) else 0, S.len + 1, upd S.O S.cnt (chO S.len (if 0 < i then Int16.ofInt ((S.cnt - 1 : Nat) : Int) else -1)), S.cnt + 1⟩
structure ChI (S : Ed) (i : Nat) : Prop where
  gd : Gd S
  len : S.len + 9 ≤ 256 + i
  cnt : S.cnt + 9 ≤ 256 + i
  last : 0 < i → ∃ u, S.O (S.cnt - 1) = chO (S.len - 1) u
  zero : 0 < i → S.A (S.len - 1) = 0
  dep : 0 < i → depN S 40 ((S.cnt - 1 : Nat) : Int) = i
  two : 0 < i → 2 ≤ S.cnt ∧ 2 ≤ S.len
theorem shal_no : ∀ (n m : Nat) (h : Int) (d : Nat), Ends S n h → n ≤ m → d ≤ 8 → 8 < d + depN S n h → shalN S m h d = false
  | 0, m, h, d, _, _, h1, h2 => by
    have : depN S 0 h = 0 := rfl
    omega
  | n + 1, m, h, d, he, hm, h1, h2 => by
    obtain ⟨m, rfl⟩ : ∃ m', m = m' + 1 := ⟨m - 1, by omega⟩
    rw [depN_s] at h2
    by_cases h0 : h ≤ 0
    · rw [if_pos h0] at h2; omega
    rw [if_neg h0] at h2
    rw [shalN, if_neg h0]
    by_cases c : 8 < d + stepD S h
    · rw [if_pos c]
    · rw [if_neg c]
      rcases he with he | ⟨_, he⟩
      · exact absurd he h0
      · exact shal_no n m _ _ he (by omega) (by omega) (by omega)
theorem ch_ptr {l : Nat} (h1 : 1 ≤ l) (h2 : l ≤ 255) (u : Int16) : pointerL (UInt16.ofNat (l - 1)) (chO l u).p = 281474976710656 := by
  have e : pointerL (UInt16.ofNat (l - 1)) (chO l u).p = makeStructL (UInt16.ofNat (l - 1)) (UInt16.ofNat l) (UInt8.ofNat 0) (UInt8.ofNat 1) := rfl
  rw [e]
  apply UInt64.toNat_inj.1
  rw [makeStruct_nat (l - 1) l 0 1 (by omega) (by omega) (by omega) (by omega), if_neg (by omega)]
  unfold off30
  have e2 : (281474976710656 : UInt64).toNat = 281474976710656 := rfl
  rw [e2]
  omega
theorem ch_new (S : Ed) (i : Nat) : (chE S i).O S.cnt = chO S.len (if 0 < i then Int16.ofInt ((S.cnt - 1 : Nat) : Int) else -1) := upd_same _ _ _
theorem ch_words (l : Nat) (u : Int16) : (wordsL (chO l u).p).toNat = 1 := words_st rfl (show (0 : UInt8).toNat ≤ 8 by decide) (show (1 : UInt8).toNat ≤ 8 by decide)
theorem ch_ends {i : Nat} (c : ChI S i) : Ends (chE S i) 18 (S.cnt : Nat) ∧ depN (chE S i) 18 (S.cnt : Nat) = i + 1 := by
  have g := c.gd
  have hc := g.cnt.1
  have hpos : ¬ ((S.cnt : Nat) : Int) ≤ 0 := by omega
  have hcn := c.cnt
  have hstep : stepD (chE S i) ((S.cnt : Nat) : Int) = 1 := by rw [stepD_nat, ch_new]; rfl
  have hcc := chain_congr (S := S) (S' := chE S i) (by show S.cnt ≤ S.cnt + 1; omega) (fun k hk => by
    have : (chE S i).O k = S.O k := upd_ne _ _ _ _ (by omega)
    rw [this]; exact ⟨rfl, rfl⟩)
  by_cases h0 : 0 < i
  · have eu : upI (chE S i) ((S.cnt : Nat) : Int) = ((S.cnt - 1 : Nat) : Int) := by
      rw [upI_nat, ch_new, if_pos h0]
      exact i16n (by have := g.cnt.2; omega)
    have t2 := c.two h0
    have hl : Lv S (S.cnt - 1) := by
      obtain ⟨u, hu⟩ := c.last h0
      exact ⟨by omega, by rw [hu]; rfl⟩
    obtain ⟨e1, e2⟩ := g.e17 hl
    obtain ⟨i1, i2⟩ := hcc 17 _ e1
    have hd : depN S 17 ((S.cnt - 1 : Nat) : Int) = i := by rw [← (ends_le e1 40 (by omega)).2]; exact c.dep h0
    refine ⟨.inr ⟨by show ((S.cnt : Nat) : Int) < ((S.cnt + 1 : Nat) : Int); omega, by rw [eu]; exact i1⟩, ?_⟩
    rw [depN_s, if_neg hpos, hstep, eu, i2, hd]
    omega
  · have eu : upI (chE S i) ((S.cnt : Nat) : Int) = -1 := by rw [upI_nat, ch_new, if_neg h0]; exact (show (-1 : Int16).toInt = -1 by decide)
    have hn : Ends (chE S i) 17 (-1) ∧ depN (chE S i) 17 (-1) = 0 := ⟨.inl (by decide), by rw [depN_s, if_pos (by decide)]⟩
    refine ⟨.inr ⟨by show ((S.cnt : Nat) : Int) < ((S.cnt + 1 : Nat) : Int); omega, by rw [eu]; exact hn.1⟩, ?_⟩
    rw [depN_s, if_neg hpos, hstep, eu, hn.2]
    omega
/-- the ninth is too deep -/
theorem ch_bad (c : ChI S 8) : ¬ CheckP (chE S 8) := by
  intro k
  obtain ⟨e1, e2⟩ := ch_ends c
  have := k.c3 S.cnt (by show S.cnt < S.cnt + 1; omega) ⟨by rw [ch_new]; rfl, by rw [ch_new]; rfl⟩
  rw [shal_no 18 40 _ 0 e1 (by omega) (by omega) (by omega)] at this
  cases this
theorem ch_good {i : Nat} (c : ChI S i) (hi : i < 8) : ChI (chE S i) (i + 1) := by
  have g := c.gd
  have hlen := g.len
  have hcnt := g.cnt
  have hcl := c.len
  have hcc := c.cnt
  have hnew := ch_new S i
  have hA : ∀ j, S.len ≤ j → (chE S i).A j = 0 := fun j hj => by
    show (if j < S.len then _ else 0) = (0 : UInt64)
    rw [if_neg (by omega)]
  generalize hU : (if 0 < i then Int16.ofInt ((S.cnt - 1 : Nat) : Int) else -1) = U at hnew
  have hat : (chO S.len U).p.at_.toNat = S.len := tn16 (by omega)
  have hst : strB (chO S.len U).p = false := rfl
  have hwd := ch_words S.len U
  have hin : insideL (S.len + 1) (chO S.len U).p = true := by
    rw [inside_iff _ _ (by omega)]
    refine ⟨.inl rfl, ?_⟩
    rw [if_neg (show ¬ ((chO S.len U).p.kind = 2 ∧ (chO S.len U).p.code = 7) from (show ¬ ((1 : UInt8) = 2 ∧ (0 : UInt8) = 7) by decide)), hwd, hat]
    omega
  have gd' : Gd (chE S i) := by
    refine g.app ⟨⟨by show S.cnt < S.cnt + 1; omega, by show S.cnt + 1 ≤ 256; omega⟩, ⟨by show S.len ≤ S.len + 1; omega, by show S.len + 1 ≤ 256; omega⟩, fun k hk => upd_ne _ _ _ _ (by omega), by rw [hnew]; rfl, by rw [hnew]; rfl, by rw [hnew]; exact hin, by rw [hnew]; rfl, ?_, ?_, ?_, ?_, ?_, ?_, ?_, ?_, ?_⟩
    · intro j
      rw [hnew]
      rintro ⟨h1, h2⟩
      rw [firstL_no hst, hat] at h1
      exact h1
    · intro k h1 h2
      have : k < S.cnt + 1 := h2
      omega
    · rw [hnew]
      intro h
      rw [hst] at h; cases h
    · rw [hnew]
      unfold wholeB
      rfl
    · rw [hnew]
      intro h
      by_cases h0 : 0 < i
      · exfalso
        have h' : U = -1 := h
        rw [← hU, if_pos h0] at h'
        have := i16n (u := S.cnt - 1) (by omega)
        rw [h', show (-1 : Int16).toInt = -1 by decide] at this
        omega
      · unfold orphB
        have : wlessB (chO S.len U).p = false := rfl
        rw [this]
        rfl
    · by_cases h0 : 0 < i
      · right
        obtain ⟨u, hu⟩ := c.last h0
        have t2 := c.two h0
        have hpl : Lv S (S.cnt - 1) := ⟨by omega, by rw [hu]; rfl⟩
        have hs0 : Sl (S.O (S.cnt - 1)).p 0 (S.len - 1) := by
          rw [hu]
          refine .inl ⟨rfl, by show 0 < 1; omega, ?_⟩
          show S.len - 1 = (UInt16.ofNat (S.len - 1)).toNat + 0 + 0
          rw [tn16 (by omega)]
          omega
        refine ⟨S.cnt - 1, S.len - 1, ?_, hpl, by rw [c.dep h0]; exact hi, by rw [hnew]; exact hs0, c.zero h0, ?_, ?_⟩
        · show ((chE S i).O S.cnt).up = _
          rw [hnew]
          show U = _
          rw [← hU, if_pos h0]
        · rw [hnew, ch_ptr (by omega) (by omega)]
          show (if S.len - 1 < S.len then (if 0 < i ∧ S.len - 1 = S.len - 1 then 281474976710656 else S.A (S.len - 1)) else 0) = (281474976710656 : UInt64)
          rw [if_pos (by omega), if_pos ⟨h0, rfl⟩]
        · rw [hnew]
          intro h
          have h' : wlessB (chO S.len U).p = true := h
          have : wlessB (chO S.len U).p = false := rfl
          rw [this] at h'; cases h'
      · left
        rw [hnew]
        show U = -1
        rw [← hU, if_neg h0]
    · intro j hj
      by_cases h0 : 0 < i ∧ j = S.len - 1
      · right
        obtain ⟨u, hu⟩ := c.last h0.1
        have t2 := c.two h0.1
        refine ⟨S.cnt - 1, ?_, ⟨by omega, by rw [hu]; rfl⟩, ?_, by rw [h0.2]; exact c.zero h0.1⟩
        · show ((chE S i).O S.cnt).up = _
          rw [hnew]
          show U = _
          rw [← hU, if_pos h0.1]
        · rw [hnew, hu]
          refine .inl ⟨rfl, by show 0 < 1; omega, ?_⟩
          show j = (UInt16.ofNat (S.len - 1)).toNat + 0 + 0
          rw [tn16 (by omega)]
          omega
      · left
        show (if j < S.len then (if 0 < i ∧ j = S.len - 1 then 281474976710656 else S.A j) else 0) = S.A j
        rw [if_pos hj, if_neg h0]
    · intro j h1 h2 h3
      exact absurd (hA j h1) h3
    · intro k v j h1 h2 hs
      have h2' : k < S.cnt + 1 := h2
      have e : k = S.cnt := by omega
      subst e
      rw [hnew] at hs
      rcases hs with ⟨_, _, h⟩ | ⟨h, _⟩
      · have h' : j = (chO S.len U).p.at_.toNat + 0 + v := h
        rw [hat] at h'
        exact ⟨by omega, hA j (by omega)⟩
      · exact absurd h (show ¬ (1 : UInt8) = 2 by decide)
  obtain ⟨e1, e2⟩ := ch_ends c
  refine ⟨gd', by show S.len + 1 + 9 ≤ _; omega, by show S.cnt + 1 + 9 ≤ _; omega, fun _ => ⟨U, ?_⟩, fun _ => ?_, fun _ => ?_, fun _ => ⟨by show 2 ≤ S.cnt + 1; omega, by show 2 ≤ S.len + 1; omega⟩⟩
  · show (chE S i).O (S.cnt + 1 - 1) = chO (S.len + 1 - 1) U
    rw [Nat.add_sub_cancel, Nat.add_sub_cancel]
    exact hnew
  · show (chE S i).A (S.len + 1 - 1) = 0
    exact hA _ (by omega)
  · show depN (chE S i) 40 ((S.cnt + 1 - 1 : Nat) : Int) = i + 1
    rw [Nat.add_sub_cancel, (ends_le e1 40 (by omega)).2, e2]
end
end Eng
end Go.Proofs.Ygcfab
