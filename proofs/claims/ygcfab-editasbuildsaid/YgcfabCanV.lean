/-
  The validator's walk over a canonical arena, without Go.
-/
import Derived.Test.YgcfabCanR
set_option linter.unusedSimpArgs false
set_option linter.unusedVariables false
namespace Go.Proofs.Ygcfab
namespace Eng

theorem catF_snoc {α : Type} (g : Nat → List α) : ∀ m k, catF g k (m + 1) = catF g k m ++ g (k + m)
  | 0, k => by simp [catF]
  | m + 1, k => by
    rw [catF, catF_snoc g m (k + 1), catF, List.append_assoc]
    congr 3; omega
/-! bits of a mask -/
theorem bitU_mask (n : UInt8) (h : n.toNat ≤ 64) (i : Nat) (hi : i < 64) : bitU (maskL n) i = decide (i < n.toNat) := by
  rcases Nat.lt_or_ge n.toNat 64 with h1 | h1
  · unfold bitU
    rw [maskL_toNat n h1, Nat.testBit_two_pow_sub_one]
  · have e : n.toNat = 64 := by omega
    have e2 : maskL n = 18446744073709551615 := by
      unfold maskL
      rw [e]; decide
    rw [e2, bitU_all, e]
theorem bitU_maskR (a run : Nat) (hr : a % 64 + run ≤ 64) (i : Nat) (hi : i < 64) : bitU (maskR a run) i = decide (a % 64 ≤ i ∧ i < a % 64 + run) := by
  unfold maskR putL
  have e1 : (UInt8.ofNat (a % 64)).toNat = a % 64 := tn8 (by omega)
  have e2 : (UInt8.ofNat run).toNat = run := tn8 (by omega)
  rw [fits_of (by rw [e1, e2]; exact hr), if_pos rfl, UInt64.zero_and, UInt64.zero_or, bitU_shl, bitU_and, e1, bitU_all, bitU_mask _ (by rw [e2]; omega) _ (by omega), e2]
  simp only [hi, decide_true, Bool.true_and]
  by_cases h1 : a % 64 ≤ i
  · simp only [h1, decide_true, Bool.true_and, true_and]
    have h2 : i - a % 64 < 64 := by omega
    simp only [h2, decide_true, Bool.true_and]
    rw [decide_eq_decide]; omega
  · simp [h1]
theorem and_zero_of {x m : UInt64} (h : ∀ i, i < 64 → bitU m i = true → bitU x i = false) : x &&& m = 0 := by
  rw [eq_zero_iff]
  intro i hi
  rw [bitU_and]
  cases hm : bitU m i
  · simp
  · rw [h i hi hm]; rfl
theorem claimTo_ok : ∀ (f : Nat) (set : Nat → UInt64) (a n : Nat), n ≤ f → (∀ i, a ≤ i → i < a + n → inS set i = false) →
    (claimTo set f a n).1 = true ∧ ∀ i, inS (claimTo set f a n).2 i = (inS set i || decide (a ≤ i ∧ i < a + n))
  | 0, set, a, n, hn, h => by
    have : n = 0 := by omega
    subst this
    refine ⟨rfl, fun i => ?_⟩
    have e : decide (a ≤ i ∧ i < a + 0) = false := decide_eq_false (by omega)
    rw [e, Bool.or_false]; rfl
  | f + 1, set, a, n, hn, h => by
    rw [claimTo]
    by_cases h0 : n = 0
    · subst h0
      rw [if_pos rfl]
      refine ⟨rfl, fun i => ?_⟩
      have e : decide (a ≤ i ∧ i < a + 0) = false := decide_eq_false (by omega)
      rw [e, Bool.or_false]
    · rw [if_neg h0]
      simp only []
      generalize hrun : min (64 - a % 64) n = run
      have hr1 : 0 < run := by omega
      have hr2 : a % 64 + run ≤ 64 := by omega
      have hr3 : run ≤ n := by omega
      have hz : set (a / 64) &&& maskR a run = 0 := by
        apply and_zero_of
        intro i hi hm
        rw [bitU_maskR a run hr2 i hi] at hm
        have hm := of_decide_eq_true hm
        have := h (a / 64 * 64 + i) (by omega) (by omega)
        unfold inS at this
        rw [show (a / 64 * 64 + i) / 64 = a / 64 by omega, show (a / 64 * 64 + i) % 64 = i by omega] at this
        exact this
      rw [if_neg (by rw [hz]; simp)]
      have hstep : ∀ i, inS (upd set (a / 64) (set (a / 64) ||| maskR a run)) i = (inS set i || decide (a ≤ i ∧ i < a + run)) := by
        intro i
        unfold inS
        by_cases hi : i / 64 = a / 64
        · rw [hi, upd_same, bitU_or, bitU_maskR a run hr2 _ (by omega)]
          congr 1
          rw [decide_eq_decide]; omega
        · rw [upd_ne _ _ _ _ hi]
          have : ¬ (a ≤ i ∧ i < a + run) := by omega
          simp [this]
      have ih := claimTo_ok f (upd set (a / 64) (set (a / 64) ||| maskR a run)) (a + run) (n - run) (by omega) (by
        intro i h1 h2
        rw [hstep, h i (by omega) (by omega)]
        have : ¬ (a ≤ i ∧ i < a + run) := by omega
        simp [this])
      refine ⟨ih.1, fun i => ?_⟩
      rw [ih.2, hstep, Bool.or_assoc]
      congr 1
      rw [← Bool.decide_or, decide_eq_decide]
      omega

/-! the stack as a list, its top first -/
def StV (S : WalkS) : List (Nat × Nat) → Prop
  | [] => True
  | x :: xs => S.sat xs.length = UInt16.ofNat x.1 ∧ S.sdep xs.length = UInt8.ofNat x.2 ∧ StV S xs
theorem StV.keep {S S' : WalkS} : ∀ {L : List (Nat × Nat)}, (∀ i, i < L.length → S'.sat i = S.sat i ∧ S'.sdep i = S.sdep i) → StV S L → StV S' L
  | [], _, _ => trivial
  | x :: xs, h, hs => by
    have h0 := h xs.length (by simp)
    exact ⟨by rw [h0.1]; exact hs.1, by rw [h0.2]; exact hs.2.1, StV.keep (fun i hi => h i (by simp; omega)) hs.2.2⟩
theorem StV.tail : ∀ {S : WalkS} (L R : List (Nat × Nat)), StV S (L ++ R) → StV S R
  | S, [], R, h => h
  | S, x :: xs, R, h => StV.tail xs R h.2.2
structure SV (S : WalkS) (L : List (Nat × Nat)) : Prop where
  sp : S.sp.toNat = L.length
  st : StV S L
theorem SV.push1 {S : WalkS} {L : List (Nat × Nat)} (h : SV S L) (a d : Nat) (hl : L.length < 256) : SV (S.push1 (UInt16.ofNat a) (UInt8.ofNat d)) ((a, d) :: L) := by
  constructor
  · show (S.sp + 1).toNat = _
    rw [UInt16.toNat_add, h.sp]
    have : (1 : UInt16).toNat = 1 := rfl
    simp only [List.length_cons]; omega
  · refine ⟨?_, ?_, h.st.keep ?_⟩
    · show upd S.sat S.sp.toNat _ _ = _
      rw [h.sp, upd_same]
    · show upd S.sdep S.sp.toNat _ _ = _
      rw [h.sp, upd_same]
    · intro i hi
      refine ⟨upd_ne _ _ _ _ ?_, upd_ne _ _ _ _ ?_⟩ <;> rw [h.sp] <;> omega
theorem SV.pushTo {S : WalkS} {L : List (Nat × Nat)} (h : SV S L) (a d : Nat) : ∀ k, a + k < 65536 → L.length + k ≤ 256 → SV (S.pushTo (UInt16.ofNat a) (UInt8.ofNat d) k) (((catF (fun j => [a + j]) 0 k).map (fun q => (q, d))).reverse ++ L) ∧ (S.pushTo (UInt16.ofNat a) (UInt8.ofNat d) k).set = S.set
  | 0, _, _ => ⟨h, rfl⟩
  | k + 1, ha, hl => by
    obtain ⟨h1, h2⟩ := SV.pushTo h a d k (by omega) (by omega)
    rw [WalkS.pushTo, catF_snoc, add16 (by omega)]
    have hlen : (catF (fun j => [a + j]) 0 k).length = k * 1 := catF_len1 k 0 (fun j => rfl)
    have := h1.push1 (a + k) d (by simp [hlen]; omega)
    refine ⟨?_, h2⟩
    simpa using this
theorem SV.pushL {S : WalkS} {L : List (Nat × Nat)} (h : SV S L) (a n d : Nat) (ha : a + n < 65536) (hl : L.length + n ≤ 256) : SV (S.pushL (UInt16.ofNat a) (UInt16.ofNat n) (UInt8.ofNat d)) (((catF (fun j => [a + j]) 0 n).map (fun q => (q, d))).reverse ++ L) ∧ (S.pushL (UInt16.ofNat a) (UInt16.ofNat n) (UInt8.ofNat d)).set = S.set := by
  unfold WalkS.pushL
  rw [tn16 (by omega), h.sp, Nat.min_eq_left (by omega)]
  exact h.pushTo a d n ha hl
theorem followL_1 (S : WalkS) (at_ : UInt16) (d p : UInt8) (dep : UInt8) : S.followL ⟨1, at_, d, p, 0, 0⟩ dep = S.pushL (at_ + d.toUInt16) p.toUInt16 dep := by
  unfold WalkS.followL; exact if_pos rfl
theorem followL_6 (S : WalkS) (at_ n : UInt16) (dep : UInt8) : S.followL ⟨2, at_, 0, 0, 6, n⟩ dep = S.pushL at_ n dep := by
  unfold WalkS.followL
  exact (if_neg (show ¬ (2 : UInt8) = 1 by decide)).trans (if_pos rfl)
theorem followL_7 (S : WalkS) (at_ n : UInt16) (d p dep : UInt8) : S.followL ⟨2, at_, d, p, 7, n⟩ dep = S.followTo ⟨2, at_, d, p, 7, n⟩ dep n.toNat := by
  unfold WalkS.followL
  exact (if_neg (show ¬ (2 : UInt8) = 1 by decide)).trans ((if_neg (show ¬ (7 : UInt8) = 6 by decide)).trans (if_pos rfl))
theorem followL_5 (S : WalkS) (at_ n : UInt16) (c dep : UInt8) (h6 : c ≠ 6) (h7 : c ≠ 7) : S.followL ⟨2, at_, 0, 0, c, n⟩ dep = S := by
  unfold WalkS.followL
  exact (if_neg (show ¬ (2 : UInt8) = 1 by decide)).trans ((if_neg h6).trans (if_neg h7))
theorem SV.pushL0 {S : WalkS} {L : List (Nat × Nat)} (h : SV S L) (a : UInt16) (d : UInt8) : S.pushL a (UInt16.ofNat 0) d = S := by
  unfold WalkS.pushL
  rw [tn16 (by omega), Nat.zero_min]; rfl
theorem SV.follow {A : Nat → UInt64} {a s : Nat} {c : Piece} (hc : c.ok A a s) (hs : s + c.words ≤ 256) {S : WalkS} {L : List (Nat × Nat)} (h : SV S L) (d : Nat) (hl : L.length + (c.slots s).length ≤ 256) :
    SV (S.followL (c.ptr a s) (UInt8.ofNat d)) (((c.slots s).map (fun q => (q, d))).reverse ++ L) ∧ (S.followL (c.ptr a s) (UInt8.ofNat d)).set = S.set := by
  have to16 : ∀ x, x < 256 → (UInt8.ofNat x).toUInt16 = UInt16.ofNat x := by
    intro x hx
    apply eq16
    rw [UInt8.toNat_toUInt16, tn8 hx]
  rcases c with ⟨d', p⟩ | ⟨c, n⟩ | ⟨cn, d', p⟩
  · skip
    obtain ⟨hd, hp, _⟩ := hc
    simp only [Piece.words] at hs
    have hlen : (Piece.slots s (.inl (d', p))).length = p := by
      simp only [Piece.slots]
      have := catF_len1 (g := fun j => [s + d' + j]) (p := 1) p 0 (fun j => rfl)
      omega
    simp only [Piece.ptr]
    rw [followL_1, to16 d' (by omega), to16 p (by omega)]
    by_cases h0 : d' = 0 ∧ p = 0
    · obtain ⟨rfl, rfl⟩ := h0
      simp only [Piece.slots, catF, List.map_nil, List.reverse_nil, List.nil_append]
      rw [h.pushL0]
      exact ⟨h, rfl⟩
    · rw [if_neg h0, add16 (by omega)]
      exact h.pushL (s + d') p d (by omega) (by omega)
  · skip
    obtain ⟨h1, h2, h3, _⟩ := hc
    simp only [Piece.ptr]
    by_cases h6 : c = 6
    · subst h6
      simp only [Piece.slots, if_true] at hl ⊢
      have e6 : UInt8.ofNat 6 = 6 := rfl
      rw [e6, followL_6]
      by_cases h0 : n = 0
      · subst h0
        simp only [catF, List.map_nil, List.reverse_nil, List.nil_append]
        rw [h.pushL0]
        exact ⟨h, rfl⟩
      · have hlen := catF_len1 (g := fun j => [s + j]) (p := 1) n 0 (fun j => rfl)
        simp only [Piece.words, if_true] at hs
        rw [if_neg h0]
        exact h.pushL s n d (by omega) (by omega)
    · have c6 : ¬ UInt8.ofNat c = 6 := by
        intro h
        have := congrArg UInt8.toNat h
        rw [tn8 (by omega)] at this
        have e : (6 : UInt8).toNat = 6 := rfl
        omega
      have c7 : ¬ UInt8.ofNat c = 7 := by
        intro h
        have := congrArg UInt8.toNat h
        rw [tn8 (by omega)] at this
        have e : (7 : UInt8).toNat = 7 := rfl
        omega
      rw [followL_5 _ _ _ _ _ c6 c7]
      simp only [Piece.slots, if_neg h6, List.map_nil, List.reverse_nil, List.nil_append]
      exact ⟨h, trivial⟩
  · skip
    obtain ⟨h1, hd, hp, _, _, hm, _⟩ := hc
    simp only [Piece.words] at hs
    have hlen : ∀ k, (catF (fun i => catF (fun j => [s + 1 + i * (d' + p) + d' + j]) 0 p) 0 k).length = k * p := fun k => catF_len1 k 0 (fun i => by
      have := catF_len1 (g := fun j => [s + 1 + i * (d' + p) + d' + j]) (p := 1) p 0 (fun j => rfl)
      omega)
    have hl' : L.length + cn * p ≤ 256 := by
      have := hlen cn
      simp only [Piece.slots] at hl
      omega
    simp only [Piece.ptr]
    rw [followL_7, tn16 (by omega)]
    simp only [Piece.slots]
    have key : ∀ k, k ≤ cn → SV (S.followTo ⟨2, UInt16.ofNat (s + 1), UInt8.ofNat d', UInt8.ofNat p, 7, UInt16.ofNat cn⟩ (UInt8.ofNat d) k) (((catF (fun i => catF (fun j => [s + 1 + i * (d' + p) + d' + j]) 0 p) 0 k).map (fun q => (q, d))).reverse ++ L) ∧
        (S.followTo ⟨2, UInt16.ofNat (s + 1), UInt8.ofNat d', UInt8.ofNat p, 7, UInt16.ofNat cn⟩ (UInt8.ofNat d) k).set = S.set := by
      intro k
      induction k with
      | zero => intro _; exact ⟨h, rfl⟩
      | succ k ih =>
        intro hk
        obtain ⟨i1, i2⟩ := ih (by omega)
        rw [WalkS.followTo, catF_snoc]
        have hkm : k * (d' + p) + (d' + p) ≤ cn * (d' + p) := by
          rw [← Nat.succ_mul]; exact Nat.mul_le_mul_right _ hk
        have hkp : k * p + p ≤ cn * p := by
          rw [← Nat.succ_mul]; exact Nat.mul_le_mul_right _ hk
        have e : UInt16.ofNat k * UInt16.ofNat (d' + p) = UInt16.ofNat (k * (d' + p)) := by
          apply eq16
          rw [UInt16.toNat_mul, tn16 (by omega), tn16 (by omega)]
          omega
        simp only [each_of hd hp, e, to16 d' (by omega), to16 p (by omega)]
        rw [add16 (by omega), add16 (by omega)]
        have := i1.pushL (s + 1 + k * (d' + p) + d') p d (by omega) (by simp only [List.length_append, List.length_reverse, List.length_map, hlen]; omega)
        refine ⟨?_, this.2.trans i2⟩
        simpa using this.1
    exact key cn (Nat.le_refl _)

/-! the run -/
def GoV (A : Nat → UInt64) (len : Nat) (S S' : WalkS) : Prop := ∃ n, ∀ f, WalkS.runL A len (n + f) S = WalkS.runL A len f S'
theorem GoV.refl (A : Nat → UInt64) (len : Nat) (S : WalkS) : GoV A len S S := ⟨0, fun f => by rw [Nat.zero_add]⟩
theorem GoV.trans {A : Nat → UInt64} {len : Nat} {S S' S'' : WalkS} (h : GoV A len S S') (h' : GoV A len S' S'') : GoV A len S S'' := by
  obtain ⟨n, h⟩ := h
  obtain ⟨m, h'⟩ := h'
  exact ⟨n + m, fun f => by rw [Nat.add_assoc, h, h']⟩
theorem GoV.one {A : Nat → UInt64} {len : Nat} {S S' : WalkS} (h0 : S.sp ≠ 0) (h : S.stepL A len = (true, S')) : GoV A len S S' :=
  ⟨1, fun f => by rw [Nat.add_comm, WalkS.runL, if_neg h0, h, if_neg (by simp)]⟩
theorem sp_ne {S : WalkS} {x : Nat × Nat} {L : List (Nat × Nat)} (h : SV S (x :: L)) : S.sp ≠ 0 := by
  intro e
  have := h.sp
  rw [e] at this
  simp at this
theorem SV.pop {S : WalkS} {x : Nat × Nat} {L : List (Nat × Nat)} (h : SV S (x :: L)) (hl : L.length < 256) : (S.sp - 1).toNat = L.length ∧ SV { S with sp := S.sp - 1 } L := by
  have e : (S.sp - 1).toNat = L.length := by
    have := h.sp
    simp only [List.length_cons] at this
    rw [UInt16.toNat_sub_of_le]
    · rw [this]; rfl
    · rw [UInt16.le_iff_toNat_le, this]; show 1 ≤ _; omega
  exact ⟨e, e, StV.keep (S := S) (fun i hi => ⟨rfl, rfl⟩) h.st.2.2⟩
theorem step_null {A : Nat → UInt64} {len a dep : Nat} {S : WalkS} {L : List (Nat × Nat)} (h : SV S ((a, dep) :: L)) (ha : a < len) (hlen : len ≤ 256) (hl : L.length < 256) (h0 : A a = 0) :
    ∃ S', S.stepL A len = (true, S') ∧ SV S' L ∧ S'.set = S.set := by
  obtain ⟨e, hp⟩ := h.pop hl
  refine ⟨{ S with sp := S.sp - 1 }, ?_, hp, rfl⟩
  unfold WalkS.stepL
  have hsp := h.sp
  simp only [List.length_cons] at hsp
  rw [if_neg (by
    simp only [gt_iff_lt, UInt16.lt_iff_toNat_lt]
    have : (256 : UInt16).toNat = 256 := rfl
    omega), if_neg (sp_ne h)]
  simp only []
  have hat : S.sat (S.sp - 1).toNat = UInt16.ofNat a := by rw [e]; exact h.st.1
  have hres : resolveL A len (UInt16.ofNat a) = (.zero, true) := by
    unfold resolveL
    rw [tn16 (by omega), if_neg (by omega)]
    unfold resolveWordL
    rw [if_neg (by omega), if_pos h0]
  rw [hat, hres]
  rfl
theorem step_piece {A : Nat → UInt64} {len a dep s : Nat} {c : Piece} {S : WalkS} {L : List (Nat × Nat)} (h : SV S ((a, dep) :: L)) (hc : c.ok A a s) (ha : a < len) (hlen : len ≤ 256) (hs1 : 1 ≤ s) (hs : s + c.words ≤ len) (hdep : dep < 8)
    (hl : L.length + (c.slots s).length ≤ 256) (hl' : L.length < 256) (hfree : ∀ i, s ≤ i → i < s + c.words → inS S.set i = false) :
    ∃ S', S.stepL A len = (true, S') ∧ SV S' (((c.slots s).map (fun q => (q, dep + 1))).reverse ++ L) ∧ ∀ i, inS S'.set i = (inS S.set i || decide (s ≤ i ∧ i < s + c.words)) := by
  obtain ⟨e, hp⟩ := h.pop hl'
  have hsp := h.sp
  simp only [List.length_cons] at hsp
  have hat : S.sat (S.sp - 1).toNat = UInt16.ofNat a := by rw [e]; exact h.st.1
  have hdp : S.sdep (S.sp - 1).toNat = UInt8.ofNat dep := by rw [e]; exact h.st.2.1
  have hd1 : UInt8.ofNat dep + 1 = UInt8.ofNat (dep + 1) := by
    apply UInt8.toNat_inj.1
    rw [UInt8.toNat_add, tn8 (by omega), tn8 (by omega)]
    have : (1 : UInt8).toNat = 1 := rfl
    omega
  have hw := piece_words hc
  have hcl : (claimTo S.set (wordsL (c.ptr a s)).toNat (firstL (c.ptr a s)).toNat (wordsL (c.ptr a s)).toNat).1 = true ∧
      ∀ i, inS (claimTo S.set (wordsL (c.ptr a s)).toNat (firstL (c.ptr a s)).toNat (wordsL (c.ptr a s)).toNat).2 i = (inS S.set i || decide (s ≤ i ∧ i < s + c.words)) := by
    rw [hw]
    by_cases h0 : c.words = 0
    · rw [h0]
      have := claimTo_ok 0 S.set (firstL (c.ptr a s)).toNat 0 (Nat.le_refl _) (fun i h1 h2 => by omega)
      refine ⟨this.1, fun i => ?_⟩
      rw [this.2]
      congr 1
      rw [decide_eq_decide]; omega
    · rw [piece_first hc (by omega) (by omega)]
      exact claimTo_ok _ _ _ _ (Nat.le_refl _) hfree
  generalize hX : claimTo S.set (wordsL (c.ptr a s)).toNat (firstL (c.ptr a s)).toNat (wordsL (c.ptr a s)).toNat = X at hcl
  have hp2 : SV { S with set := X.2, sp := S.sp - 1 } L := ⟨hp.1, StV.keep (S := { S with sp := S.sp - 1 }) (fun i hi => ⟨rfl, rfl⟩) hp.2⟩
  obtain ⟨f1, f2⟩ := hp2.follow hc (by omega) (dep + 1) hl
  refine ⟨_, ?_, f1, fun i => by rw [f2]; exact hcl.2 i⟩
  unfold WalkS.stepL
  rw [if_neg (by
    simp only [gt_iff_lt, UInt16.lt_iff_toNat_lt]
    have : (256 : UInt16).toNat = 256 := rfl
    omega), if_neg (sp_ne h)]
  simp only []
  rw [hat, hdp, resolve_piece hc ha hlen hs1 hs]
  simp only []
  rw [if_neg (by simp [piece_kind]), if_neg (by
    simp only [ge_iff_le, UInt8.le_iff_toNat_le, tn8 (show dep < 256 by omega)]
    have : (8 : UInt8).toNat = 8 := rfl
    omega), hX, hcl.1, piece_padded hc hlen hs, hd1]
  rfl
theorem chainV {A : Nat → UInt64} {len d dep : Nat} (hlen : len ≤ 256)
    (big : ∀ a s e, Sub A d a s e → ∀ (S : WalkS) (L : List (Nat × Nat)), SV S ((a, dep) :: L) → a < len → 1 ≤ s → e ≤ len → L.length + 1 + (e - s) ≤ 256 → (∀ i, s ≤ i → i < e → inS S.set i = false) →
      ∃ S', GoV A len S S' ∧ SV S' L ∧ ∀ i, inS S'.set i = (inS S.set i || decide (s ≤ i ∧ i < e))) :
    ∀ (l : List Nat) (s e : Nat), Chain (Sub A d) l s e → (∀ q, q ∈ l → q < len) → ∀ (S : WalkS) (L : List (Nat × Nat)), SV S ((l.map (fun q => (q, dep))).reverse ++ L) → 1 ≤ s → e ≤ len → L.length + l.length + (e - s) ≤ 256 →
      (∀ i, s ≤ i → i < e → inS S.set i = false) → ∃ S', GoV A len S S' ∧ SV S' L ∧ ∀ i, inS S'.set i = (inS S.set i || decide (s ≤ i ∧ i < e))
  | [], s, e, hc, _, S, L, hS, _, _, _, _ => by
    have : s = e := hc
    subst this
    refine ⟨S, GoV.refl _ _ _, hS, fun i => ?_⟩
    have : ¬ (s ≤ i ∧ i < s) := by omega
    simp [this]
  | q :: qs, s, e, ⟨m, h1, h2⟩, hq, S, L, hS, hs1, he, hl, hfree => by
    have l1 := h1.le
    have l2 := Chain.le (fun q s e h => Sub.le h) h2
    simp only [List.length_cons] at hl
    obtain ⟨S1, g1, v1, s1⟩ := chainV hlen big qs m e h2 (fun q' h => hq q' (by simp [h])) S ((q, dep) :: L) (by simpa using hS) (by omega) he (by simp only [List.length_cons]; omega) (fun i a b => hfree i (by omega) b)
    obtain ⟨S2, g2, v2, s2⟩ := big q s m h1 S1 L v1 (hq q (by simp)) hs1 (by omega) (by omega) (fun i a b => by
      rw [s1, hfree i a (by omega)]
      have : ¬ (m ≤ i ∧ i < e) := by omega
      simp [this])
    refine ⟨S2, g1.trans g2, v2, fun i => ?_⟩
    rw [s2, s1, Bool.or_assoc]
    congr 1
    rw [← Bool.decide_or, decide_eq_decide]
    omega
theorem bigV {A : Nat → UInt64} {len : Nat} (hlen : len ≤ 256) : ∀ (d dep : Nat), dep + d ≤ 8 → ∀ a s e, Sub A d a s e → ∀ (S : WalkS) (L : List (Nat × Nat)), SV S ((a, dep) :: L) → a < len → 1 ≤ s → e ≤ len → L.length + 1 + (e - s) ≤ 256 →
    (∀ i, s ≤ i → i < e → inS S.set i = false) → ∃ S', GoV A len S S' ∧ SV S' L ∧ ∀ i, inS S'.set i = (inS S.set i || decide (s ≤ i ∧ i < e)) := by
  intro d
  have hnull : ∀ dep a s e, A a = 0 ∧ s = e → ∀ (S : WalkS) (L : List (Nat × Nat)), SV S ((a, dep) :: L) → a < len → L.length + 1 + (e - s) ≤ 256 → ∃ S', GoV A len S S' ∧ SV S' L ∧ ∀ i, inS S'.set i = (inS S.set i || decide (s ≤ i ∧ i < e)) := by
    rintro dep a s e ⟨h0, rfl⟩ S L hS ha hl
    obtain ⟨S', h1, h2, h3⟩ := step_null hS ha hlen (by omega) h0
    refine ⟨S', GoV.one (sp_ne hS) h1, h2, fun i => ?_⟩
    have : ¬ (s ≤ i ∧ i < s) := by omega
    simp [this, h3]
  induction d with
  | zero => intro dep hd a s e h S L hS ha hs1 he hl hfree; exact hnull dep a s e h S L hS ha hl
  | succ d ih =>
    intro dep hd a s e h S L hS ha hs1 he hl hfree
    rcases h with h | ⟨c, hc, hch⟩
    · exact hnull dep a s e h S L hS ha hl
    · have hle := Chain.le (fun q s e h => Sub.le h) hch
      have hri := c.rise s
      have hln := hri.len
      obtain ⟨S1, h1, h2, h3⟩ := step_piece hS hc ha hlen hs1 (by omega) (by omega) (by omega) (by omega) (fun i a b => hfree i a (by omega))
      obtain ⟨S2, g2, v2, s2⟩ := chainV hlen (ih (dep + 1) (by omega)) (c.slots s) (s + c.words) e hch (fun q hq => by have := hri.mem q hq; omega) S1 L h2 (by omega) he (by omega) (fun i a b => by
        rw [h3, hfree i (by omega) b]
        have : ¬ (s ≤ i ∧ i < s + c.words) := by omega
        simp [this])
      refine ⟨S2, (GoV.one (sp_ne hS) h1).trans g2, v2, fun i => ?_⟩
      rw [s2, h3, Bool.or_assoc]
      congr 1
      rw [← Bool.decide_or, decide_eq_decide]
      omega
/-- an arena that hangs at word 0 as a whole: the validator's run, and all its words are claimed -/
theorem tight {A : Nat → UInt64} {len : Nat} (h1 : 1 ≤ len) (hlen : len ≤ 256) (h : Sub A 8 0 1 len) :
    ∃ f S', WalkS.runL A len f (.startL len) = (true, S') ∧ ∀ i, i < len → inS S'.set i = true := by
  have e : WalkS.startL len = WalkS.pushL { WalkS.zero with set := upd WalkS.zero.set 0 1 } 0 1 0 := by rw [WalkS.startL, if_neg (by omega)]
  have h0 : SV { WalkS.zero with set := upd WalkS.zero.set 0 1 } [] := ⟨rfl, trivial⟩
  obtain ⟨p1, p2⟩ := h0.pushL 0 1 0 (by omega) (by simp)
  have hset : ∀ i, inS (WalkS.startL len).set i = decide (i = 0) := by
    intro i
    rw [e]
    rw [show (0 : UInt16) = UInt16.ofNat 0 from rfl, show (1 : UInt16) = UInt16.ofNat 1 from rfl, show (0 : UInt8) = UInt8.ofNat 0 from rfl]
    rw [p2]
    show inS (upd (fun _ => 0) 0 1) i = _
    unfold inS
    by_cases hi : i / 64 = 0
    · rw [hi, upd_same, bitU_one, decide_eq_decide]; omega
    · rw [upd_ne _ _ _ _ hi, bitU_zero]
      have : ¬ i = 0 := by omega
      simp [this]
  have hS : SV (WalkS.startL len) [(0, 0)] := by rw [e]; exact p1
  obtain ⟨S', ⟨n, g⟩, v, s⟩ := bigV hlen 8 0 (by omega) 0 1 len h _ [] hS (by omega) (by omega) (by omega) (by simp; omega) (fun i a b => by
    rw [hset]
    have : ¬ i = 0 := by omega
    simp [this])
  refine ⟨n + 1, S', ?_, fun i hi => ?_⟩
  · rw [g, WalkS.runL, if_pos]
    apply UInt16.toNat_inj.1
    rw [v.sp]; rfl
  · rw [s, hset, ← Bool.decide_or]
    exact decide_eq_true (by omega)
end Eng
end Go.Proofs.Ygcfab
