/-
  Package edit: what step may lean on; no handle stands above itself.
-/
import Derived.Test.YgcfabEp3
set_option linter.unusedSimpArgs false
set_option linter.unusedVariables false
set_option maxRecDepth 100000
namespace Go.Proofs.Ygcfab
namespace Eng
section
variable {S : Ed}
/-- h is u or stands above it -/
def Ab (S : Ed) (h : Nat) (u : Int) : Prop := ∃ n, onN S (h : Int) n u = true
theorem onN_s (S : Ed) (h : Int) (n : Nat) (u : Int) : onN S h (n + 1) u = if u < 0 then false else u == h || onN S h n (upI S u) := rfl
theorem Ab.iff (h : Nat) (u : Int) : Ab S h u ↔ 0 ≤ u ∧ (u = (h : Int) ∨ Ab S h (upI S u)) := by
  constructor
  · rintro ⟨n, hn⟩
    match n, hn with
    | 0, hn => cases hn
    | n + 1, hn =>
      rw [onN_s] at hn
      split at hn
      · cases hn
      · rename_i c
        simp only [Bool.or_eq_true, beq_iff_eq] at hn
        exact ⟨by omega, hn.elim .inl (fun e => .inr ⟨n, e⟩)⟩
  · rintro ⟨h0, h1⟩
    rcases h1 with h1 | ⟨n, hn⟩
    · exact ⟨1, by rw [onN_s, if_neg (by omega)]; simp [h1]⟩
    · exact ⟨n + 1, by rw [onN_s, if_neg (by omega), hn]; simp⟩
theorem onN_c : ∀ (n m : Nat) (h u : Int), Cends S n u → n ≤ m → onN S h m u = onN S h n u
  | 0, m, h, u, hc, _ => by
    have hc' : u < 0 := hc
    cases m with
    | zero => rfl
    | succ m => rw [onN_s, if_pos hc']; rfl
  | n + 1, m, h, u, hc, hm => by
    obtain ⟨m, rfl⟩ : ∃ m', m = m' + 1 := ⟨m - 1, by omega⟩
    rw [onN_s, onN_s]
    rcases hc with hc | ⟨_, hc⟩
    · rw [if_pos hc, if_pos hc]
    · rw [onN_c n m h _ hc (by omega)]
theorem Ab.on {h : Nat} {u : Int} {n : Nat} (hc : Cends S n u) : onN S (h : Int) n u = true ↔ Ab S h u := by
  constructor
  · exact fun e => ⟨n, e⟩
  · rintro ⟨m, hm⟩
    by_cases c : n ≤ m
    · rw [onN_c n m _ _ hc c] at hm; exact hm
    · revert hm
      have key : ∀ (m n : Nat) (u : Int), m ≤ n → onN S (h : Int) m u = true → onN S (h : Int) n u = true := by
        intro m
        induction m with
        | zero => intro n u _ e; cases e
        | succ m ih =>
          intro n u hmn e
          obtain ⟨n, rfl⟩ : ∃ n', n = n' + 1 := ⟨n - 1, by omega⟩
          rw [onN_s] at e ⊢
          split at e
          · cases e
          · rename_i c
            rw [if_neg c]
            simp only [Bool.or_eq_true] at e ⊢
            exact e.elim .inl (fun e => .inr (ih n _ (by omega) e))
      exact key m n u (by omega)
theorem Ab.refl (h : Nat) : Ab S h (h : Int) := (Ab.iff h _).2 ⟨by omega, .inl rfl⟩
theorem Ab.trans {a b : Nat} {u : Int} (h1 : Ab S a (b : Int)) (h2 : Ab S b u) : Ab S a u := by
  obtain ⟨n, hn⟩ := h2
  revert u
  induction n with
  | zero => intro u hn; cases hn
  | succ n ih =>
    intro u hn
    rw [onN_s] at hn
    split at hn
    · cases hn
    · rename_i c
      simp only [Bool.or_eq_true, beq_iff_eq] at hn
      rcases hn with e | e
      · rw [e]; exact h1
      · exact (Ab.iff a u).2 ⟨by omega, .inr (ih e)⟩
theorem Ab.cends {h : Nat} : ∀ (m : Nat) (n : Nat) (u : Int), onN S (h : Int) m u = true → Cends S n u → Cends S n h
  | 0, _, _, e, _ => by cases e
  | m + 1, n, u, e, hc => by
    rw [onN_s] at e
    split at e
    · cases e
    · rename_i c
      simp only [Bool.or_eq_true, beq_iff_eq] at e
      rcases e with e | e
      · rw [← e]; exact hc
      · match n, hc with
        | 0, hc => exact absurd hc c
        | n + 1, hc =>
          rcases hc with hc | ⟨_, hc⟩
          · exact absurd hc c
          · exact cends_mono _ _ (Ab.cends m n _ e hc)
theorem no_loop {k : Nat} (h : Ab S k (upI S (k : Int))) : ∀ n, ¬ Cends S n (k : Int)
  | 0 => fun (e : (k : Int) < 0) => by omega
  | n + 1 => by
    rintro (e | ⟨_, e⟩)
    · omega
    · obtain ⟨m, hm⟩ := h
      exact no_loop ⟨m, hm⟩ n (Ab.cends m n _ hm e)
theorem Gd.acyc (g : Gd S) {k : Nat} (hl : Lv S k) : ¬ Ab S k (upI S (k : Int)) := fun h => no_loop h _ (g.c40 hl)
theorem Gd.hs_ab (g : Gd S) {k u h : Nat} (hu : Hs S k u) (hl : u < S.cnt) (hk : k ≠ h) : Ab S h (k : Int) ↔ Ab S h (u : Int) := by
  rw [Ab.iff, upI_nat, hs_up hu (g.c256 hl)]
  constructor
  · rintro ⟨_, e | e⟩
    · omega
    · exact e
  · exact fun e => ⟨by omega, .inr e⟩
theorem Gd.hs_no (g : Gd S) {k u : Nat} (hu : Hs S k u) (hl : u < S.cnt) (hk : Lv S k) : ¬ Ab S k (u : Int) := by
  intro h
  apply g.acyc hk
  rw [upI_nat, hs_up hu (g.c256 hl)]
  exact h
theorem Gd.gone (g : Gd S) {h k : Nat} (hk : Lv S k) : goneB S (h : Int) k = true ↔ Ab S h (k : Int) := by
  unfold goneB
  have ha : aliveB S (k : Nat) = true := (aliveB_iff S _).2 ⟨by omega, by have := hk.1; omega, by rw [Int.toNat_natCast]; exact hk.2⟩
  rw [ha, Bool.true_and]
  exact Ab.on (g.c40 hk)
theorem Gd.alive (g : Gd S) {k : Nat} : aliveB S (k : Nat) = true ↔ Lv S k := by
  rw [aliveB_iff, Int.toNat_natCast]
  exact ⟨fun h => ⟨by omega, h.2.2⟩, fun h => ⟨by omega, by have := h.1; omega, h.2⟩⟩
/-- words and width of a list without a tag -/
theorem li_words (c n : Nat) : (Piece.li c n).words = if c = 6 then n else (n * 2 ^ (c - 2) + 7) / 8 := rfl
theorem elSize_nat {p : Ptr} (h1 : 2 ≤ p.code.toNat) (h2 : p.code.toNat ≤ 5) : (elSize p).toNat = 2 ^ (p.code.toNat - 2) := by
  unfold elSize
  rw [UInt8.toNat_toUInt16, ← width_nat _ h1 h2, UInt8.ofNat_toNat]
theorem elSize_zero {p : Ptr} (h : ¬ (2 ≤ p.code.toNat ∧ p.code.toNat ≤ 5)) : elSize p = 0 := by
  unfold elSize widthL
  have e2 : (2 : UInt8).toNat = 2 := rfl
  have e5 : (5 : UInt8).toNat = 5 := rfl
  rw [if_pos]
  · rfl
  · simp only [gt_iff_lt, UInt8.lt_iff_toNat_lt]
    omega
theorem words_ss {p : Ptr} (hk : p.kind = 2) (hc : p.code = 7) (h0 : p.count.toNat ≤ 128) (h1 : p.data.toNat ≤ 8) (h2 : p.ptrs.toNat ≤ 8) (hw : 1 + p.count.toNat * (p.data.toNat + p.ptrs.toNat) ≤ 257) :
    (wordsL p).toNat = 1 + p.count.toNat * (p.data.toNat + p.ptrs.toNat) := by
  unfold wordsL
  have e128 : (128 : UInt16).toNat = 128 := rfl
  rw [if_neg (by rw [hk]; decide), if_neg (by rw [hk]; rintro ⟨h, _⟩; exact absurd h (by decide)), if_neg (by rw [hk, gt_iff_lt, UInt16.lt_iff_toNat_lt]; rintro (h | h); exact h rfl; omega),
    if_neg (by rw [hc]; rintro ⟨_, h⟩; exact absurd h (by decide)), if_neg (by rw [hc]; decide), if_pos ⟨hc, (sizedL_iff p).2 ⟨h1, h2⟩⟩]
  have e : 1 + p.count * eachL p = UInt16.ofNat (1 + p.count.toNat * (p.data.toNat + p.ptrs.toNat)) := by
    apply eq16
    rw [UInt16.toNat_add, UInt16.toNat_mul, each_nat]
    have : (1 : UInt16).toNat = 1 := rfl
    omega
  rw [e, show (257 : UInt16) = UInt16.ofNat 257 from rfl, min16 (by omega) (by omega), tn16 (by omega)]
  omega
/-- a live list without a tag -/
theorem Gd.li (g : Gd S) {k : Nat} (ht : Tp S k) (hk : (S.O k).p.kind = 2) (h7 : (S.O k).p.code ≠ 7) : 2 ≤ (S.O k).p.code.toNat ∧ (S.O k).p.code.toNat ≤ 6 ∧ (S.O k).p.count.toNat ≤ 128 ∧
    (wordsL (S.O k).p).toNat = (Piece.li (S.O k).p.code.toNat (S.O k).p.count.toNat).words ∧ (S.O k).p.at_.toNat + (wordsL (S.O k).p).toNat ≤ S.len ∧ (S.O k).p.data = 0 ∧ (S.O k).p.ptrs = 0 ∧ firstL (S.O k).p = (S.O k).p.at_ := by
  obtain ⟨_, hh⟩ := (inside_iff S.len _ g.len.2).1 (g.inside k ht)
  rw [if_neg (fun h => h7 h.2)] at hh
  have hl := g.len.2
  obtain ⟨w1, w2, w3, w4⟩ := words_ok' hk h7 (by omega)
  obtain ⟨q1, q2⟩ := kind_li (g.kind k ht) hk h7
  have hs : strB (S.O k).p = false := by
    cases c : strB (S.O k).p
    · rfl
    · exact absurd ((strB_iff _).1 c).2 h7
  exact ⟨w1, w2, w3, w4, hh.1, q1, q2, firstL_no hs⟩
theorem code7 {c : UInt8} (h : c.toNat ≤ 6) : c ≠ 7 := by
  rintro rfl
  have e : (7 : UInt8).toNat = 7 := rfl
  omega
theorem mul_sz {n c : Nat} (h1 : 2 ≤ c) (h2 : c ≤ 5) (hn : n ≤ 128) : n * 2 ^ (c - 2) ≤ 1024 := by
  rcases pow8 c h1 h2 with h | h | h | h <;> rw [h] <;> omega
theorem Gd.data (g : Gd S) {k : Nat} (h : Lv S k) (op : OpR) (hd : dataOk (S.O k).p op = true) : (S.O k).p.kind = 1 ∧ ∃ j, j < (S.O k).p.data.toNat ∧ (dataAt (S.O k).p op).toNat = (S.O k).p.at_.toNat + j := by
  unfold dataOk at hd
  simp only [Bool.and_eq_true, Bool.not_eq_true', bne_eq_false_iff_eq, decide_eq_false_iff_not, ge_iff_le, UInt32.le_iff_toNat_le] at hd
  have hk := hd.1
  obtain ⟨q1, q2, q3, q4, q5, q6⟩ := g.st h hk
  have hlen := g.len.2
  have e : (64 * (S.O k).p.data.toUInt32).toNat = 64 * (S.O k).p.data.toNat := by
    have : (64 : UInt32).toNat = 64 := rfl
    rw [UInt32.toNat_mul, UInt8.toNat_toUInt32, this]
    omega
  have hb := hd.2.2.2.2
  rw [e] at hb
  refine ⟨hk, (bitD op).toNat / 64, by omega, ?_⟩
  unfold dataAt
  rw [UInt16.toNat_add, UInt32.toNat_toUInt16, UInt32.toNat_div]
  have : (64 : UInt32).toNat = 64 := rfl
  rw [this]
  omega
theorem Gd.elt (g : Gd S) {k : Nat} (h : Lv S k) (op : OpR) (hd : elOk (S.O k).p op = true) : Tp S k ∧ (S.O k).p.kind = 2 ∧ 2 ≤ (S.O k).p.code.toNat ∧ (S.O k).p.code.toNat ≤ 5 ∧ op.n.toNat < (S.O k).p.count.toNat ∧
    (elAt (S.O k).p op).toNat = (S.O k).p.at_.toNat + op.n.toNat * 2 ^ ((S.O k).p.code.toNat - 2) / 8 ∧ op.n.toNat * 2 ^ ((S.O k).p.code.toNat - 2) / 8 < (wordsL (S.O k).p).toNat := by
  unfold elOk at hd
  simp only [Bool.and_eq_true, Bool.not_eq_true', bne_eq_false_iff_eq, decide_eq_false_iff_not, ge_iff_le, UInt16.le_iff_toNat_le] at hd
  obtain ⟨hk, h0, hn⟩ := hd
  rcases g.kinds h with hk' | ⟨_, ht⟩
  · rw [hk] at hk'; exact absurd hk' (by decide)
  have hc : 2 ≤ (S.O k).p.code.toNat ∧ (S.O k).p.code.toNat ≤ 5 := by
    refine Decidable.byContradiction fun c => ?_
    rw [elSize_zero c] at h0
    cases h0
  obtain ⟨w1, w2, w3, w4, w5, w6, w7, w8⟩ := g.li ht hk (code7 (by omega))
  have hz := elSize_nat hc.1 hc.2
  have hm := mul_sz (n := op.n.toNat) hc.1 hc.2 (by omega)
  have hlen := g.len.2
  have hw : op.n.toNat * 2 ^ ((S.O k).p.code.toNat - 2) / 8 < (wordsL (S.O k).p).toNat := by
    rw [w4, li_words, if_neg (by omega)]
    have h1 : (op.n.toNat + 1) * 2 ^ ((S.O k).p.code.toNat - 2) ≤ (S.O k).p.count.toNat * 2 ^ ((S.O k).p.code.toNat - 2) := Nat.mul_le_mul_right _ (by omega)
    rw [Nat.add_mul, Nat.one_mul] at h1
    have h2 : 1 ≤ 2 ^ ((S.O k).p.code.toNat - 2) := Nat.one_le_two_pow
    omega
  refine ⟨ht, hk, hc.1, hc.2, by omega, ?_, hw⟩
  unfold elAt
  rw [UInt16.toNat_add, UInt16.toNat_div, UInt16.toNat_mul, hz]
  have : (8 : UInt16).toNat = 8 := rfl
  rw [this]
  omega
theorem Gd.hungB (g : Gd S) {h i : UInt8} (hl : Lv S h.toNat) (hh : (Eng.hungB S h i).2 = true) : Tp S (Eng.hungB S h i).1 ∧ Hs S (Eng.hungB S h i).1 h.toNat ∧ (S.O (Eng.hungB S h i).1).via = i ∧ (Eng.slotB S h i).2 = true := by
  obtain ⟨h1, h2, h3, h4, h5, h6⟩ := hung_is hh
  have hT : Tp S (Eng.hungB S h i).1 := ⟨h1, h2, h3, h4⟩
  refine ⟨hT, h5, h6, ?_⟩
  obtain ⟨j, j1, _⟩ := g.hang _ _ hT h5 hl.1
  have := g.slotB hl j1
  rw [h6, UInt8.ofNat_toNat, UInt8.ofNat_toNat] at this
  rw [this]
/-- a list cut short -/
theorem Gd.less (g : Gd S) {k : Nat} (ht : Tp S k) (hk : (S.O k).p.kind = 2) {n : UInt16} (hn : n ≤ (S.O k).p.count) :
    (wordsL (cntP (S.O k).p n)).toNat ≤ (wordsL (S.O k).p).toNat ∧ (elSize (S.O k).p * n % 8 ≠ 0 → 1 ≤ (wordsL (cntP (S.O k).p n)).toNat) ∧ ((S.O k).p.code = 7 → 1 ≤ (wordsL (S.O k).p).toNat) := by
  have hn' := UInt16.le_iff_toNat_le.1 hn
  by_cases c7 : (S.O k).p.code = 7
  · obtain ⟨i1, i2, i3, i4, i5, i6⟩ := g.ss ht ((strB_iff _).2 ⟨hk, c7⟩)
    have hm : n.toNat * ((S.O k).p.data.toNat + (S.O k).p.ptrs.toNat) ≤ (S.O k).p.count.toNat * ((S.O k).p.data.toNat + (S.O k).p.ptrs.toNat) := Nat.mul_le_mul_right _ hn'
    have hl := g.len.2
    have hw := words_ss (p := cntP (S.O k).p n) hk c7 (by show n.toNat ≤ 128; omega) i2 i3 (by show 1 + n.toNat * ((S.O k).p.data.toNat + (S.O k).p.ptrs.toNat) ≤ 257; omega)
    have hw' : (wordsL (cntP (S.O k).p n)).toNat = 1 + n.toNat * ((S.O k).p.data.toNat + (S.O k).p.ptrs.toNat) := hw
    rw [hw', i4]
    exact ⟨by omega, fun _ => by omega, fun _ => by omega⟩
  · obtain ⟨w1, w2, w3, w4, w5, w6, w7, w8⟩ := g.li ht hk c7
    have hw : (wordsL (cntP (S.O k).p n)).toNat = (Piece.li (S.O k).p.code.toNat n.toNat).words := by
      have := words_li (S.O k).p.at_ (S.O k).p.code.toNat n.toNat w1 w2 (by omega)
      rw [← this, UInt8.ofNat_toNat, UInt16.ofNat_toNat]
      unfold cntP
      rw [hk, w6, w7]
    rw [hw, w4, li_words, li_words]
    refine ⟨?_, fun h0 => ?_, fun h => absurd h c7⟩
    · split
      · exact hn'
      · have := Nat.mul_le_mul_right (2 ^ ((S.O k).p.code.toNat - 2)) hn'
        omega
    · by_cases c6 : (S.O k).p.code.toNat = 6
      · rw [elSize_zero (by omega)] at h0
        exact absurd (by rw [UInt16.zero_mul]; rfl) h0
      · rw [if_neg c6]
        have hz : n.toNat ≠ 0 := by
          intro hz
          have : n = 0 := UInt16.toNat_inj.1 hz
          rw [this] at h0
          exact h0 (by rw [UInt16.mul_zero]; rfl)
        have h2 : 1 ≤ 2 ^ ((S.O k).p.code.toNat - 2) := Nat.one_le_two_pow
        have := Nat.mul_le_mul (show 1 ≤ n.toNat by omega) h2
        omega
theorem Gd.safe (g : Gd S) : Safe S := by
  refine ⟨g.len, g.cnt, ?_, ?_, ?_, ?_, ?_, ?_, ?_⟩
  · intro k hk
    have hl := g.alive.1 hk
    exact ⟨g.r40 hl, (g.e40 hl).1⟩
  · exact fun k h1 h2 => g.c40 ⟨h1, h2⟩
  · exact fun k h1 h2 => g.range ⟨h1, h2⟩
  · intro k op h1 h2 hd
    have hl : Lv S k := ⟨h1, h2⟩
    obtain ⟨hk, j, hj, e⟩ := g.data hl op hd
    have := (g.st hl hk).2.2.1
    omega
  · intro k op h1 h2 hd
    obtain ⟨ht, hk, _, hc5, _, e, hw⟩ := g.elt ⟨h1, h2⟩ op hd
    have := (g.li ht hk (code7 (by omega))).2.2.2.2.1
    omega
  · exact fun h i h1 h2 hh => (g.hungB ⟨h1, h2⟩ hh).2.2.2
  · intro op h1 h2
    have hl : Lv S op.h.toNat := ⟨h1, h2⟩
    refine ⟨fun k h1 h2 => g.c40 ⟨h1, h2⟩, fun k h1 h2 => g.range ⟨h1, h2⟩, h2, ?_, ?_⟩
    · intro hk hn
      rcases g.kinds hl with hk' | ⟨_, ht⟩
      · rw [hk] at hk'; exact absurd hk' (by decide)
      · exact g.less ht hk hn
    · intro hk hu
      rcases g.kinds hl with hk' | ⟨_, ht⟩
      · rw [hk] at hk'; exact absurd hk' (by decide)
      have hn : (S.O op.h.toNat).up ≠ -1 := by
        intro e
        rw [e, show (-1 : Int16).toInt = -1 by decide] at hu
        omega
      obtain ⟨u, hus, hlu⟩ := g.up_cases ht hn
      obtain ⟨i, j1, _⟩ := g.hang _ _ ht hus hlu.1
      have hsl := g.slotOf ht hus hlu j1
      rw [hs_up hus (g.c256 hlu.1), toU8n (g.c256 hlu.1), tn8 (g.c256 hlu.1), hsl]
      refine ⟨?_, hlu.1, rfl⟩
      rintro rfl
      exact g.hs_no hus hlu.1 hl (Ab.refl _)
end
end Eng
end Go.Proofs.Ygcfab
