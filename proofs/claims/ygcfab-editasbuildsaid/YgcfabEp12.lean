/-
  Package edit: truncate keeps what Check asks; step.
-/
import Derived.Test.YgcfabEp11
set_option linter.unusedSimpArgs false
set_option linter.unusedVariables false
set_option maxRecDepth 100000
namespace Go.Proofs.Ygcfab
namespace Eng
section
variable {S S' : Ed}
theorem elSize_bytes {p : Ptr} (hk : 2 ≤ p.code.toNat) (h5 : p.code.toNat ≤ 5) (hc : p.count.toNat ≤ 128) : (elSize p * p.count % 8).toNat = bytesL p % 8 := by
  have hz := elSize_nat hk h5
  have hm := mul_sz (n := p.count.toNat) hk h5 hc
  rw [UInt16.toNat_mod, UInt16.toNat_mul, hz, bytes_sz hk h5, Nat.mul_comm]
  have : (8 : UInt16).toNat = 8 := rfl
  rw [this]
  omega
theorem Gd.tr (g : Gd S) (op : OpR) {x : Nat} (hx : op.h.toNat = x) (ht : Tp S x) (hk : (S.O x).p.kind = 2) (hn : op.n.toNat ≤ (S.O x).p.count.toNat) {Sm : Ed} (ks : KS S (Dn S (trR S op)) S.A Sm) {A4 : Nat → UInt64}
    (tA : TrA Sm.A A4 (cntP (S.O x).p op.n) (firstL (S.O x).p).toNat (wordsL (cntP (S.O x).p op.n)).toNat (wordsL (S.O x).p).toNat)
    (hwq : (wordsL (cntP (S.O x).p op.n)).toNat ≤ (wordsL (S.O x).p).toNat)
    (hcnt : S'.cnt = S.cnt) (hOm : ∀ k, k ≠ x → S'.O k = Sm.O k) (hOx : S'.O x = { Sm.O x with p := cntP (S.O x).p op.n })
    (hA0 : (S.O x).up = -1 → ∀ i, S'.A i = A4 i) (hA1 : ∀ u s, Hs S x u → Lv S u → Sl (S.O u).p (S.O x).via.toNat s → S'.A s = pointerL (UInt16.ofNat s) (cntP (S.O x).p op.n) ∧ ∀ i, i ≠ s → S'.A i = A4 i)
    (hlen : 1 ≤ S'.len ∧ S'.len ≤ S.len) (hL : ∀ k, Tp S k → ¬ Dn S (trR S op) k → wlessB (S'.O k).p = false → (firstL (S'.O k).p).toNat + (wordsL (S'.O k).p).toNat ≤ S'.len) : Gd S' := by
  have hR : Roots S x (trR S op) := ⟨ht.lv, fun c hc => ⟨hc.1, by rw [← hx]; exact hc.2.1⟩⟩
  have hxD : ¬ Dn S (trR S op) x := Dn.noP g hR
  have hRR : ∀ c, trR S op c ↔ Lv S c ∧ Hs S c x ∧ op.n.toNat ≤ (S.O c).via.toNat := by intro c; unfold trR; rw [hx]
  have hl256 := g.len.2
  have hdown : ∀ k u, Lv S k → Hs S k u → Lv S u → Dn S (trR S op) u → Dn S (trR S op) k := fun k u a b c d => Dn.down g a b c d
  have hroot : ∀ k, Dn S (trR S op) k → trR S op k ∨ ∃ u, Hs S k u ∧ Lv S u ∧ Dn S (trR S op) u := fun k h => Dn.root g h
  have hkeep : ∀ m i, Lv S m → ¬ Dn S (trR S op) m → part S m i → Sm.A i = S.A i := fun m i a b c => ks.keep i (fun k hk hD hcov => Dn.part g a b c hD hcov)
  have hpos : ∀ k, Dn S (trR S op) k → 1 ≤ k := fun k h => Dn.pos g hR h
  have hnoP : ∀ m i k, Lv S m → ¬ Dn S (trR S op) m → part S m i → Dn S (trR S op) k → covers (S.O k).p i → False := fun m i k a b c d e => Dn.part g a b c d e
  have hDlv : ∀ k, Dn S (trR S op) k → Lv S k := fun k h => h.1
  have hRD : ∀ c, trR S op c → Dn S (trR S op) c := fun c h => ⟨h.1, c, h, Ab.refl c⟩
  generalize hDD : Dn S (trR S op) = D at *
  -- objects
  have hq : ∀ k, ¬ k = x → (S'.O k).p = (S.O k).p := fun k e => by rw [hOm k e]; exact ks.p k
  have hqx : (S'.O x).p = cntP (S.O x).p op.n := by rw [hOx]
  have hup : ∀ k, (S'.O k).up = (S.O k).up := by
    intro k; by_cases e : k = x
    · subst e; rw [hOx]; exact ks.up k
    · rw [hOm k e]; exact ks.up k
  have hvia : ∀ k, (S'.O k).via = (S.O k).via := by
    intro k; by_cases e : k = x
    · subst e; rw [hOx]; exact ks.via k
    · rw [hOm k e]; exact ks.via k
  have hel : ∀ k, (S'.O k).elem = (S.O k).elem := by
    intro k; by_cases e : k = x
    · subst e; rw [hOx]; exact ks.elem k
    · rw [hOm k e]; exact ks.elem k
  have hdead : ∀ k, k < S.cnt → ((S'.O k).dead = false ↔ (S.O k).dead = false ∧ ¬ D k) := by
    intro k hkc; by_cases e : k = x
    · subst e; rw [hOx]; exact ks.dead k hkc
    · rw [hOm k e]; exact ks.dead k hkc
  have hOeq : ∀ k, k < S.cnt → ¬ D k → k ≠ x → S'.O k = S.O k := by
    intro k hk hD e
    have h1 := hq k e
    have h2 := hup k
    have h3 := hvia k
    have h4 := hel k
    have h5 : (S'.O k).dead = (S.O k).dead := by
      have := hdead k hk
      cases c : (S.O k).dead
      · exact this.2 ⟨c, hD⟩
      · cases c' : (S'.O k).dead
        · have := (this.1 c').1; rw [c] at this; cases this
        · rfl
    generalize S'.O k = a at *
    generalize S.O k = b at *
    cases a
    cases b
    simp only at h1 h2 h3 h4 h5
    subst h1 h2 h3 h4 h5
    rfl
  have hstr : strB (cntP (S.O x).p op.n) = strB (S.O x).p := rfl
  have hfq : firstL (cntP (S.O x).p op.n) = firstL (S.O x).p := rfl
  have hx0 : 0 ≠ x := by have := ht.1; omega
  have hwx : wlessB (cntP (S.O x).p op.n) = false := by
    cases c : wlessB (cntP (S.O x).p op.n)
    · rfl
    · have := (wless_words c).2.1
      have h2 : (cntP (S.O x).p op.n).kind = 2 := hk
      rw [this] at h2; exact absurd h2 (by decide)
  -- an element of x that lives
  have helx : ∀ m, Lv S m → ElemOf S m x → ¬ D m → (S.O m).via.toNat < op.n.toNat := by
    intro m hl he hD
    refine Decidable.byContradiction fun h => hD (hRD m ?_)
    exact (hRR m).2 ⟨hl, he.hs, by omega⟩
  have hch : ∀ m, Lv S m → Hs S m x → ¬ D m → (S.O m).via.toNat < op.n.toNat := by
    intro m hl he hD
    refine Decidable.byContradiction fun h => hD (hRD m ?_)
    exact (hRR m).2 ⟨hl, he, by omega⟩
  -- its words lie before the cut
  have hew : ∀ m i, Lv S m → ElemOf S m x → ¬ D m → part S m i → (firstL (S.O x).p).toNat < i ∧ i < (firstL (S.O x).p).toNat + (wordsL (cntP (S.O x).p op.n)).toNat ∧ (S.O x).p.code = 7 := by
    intro m i hl he hD hp
    have hv := helx m hl he hD
    obtain ⟨i1, i2, i3, i4, i5, i6⟩ := g.ss ht he.str
    have c7 := ((strB_iff _).1 he.str).2
    rcases g.pcases hl hp with ⟨h1, h2⟩ | ⟨h1, h2⟩ | ⟨u, hu, hc, hf, ha, hb⟩
    · subst h1; have := he.up; rw [g.first] at this; have e : ob0.up.toInt = -1 := by decide
      rw [e] at this; omega
    · have := h1.2.2.2
      rcases g.cases hl with h | h | ⟨_, h, _⟩
      · have := h1.1; omega
      · have h3 := (g.er he).1
        exfalso
        have e1 := he.at_
        obtain ⟨_, _, l3⟩ := (listOk_iff S x _).1 (g.list x ht he.str)
        have := (l3 _ he.via).2.1
        rw [← e1, h.2.2.2] at this
        cases this
      · rw [h] at this; cases this
    · have e : u = x := by
        have := hu.up; rw [he.up] at this; omega
      subst e
      refine ⟨hf, ?_, c7⟩
      have e4 := (g.er he).2.2.2.1
      have hm : ((S.O m).via.toNat + 1) * ((S.O u).p.data.toNat + (S.O u).p.ptrs.toNat) ≤ op.n.toNat * ((S.O u).p.data.toNat + (S.O u).p.ptrs.toNat) := Nat.mul_le_mul_right _ hv
      have hm2 : op.n.toNat * ((S.O u).p.data.toNat + (S.O u).p.ptrs.toNat) ≤ (S.O u).p.count.toNat * ((S.O u).p.data.toNat + (S.O u).p.ptrs.toNat) := Nat.mul_le_mul_right _ hn
      rw [Nat.add_mul, Nat.one_mul] at hm
      have hw := words_ss (p := cntP (S.O u).p op.n) hk c7 (by show op.n.toNat ≤ 128; omega) i2 i3 (by show 1 + op.n.toNat * ((S.O u).p.data.toNat + (S.O u).p.ptrs.toNat) ≤ 257; omega)
      have hw' : (wordsL (cntP (S.O u).p op.n)).toNat = 1 + op.n.toNat * ((S.O u).p.data.toNat + (S.O u).p.ptrs.toNat) := hw
      rw [hw', firstL_nat he.str (by omega)]
      omega
  have h7z : (S.O x).p.code = 7 → elSize (cntP (S.O x).p op.n) * (cntP (S.O x).p op.n).count % 8 = 0 := by
    intro c7
    have : elSize (cntP (S.O x).p op.n) = 0 := elSize_zero (by
      show ¬ (2 ≤ (S.O x).p.code.toNat ∧ (S.O x).p.code.toNat ≤ 5)
      rw [c7]; decide)
    rw [this, UInt16.zero_mul]
    rfl
  -- the words of the others stand
  have hF : ∀ m i, Lv S m → ¬ D m → m ≠ x → part S m i → A4 i = S.A i := by
    intro m i hl hD e hp
    rw [← hkeep m i hl hD hp]
    by_cases c : covers (S.O x).p i
    · rcases g.cov_part ht.lv c with h | ⟨d, hld, hed, h⟩
      · exact absurd (g.pinj hl ht.lv hp h) e
      · have e2 := g.pinj hl hld hp h
        subst e2
        obtain ⟨w1, w2, w3⟩ := hew m i hl hed hD hp
        exact tA.same i (by omega) w2 (fun _ => by omega) (h7z w3)
    · exact tA.out i c
  have hF6 : ∀ i v, Sl (cntP (S.O x).p op.n) v i → A4 i = S.A i ∧ Sl (S.O x).p v i ∧ v < op.n.toNat := by
    intro i v hs
    rcases hs with ⟨h1, _⟩ | ⟨h1, h2, h3, h4⟩
    · have h2 : (cntP (S.O x).p op.n).kind = 2 := hk
      rw [h1] at h2; exact absurd h2 (by decide)
    have h2' : (S.O x).p.code = 6 := h2
    have h3' : v < op.n.toNat := h3
    have h4' : i = (S.O x).p.at_.toNat + v := h4
    have hsl : Sl (S.O x).p v i := .inr ⟨hk, h2', by omega, h4'⟩
    refine ⟨?_, hsl, h3'⟩
    rw [← hkeep x i ht.lv hxD (g.sl ht.lv hsl).2.1]
    have h0 := sl_kind hsl
    obtain ⟨_, hwb, _⟩ := sl_words (p := cntP (S.O x).p op.n) (by have := g.range ht.lv; omega) (.inr ⟨h1, h2, h3, h4⟩)
    have hwb' : i < (S.O x).p.at_.toNat + (wordsL (cntP (S.O x).p op.n)).toNat := hwb
    refine tA.same i (by rw [firstL_no h0]; omega) (by rw [firstL_no h0]; exact hwb') (fun h => ?_) ?_
    · have h' : (S.O x).p.code = 7 := h
      rw [h2'] at h'; exact absurd h' (by decide)
    · have : elSize (cntP (S.O x).p op.n) = 0 := elSize_zero (by
        show ¬ (2 ≤ (S.O x).p.code.toNat ∧ (S.O x).p.code.toNat ≤ 5)
        rw [h2']; decide)
      rw [this, UInt16.zero_mul]
      rfl
  have hG : ∀ k i, D k → covers (S.O k).p i → A4 i = 0 := by
    intro k i hD hc
    have hz := ks.zero i k (hDlv k hD) hD hc
    by_cases c : covers (S.O x).p i
    · rcases g.cov_part ht.lv c with h | ⟨d, hld, hed, h⟩
      · exact (hnoP x i k ht.lv hxD h hD hc).elim
      · have c7 := ((strB_iff _).1 hed.str).2
        by_cases c2 : i < (firstL (S.O x).p).toNat + (wordsL (cntP (S.O x).p op.n)).toNat
        · rw [tA.same i c.1 c2 (fun _ e => ?_) (h7z c7)]
          · exact hz
          · have : part S x i := by unfold part; rw [if_pos hed.str]; exact e
            exact hnoP x i k ht.lv hxD this hD hc
        · exact tA.gone i (by omega) c.2
    · rw [tA.out i c]; exact hz
  have hH : ∀ i, i < S.len → A4 i ≠ 0 → i = 0 ∨ ∃ k, Tp S k ∧ ¬ D k ∧ covers (S'.O k).p i := by
    intro i hi h0
    by_cases c : covers (S.O x).p i
    · right
      refine ⟨x, ht, hxD, ?_⟩
      rw [hqx]
      refine ⟨c.1, ?_⟩
      refine Decidable.byContradiction fun h => h0 (tA.gone i ?_ c.2)
      have : ¬ i < (firstL (S.O x).p).toNat + (wordsL (cntP (S.O x).p op.n)).toNat := h
      omega
    · rw [tA.out i c] at h0
      have hno : ∀ k, Lv S k → D k → ¬ covers (S.O k).p i := fun k a b c => h0 (ks.zero i k a b c)
      rw [ks.keep i hno] at h0
      rcases g.own i hi h0 with e | ⟨k, hkt, hc⟩
      · exact .inl e
      · have e : ¬ k = x := by rintro rfl; exact c hc
        exact .inr ⟨k, hkt, fun hD => hno k hkt.lv hD hc, by rw [hq k e]; exact hc⟩
  -- what x hangs from
  have hux : ∀ u, Hs S x u → Lv S u → ¬ D u ∧ u ≠ x ∧ ¬ Hs S u x := by
    intro u hu hl
    refine ⟨fun h => hxD (hdown x u ht.lv hu hl h), ?_, fun h => ?_⟩
    · rintro rfl
      exact g.hs_no hu hl.1 hl (Ab.refl _)
    · apply g.hs_no hu hl.1 ht.lv
      refine (Ab.iff x _).2 ⟨by omega, .inr ?_⟩
      rw [upI_nat, hs_up h (g.c256 ht.2.1)]
      exact Ab.refl x
  have hcase : (S.O x).up = -1 ∨ ∃ u s, Hs S x u ∧ Lv S u ∧ Sl (S.O u).p (S.O x).via.toNat s := by
    rcases g.up x ht with h | ⟨u, hu, hl⟩
    · exact .inl h
    · obtain ⟨s, h1, _⟩ := g.hang x u ht hu hl.1
      exact .inr ⟨u, s, hu, hl, h1⟩
  -- words that are not x's slot
  have hA' : ∀ i, (∀ u, Hs S x u → Lv S u → ¬ Sl (S.O u).p (S.O x).via.toNat i) → S'.A i = A4 i := by
    intro i hi
    rcases hcase with h | ⟨u, s, hu, hl, hs⟩
    · exact hA0 h i
    · refine (hA1 u s hu hl hs).2 i ?_
      rintro rfl
      exact hi u hu hl hs
  have hlt : ∀ m i, Lv S m → ¬ D m → part S m i → (m = x → i < (firstL (S.O x).p).toNat + (wordsL (cntP (S.O x).p op.n)).toNat) → i < S'.len := by
    intro m i hl hD hp hxq
    have hLx := hL x ht hxD (by rw [hqx]; exact hwx)
    rw [hqx, hfq] at hLx
    rcases g.pcases hl hp with ⟨h1, h2⟩ | ⟨h1, h2⟩ | ⟨u, hu, hc, _⟩
    · omega
    · by_cases e : m = x
      · have := hxq e; omega
      · have hw : wlessB (S.O m).p = false := by
          cases c : wlessB (S.O m).p
          · rfl
          · exact (cov_wless c h2).elim
        have := hL m h1 hD (by rw [hq m e]; exact hw)
        rw [hq m e] at this
        have := h2.2
        omega
    · have huD : ¬ D u := fun h => hD (hdown m u hl hu.hs hu.tp.lv h)
      by_cases e : u = x
      · subst e
        have := (hew m i hl hu hD hp).2.1
        omega
      · have hw : wlessB (S.O u).p = false := by
          cases c : wlessB (S.O u).p
          · rfl
          · exact (cov_wless c hc).elim
        have := hL u hu.tp huD (by rw [hq u e]; exact hw)
        rw [hq u e] at this
        have := hc.2
        omega
  refine g.cut (D := D) ⟨hcnt, hlen, hup, hvia, hel, hdead, hOeq 0 (by have := g.cnt.1; omega) (fun h => by have := hpos 0 h; omega) hx0, hdown, ?_, ?_, ?_, ?_, ?_, ?_, ?_, ?_, ?_, ?_⟩
  · intro k hkt hD
    by_cases e : k = x
    · subst e
      have hLx := hL k ht hxD (by rw [hqx]; exact hwx)
      rw [hqx] at hLx ⊢
      have hin := g.inside k ht
      rw [inside_iff _ _ hl256] at hin
      rw [inside_iff _ _ (by omega)]
      refine ⟨.inr hk, ?_⟩
      cases c : strB (S.O k).p
      · have c' : ¬ ((S.O k).p.kind = 2 ∧ (S.O k).p.code = 7) := fun h => by rw [(strB_iff _).2 h] at c; cases c
        have h2 := hin.2
        rw [if_neg c'] at h2
        rw [if_neg (show ¬ ((cntP (S.O k).p op.n).kind = 2 ∧ (cntP (S.O k).p op.n).code = 7) from c')]
        rw [hfq, firstL_no c] at hLx
        refine ⟨hLx, ?_⟩
        show _ ∨ 1 ≤ (S.O k).p.at_.toNat
        omega
      · have c' := (strB_iff _).1 c
        have h2 := hin.2
        rw [if_pos c'] at h2
        rw [if_pos (show (cntP (S.O k).p op.n).kind = 2 ∧ (cntP (S.O k).p op.n).code = 7 from c')]
        rw [hfq, firstL_nat c (by omega)] at hLx
        exact ⟨h2.1, hLx, words7 c'.1 c'.2⟩
    · rw [hq k e]
      cases c : wlessB (S.O k).p
      · have := hL k hkt hD (by rw [hq k e]; exact c)
        rw [hq k e] at this
        exact inside_of hl256 (by omega) (g.inside k hkt) this
      · have h3 := wless_str c
        rw [inside_iff _ _ (by omega)]
        refine ⟨.inl (wless_words c).2.1, ?_⟩
        rw [if_neg (fun h => by rw [(strB_iff _).2 h] at h3; cases h3), (wless_words c).1]
        refine ⟨?_, .inl rfl⟩
        rcases g.up k hkt with h | ⟨u, hu, hl⟩
        · have ho := g.orph k hkt h
          unfold orphB at ho
          rw [c] at ho
          simp only [Bool.and_eq_true, Bool.not_true, Bool.false_or, beq_iff_eq] at ho
          rw [ho.2]
          show 0 + 0 ≤ _
          omega
        · obtain ⟨i, j1, j2, j3⟩ := g.hang k u hkt hu hl.1
          rw [j3 c]
          have huD : ¬ D u := fun h => hD (hdown k u hkt.lv hu hl h)
          have := hlt u i hl huD (g.sl hl j1).2.1 (fun e => by
            subst e
            have hv := hch k hkt.lv hu hD
            rcases j1 with ⟨h1, _⟩ | ⟨_, h2, h3, h4⟩
            · rw [hk] at h1; exact absurd h1 (by decide)
            · have hsq : Sl (cntP (S.O u).p op.n) (S.O k).via.toNat i := .inr ⟨hk, h2, hv, h4⟩
              have h0 := sl_kind hsq
              have := (sl_words (p := cntP (S.O u).p op.n) (by have := g.range hl; omega) hsq).2.1
              rw [hstr] at h0
              rw [firstL_no h0]
              exact this)
          omega
  · intro k hkt hD
    by_cases e : k = x
    · subst e
      rw [hqx]
      have := g.kind k ht
      unfold kindOk at this ⊢
      rw [show ((cntP (S.O k).p op.n).kind == 1) = false by show ((S.O k).p.kind == 1) = false; rw [hk]; rfl]
      rw [show ((S.O k).p.kind == 1) = false by rw [hk]; rfl] at this
      exact this
    · rw [hq k e]; exact g.kind k hkt
  · intro k hkt hD hu
    by_cases e : k = x
    · subst e
      have := g.orph k ht hu
      unfold orphB at this ⊢
      rw [hvia, hqx, hwx]
      simp only [Bool.and_eq_true] at this
      rw [this.1]
      rfl
    · rw [hOeq k hkt.2.1 hD e]; exact g.orph k hkt hu
  · intro k i hkt hD hc
    by_cases e : k = x
    · subst e
      rw [hqx] at hc
      refine ⟨hc.1, ?_⟩
      have h2 := hc.2
      rw [hfq] at h2
      omega
    · rw [hq k e] at hc; exact hc
  · intro k u hek hl hD
    have hke : (S.O k).elem = true := by
      have e1 := hek.at_
      obtain ⟨_, _, l3⟩ := (listOk_iff S u _).1 (g.list u hek.tp hek.str)
      have := (l3 _ hek.via).2.1
      rw [← e1] at this
      exact this
    have hkx : k ≠ x := by rintro rfl; rw [ht.2.2.2] at hke; cases hke
    have huD : ¬ D u := fun h => hD (hdown k u hl hek.hs hek.tp.lv h)
    by_cases e : u = x
    · subst e
      have hv := helx k hl hek hD
      have hOk := hOeq k hl.1 hD hkx
      have hd := (hdead u hek.lt).2 ⟨hek.live, huD⟩
      exact ⟨by rw [hOk]; exact hek.up, hek.pos, by rw [hcnt]; exact hek.lt, hd, by rw [hel]; exact hek.top, by rw [hqx]; exact hek.str, by rw [hOk, hqx]; exact hv, by rw [hOk]; exact hek.at_, by rw [hOk, hqx]; exact hek.p⟩
    · exact hek.congr (by rw [hcnt]; exact Nat.le_refl _) (hOeq k hl.1 hD hkx) (hOeq u hek.lt huD e)
  · intro k hkt hD hst
    have hele : ∀ j, j < (S.O k).p.count.toNat → strB (S.O k).p = true → (k = x → j < op.n.toNat) → S'.O (k + 1 + j) = S.O (k + 1 + j) := by
      intro j hj hst hjx
      obtain ⟨l1, l2, l3⟩ := (listOk_iff S k _).1 (g.list k hkt hst)
      obtain ⟨b1, b2, b3, b4, b5⟩ := l3 j hj
      refine hOeq _ (by omega) ?_ (fun e => by rw [e, ht.2.2.2] at b2; cases b2)
      intro hDe
      rcases hroot _ hDe with h | ⟨u, hu', hlu, hDu⟩
      · obtain ⟨r1, r2, r3⟩ := (hRR _).1 h
        have := hs_up r2 (g.c256 ht.2.1)
        rw [b3] at this
        have e : k = x := by omega
        have hv : (S.O (k + 1 + j)).via.toNat = j := by
          have := congrArg UInt16.toNat b4
          rw [UInt8.toNat_toUInt16, tn16 (by have := g.cnt.2; omega)] at this
          exact this
        have := hjx e
        omega
      · have := hs_up hu' (g.c256 hlu.1)
        rw [b3] at this
        have e : u = k := by omega
        subst e
        exact hD hDu
    by_cases e : k = x
    · subst e
      rw [hqx] at hst ⊢
      have hst' : strB (S.O k).p = true := hst
      obtain ⟨l1, l2, l3⟩ := (listOk_iff S k _).1 (g.list k hkt hst')
      rw [listOk_iff]
      refine ⟨by rw [hcnt]; show k + op.n.toNat < _; omega, fun h => ?_, fun j hj => ?_⟩
      · have h' : 0 < op.n.toNat := h
        exact l2 (by omega)
      · have hj' : j < op.n.toNat := hj
        rw [hele j (by omega) hst' (fun _ => hj')]
        exact l3 j (by omega)
    · rw [hq k e] at hst ⊢
      exact listOk.congr (g.list k hkt hst) (by rw [hcnt]; exact Nat.le_refl _) (fun j hj => hele j hj hst (fun h => absurd h e))
  · intro k hkt hD
    have hnot : ∀ i, part S k i → (∀ v, ¬ Sl (S.O k).p v i) → S'.A i = A4 i := by
      intro i hp hv
      refine hA' i (fun u hu hl hs => ?_)
      have e := g.pinj hkt.lv hl hp (g.sl hl hs).2.1
      subst e
      exact hv _ hs
    by_cases e : k = x
    · subst e
      rw [hqx]
      have hLx := hL k ht hxD (by rw [hqx]; exact hwx)
      rw [hqx] at hLx
      have hin : insideL S.len (cntP (S.O k).p op.n) = true := by
        have hin := g.inside k ht
        rw [inside_iff _ _ hl256] at hin ⊢
        refine ⟨.inr hk, ?_⟩
        have h2 := hin.2
        cases c : strB (S.O k).p
        · have c' : ¬ ((S.O k).p.kind = 2 ∧ (S.O k).p.code = 7) := fun h => by rw [(strB_iff _).2 h] at c; cases c
          rw [if_neg c'] at h2
          rw [if_neg (show ¬ ((cntP (S.O k).p op.n).kind = 2 ∧ (cntP (S.O k).p op.n).code = 7) from c')]
          refine ⟨?_, ?_⟩
          · show (S.O k).p.at_.toNat + _ ≤ _
            omega
          · show _ ∨ 1 ≤ (S.O k).p.at_.toNat
            omega
        · have c' := (strB_iff _).1 c
          rw [if_pos c'] at h2
          rw [if_pos (show (cntP (S.O k).p op.n).kind = 2 ∧ (cntP (S.O k).p op.n).code = 7 from c')]
          refine ⟨h2.1, ?_, words7 c'.1 c'.2⟩
          show (S.O k).p.at_.toNat - 1 + _ ≤ _
          omega
      have hin' := inside_of hl256 (by omega) hin hLx
      refine Iff.mpr (whole_iff (by omega) hin') ⟨fun hs => ?_, fun _ hs hb => ?_⟩
      · have hs' : strB (S.O k).p = true := hs
        rw [hfq, hnot _ (by unfold part; rw [if_pos hs']) (fun v hv => by rw [sl_kind hv] at hs'; cases hs')]
        exact tA.tag ((strB_iff _).1 hs').2
      · have hs' : strB (S.O k).p = false := hs
        have hc25 : 2 ≤ (S.O k).p.code.toNat ∧ (S.O k).p.code.toNat ≤ 5 := by
          refine Decidable.byContradiction fun c => ?_
          have : bytesL (cntP (S.O k).p op.n) = 0 := bytes_no c
          rw [this] at hb
          exact hb rfl
        have h7 : (S.O k).p.code ≠ 7 := code7 (by omega)
        obtain ⟨w1, w2, w3, w4, w5, w6, w7, w8⟩ := g.li ht hk h7
        have heb := elSize_bytes (p := cntP (S.O k).p op.n) hc25.1 hc25.2 (by show op.n.toNat ≤ 128; omega)
        have hpc := pad_cov (by omega) hin' hk hs hb
        have hword : (cntP (S.O k).p op.n).at_.toNat + bytesL (cntP (S.O k).p op.n) / 8 = (firstL (S.O k).p).toNat + (wordsL (cntP (S.O k).p op.n)).toNat - 1 := by
          obtain ⟨v1, v2, v3, v4⟩ := words_ok' (p := cntP (S.O k).p op.n) hk h7 (by have := g.range ht.lv; omega)
          have hcd : (cntP (S.O k).p op.n).code.toNat = (S.O k).p.code.toNat := rfl
          rw [v4, li_words, if_neg (by omega), w8]
          rw [bytes_sz (by rw [hcd]; exact hc25.1) (by rw [hcd]; exact hc25.2)] at hb ⊢
          show (S.O k).p.at_.toNat + _ = (S.O k).p.at_.toNat + _ - 1
          omega
        have hne : elSize (cntP (S.O k).p op.n) * (cntP (S.O k).p op.n).count % 8 ≠ 0 := by
          intro h0
          rw [h0] at heb
          exact hb heb.symm
        have hcp : covers (S.O k).p ((cntP (S.O k).p op.n).at_.toNat + bytesL (cntP (S.O k).p op.n) / 8) := by
          have h1 := hpc.1
          have h2 := hpc.2
          rw [hfq] at h1 h2
          exact ⟨h1, by omega⟩
        rw [hnot _ (by unfold part; rw [hs', if_neg (by simp)]; exact hcp) ?_, hword, tA.last h7 hne]
        · refine take_pad _ _ _ ?_ (by omega)
          rw [UInt16.toNat_toUInt8, UInt16.toNat_mul, heb]
          have : (8 : UInt16).toNat = 8 := rfl
          rw [this]
          omega
        · rintro v (⟨h, _⟩ | ⟨_, h, _⟩)
          · rw [hk] at h; exact absurd h (by decide)
          · rw [h] at hc25; exact absurd hc25 (by decide)
    · rw [hq k e]
      have hin' : insideL S'.len (S.O k).p = true := by
        cases c : wlessB (S.O k).p
        · have := hL k hkt hD (by rw [hq k e]; exact c)
          rw [hq k e] at this
          exact inside_of hl256 (by omega) (g.inside k hkt) this
        · have h3 := wless_str c
          -- a struct of no words: whatever its place, nothing is asked
          rw [inside_iff _ _ (by omega)]
          refine ⟨.inl (wless_words c).2.1, ?_⟩
          rw [if_neg (fun h => by rw [(strB_iff _).2 h] at h3; cases h3), (wless_words c).1]
          refine ⟨?_, .inl rfl⟩
          rcases g.up k hkt with h | ⟨u, hu, hl⟩
          · have ho := g.orph k hkt h
            unfold orphB at ho
            rw [c] at ho
            simp only [Bool.and_eq_true, Bool.not_true, Bool.false_or, beq_iff_eq] at ho
            rw [ho.2]
            show 0 + 0 ≤ _
            omega
          · obtain ⟨i, j1, j2, j3⟩ := g.hang k u hkt hu hl.1
            rw [j3 c]
            have huD : ¬ D u := fun h => hD (hdown k u hkt.lv hu hl h)
            have := hlt u i hl huD (g.sl hl j1).2.1 (fun e => by
              subst e
              have hv := hch k hkt.lv hu hD
              rcases j1 with ⟨h1, _⟩ | ⟨_, h2, h3, h4⟩
              · rw [hk] at h1; exact absurd h1 (by decide)
              · have hsq : Sl (cntP (S.O u).p op.n) (S.O k).via.toNat i := .inr ⟨hk, h2, hv, h4⟩
                have h0 := sl_kind hsq
                have := (sl_words (p := cntP (S.O u).p op.n) (by have := g.range hl; omega) hsq).2.1
                rw [hstr] at h0
                rw [firstL_no h0]
                exact this)
            omega
      refine g.keep hkt (by omega) hin' (fun i hp hv => ?_)
      rw [hnot i hp hv, hF k i hkt.lv hD e hp]
  · intro k u i hkt hD hku hlu huD hsi
    obtain ⟨i', j1, j2, j3⟩ := g.hang k u hkt hku hlu.1
    have e := sl_fun hsi j1
    subst e
    have hsl' : Sl (S'.O u).p (S.O k).via.toNat i := by
      by_cases e : u = x
      · subst e
        rw [hqx]
        rcases hsi with ⟨h1, _⟩ | ⟨_, h2, h3, h4⟩
        · rw [hk] at h1; exact absurd h1 (by decide)
        · exact .inr ⟨hk, h2, hch k hkt.lv hku hD, h4⟩
      · rw [hq u e]; exact hsi
    refine ⟨hsl', ?_⟩
    by_cases ek : k = x
    · subst ek
      rw [hqx]
      exact ⟨(hA1 u i hku hlu hsi).1, fun h => by rw [hwx] at h; cases h⟩
    · rw [hq k ek]
      refine ⟨?_, j3⟩
      rw [hA' i (fun u' hu' hl' hs' => ?_)]
      · by_cases e : u = x
        · subst e
          rw [hqx] at hsl'
          rw [(hF6 i _ hsl').1, j2]
        · rw [hF u i hlu huD e (g.sl hlu hsi).2.1, j2]
      · obtain ⟨e1, e2⟩ := g.sl_two hlu hl' hsi hs'
        subst e1
        exact ek (g.inj k x u hkt ht hku hu' hlu.1 (UInt8.toNat_inj.1 e2))
  · intro i hi h0
    by_cases c : ∃ u, Hs S x u ∧ Lv S u ∧ Sl (S.O u).p (S.O x).via.toNat i
    · obtain ⟨u, hu, hl, hs⟩ := c
      obtain ⟨b1, b2, b3⟩ := hux u hu hl
      rcases g.pcases hl (g.sl hl hs).2.1 with ⟨_, h⟩ | ⟨h1, h2⟩ | ⟨w, hw, hc, _⟩
      · exact .inl h
      · exact .inr ⟨u, h1, b1, by rw [hq u b2]; exact h2⟩
      · have hwx' : ¬ w = x := by rintro rfl; exact b3 hw.hs
        exact .inr ⟨w, hw.tp, fun h => b1 (hdown u w hl hw.hs hw.tp.lv h), by rw [hq w hwx']; exact hc⟩
    · rw [hA' i (fun u hu hl hs => c ⟨u, hu, hl, hs⟩)] at h0
      exact hH i (by omega) h0
  · intro i h v hl hD hsi h0
    have hsS : Sl (S.O h).p v i ∧ (h = x → v < op.n.toNat) := by
      by_cases e : h = x
      · subst e
        rw [hqx] at hsi
        exact ⟨(hF6 i v hsi).2.1, fun _ => (hF6 i v hsi).2.2⟩
      · rw [hq h e] at hsi
        exact ⟨hsi, fun h => absurd h e⟩
    by_cases c : ∃ u, Hs S x u ∧ Lv S u ∧ Sl (S.O u).p (S.O x).via.toNat i
    · obtain ⟨u, hu, hlu, hs⟩ := c
      obtain ⟨e1, e2⟩ := g.sl_two hl hlu hsS.1 hs
      subst e1
      exact ⟨x, ht, hxD, hu, e2.symm⟩
    · rw [hA' i (fun u hu hl hs => c ⟨u, hu, hl, hs⟩)] at h0
      have hAi : A4 i = S.A i := by
        by_cases e : h = x
        · subst e
          rw [hqx] at hsi
          exact (hF6 i v hsi).1
        · exact hF h i hl hD e (g.sl hl hsS.1).2.1
      rw [hAi] at h0
      obtain ⟨k, hkt, hkh, hkv⟩ := g.slot i h v hl hsS.1 h0
      refine ⟨k, hkt, fun hDk => ?_, hkh, hkv⟩
      rcases hroot k hDk with hr | ⟨u, hu', hlu, hDu⟩
      · obtain ⟨r1, r2, r3⟩ := (hRR k).1 hr
        have e := hs_inj hkh r2 (g.c256 hl.1) (g.c256 ht.2.1)
        have := hsS.2 e
        omega
      · have e := hs_inj hkh hu' (g.c256 hl.1) (g.c256 hlu.1)
        subst e
        exact hD hDu
end
end Eng
end Go.Proofs.Ygcfab
