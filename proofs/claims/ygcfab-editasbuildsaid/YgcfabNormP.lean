/-
  Norm, without Go: the invariant of its loop, and what the tree is that it makes.
-/
import Derived.Test.YgcfabNorm
set_option linter.unusedSimpArgs false
set_option linter.unusedVariables false
namespace Go.Proofs.Ygcfab
namespace Eng

theorem trimK_cover (g : Nat → Int16) : ∀ n j, j < n → g j ≠ -1 → j < trimK g n
  | 0, j, h, _ => by omega
  | n + 1, j, h, hg => by
    rw [trimK]
    split
    · rename_i h0
      exact trimK_cover g n j (by rcases Nat.lt_succ_iff_lt_or_eq.1 h with h | rfl; exact h; exact absurd h0 hg) hg
    · omega
theorem trimD_cover (g : Nat → UInt64) : ∀ n j, j < n → g j ≠ 0 → j < trimD g n
  | 0, j, h, _ => by omega
  | n + 1, j, h, hg => by
    rw [trimD]
    split
    · rename_i h0
      exact trimD_cover g n j (by rcases Nat.lt_succ_iff_lt_or_eq.1 h with h | rfl; exact h; exact absurd h0 hg) hg
    · omega
theorem evTo_cover (N : Nat → NodeL) (n : NodeL) : ∀ k j, j < k → trimD (kidN N n j).dat (kidN N n j).nd ≤ (evTo N n k).1 ∧ trimK (kidN N n j).kid (kidN N n j).nk ≤ (evTo N n k).2
  | 0, j, h => by omega
  | k + 1, j, h => by
    simp only [evTo]
    by_cases e : j = k
    · subst e; omega
    · have := evTo_cover N n k j (by omega)
      omega
theorem evenL_cover (N : Nat → NodeL) (n : NodeL) (j : Nat) (h : j < n.nk) : trimD (kidN N n j).dat (kidN N n j).nd ≤ (evenL N n).1 ∧ trimK (kidN N n j).kid (kidN N n j).nk ≤ (evenL N n).2 := by
  have := evTo_cover N n n.nk j h
  unfold evenL
  split
  · simp only []; omega
  · exact this
theorem evenL_le (N : Nat → NodeL) (n : NodeL) (h8 : ∀ j, j < n.nk → (kidN N n j).nd ≤ 8 ∧ (kidN N n j).nk ≤ 8) : (evenL N n).1 ≤ 8 ∧ (evenL N n).2 ≤ 8 := by
  have hle := evTo_le N n h8 n.nk (Nat.le_refl _)
  unfold evenL; split <;> (try simp only []) <;> omega
theorem evenL_pos (N : Nat → NodeL) (n : NodeL) (h : 0 < n.nk) : 0 < (evenL N n).1 + (evenL N n).2 := by
  unfold evenL
  split
  · simp only []; omega
  · rename_i h1; simp only [h, true_and] at h1; omega

/-- what is known of a node of the new tree, before it is made -/
structure PInv (N : Nat → NodeL) (cntN : Nat) (fr : Nat → Nat) (el : Nat → Bool) (D P : Nat → Nat) (q : Nat) : Prop where
  inr : fr q < cntN
  str : (N (fr q)).kind = 1 → trimD (N (fr q)).dat (N (fr q)).nd ≤ D q ∧ D q ≤ 8 ∧ trimK (N (fr q)).kid (N (fr q)).nk ≤ P q ∧ P q ≤ 8 ∧
    (el q = false → D q = trimD (N (fr q)).dat (N (fr q)).nd ∧ P q = trimK (N (fr q)).kid (N (fr q)).nk)
/-- kid j of node q of the new tree -/
def KRel (N : Nat → NodeL) (fr : Nat → Nat) (el : Nat → Bool) (D P : Nat → Nat) (cnt q : Nat) (kid : Int16) (j : Nat) : Prop :=
  ((j < (N (fr q)).nk ∧ (N (fr q)).kid j ≠ -1) ∧ ∃ k, kid = Int16.ofNat k ∧ q < k ∧ k < cnt ∧ fr k = kidI (N (fr q)) j ∧ el k = inl (N (fr q)) ∧ (inl (N (fr q)) = true → D k = (evenL N (N (fr q))).1 ∧ P k = (evenL N (N (fr q))).2)) ∨
  (¬ (j < (N (fr q)).nk ∧ (N (fr q)).kid j ≠ -1) ∧ kid = -1)
structure NRel (N : Nat → NodeL) (T : Nat → NodeL) (fr : Nat → Nat) (el : Nat → Bool) (D P : Nat → Nat) (cnt q : Nat) : Prop where
  kind : (T q).kind = (N (fr q)).kind
  code : (T q).code = (N (fr q)).code
  nd : (T q).nd = D q
  dat : ∀ j, j < D q → (T q).dat j = if j < (N (fr q)).nd then (N (fr q)).dat j else 0
  nk : (T q).nk = P q
  kid : ∀ j, j < P q → KRel N fr el D P cnt q ((T q).kid j) j
  lst : (N (fr q)).kind = 2 → D q = (N (fr q)).nd ∧ P q = (N (fr q)).nk
def gq (N : Nat → NodeL) (cntN : Nat) (fr : Nat → Nat) (el : Nat → Bool) (i q : Nat) : Nat := if q < i then 1 else cntW N cntN (el q) (fr q)
structure NInv (N : Nat → NodeL) (cntN rt : Nat) (i cnt : Nat) (T : Nat → NodeL) (fr : Nat → Nat) (el : Nat → Bool) (D P : Nat → Nat) : Prop where
  le : i ≤ cnt
  one : 1 ≤ cnt
  base : fr 0 = rt ∧ el 0 = false
  pnd : ∀ q, q < cnt → PInv N cntN fr el D P q
  rel : ∀ q, q < i → NRel N T fr el D P cnt q
  count : sumK (gq N cntN fr el i) cnt = cntW N cntN false rt
/-- within node i, its first J kids made: ks are they -/
structure NKid (N : Nat → NodeL) (cntN rt : Nat) (i J cnt : Nat) (T : Nat → NodeL) (ks : Nat → Int16) (fr : Nat → Nat) (el : Nat → Bool) (D P : Nat → Nat) : Prop where
  lt : i < cnt
  base : fr 0 = rt ∧ el 0 = false
  pnd : ∀ q, q < cnt → PInv N cntN fr el D P q
  rel : ∀ q, q < i → NRel N T fr el D P cnt q
  lst : (N (fr i)).kind = 2 → D i = (N (fr i)).nd ∧ P i = (N (fr i)).nk
  kid : ∀ j, j < J → KRel N fr el D P cnt i (ks j) j
  count : sumK (gq N cntN fr el (i + 1)) cnt + sumK (kidW (cntW N cntN) (N (fr i))) (N (fr i)).nk = cntW N cntN false rt + sumK (kidW (cntW N cntN) (N (fr i))) (min J (N (fr i)).nk)
theorem cntW_pos {N : Nat → NodeL} {cnt : Nat} (h : Above N cnt) (el : Bool) (i : Nat) (hi : i < cnt) : 1 ≤ cntW N cnt el i := by
  have : cntW N cnt el i = 1 + sumK (kidW (cntW N cnt) (N i)) (N i).nk := wt_eq (fun _ _ => 1) h el i hi
  omega
theorem sumK_ge {g : Nat → Nat} : ∀ k, (∀ j, j < k → 1 ≤ g j) → k ≤ sumK g k
  | 0, _ => by simp [sumK]
  | k + 1, h => by
    have h1 := sumK_ge k (fun j hj => h j (by omega))
    have h2 := h k (by omega)
    simp only [sumK]; omega
theorem NInv.cnt_le {N : Nat → NodeL} {cntN rt i cnt : Nat} {T : Nat → NodeL} {fr : Nat → Nat} {el : Nat → Bool} {D P : Nat → Nat} (h : NInv N cntN rt i cnt T fr el D P) (ha : Above N cntN) : cnt ≤ cntW N cntN false rt := by
  rw [← h.count]
  apply sumK_ge
  intro q hq
  unfold gq
  split
  · exact Nat.le_refl _
  · exact cntW_pos ha _ _ (h.pnd q hq).inr
theorem sumK_min_le (g : Nat → Nat) : ∀ a b, a ≤ b → sumK g a ≤ sumK g b
  | a, 0, h => by rw [Nat.le_zero.1 h]; exact Nat.le_refl _
  | a, b + 1, h => by
    by_cases e : a = b + 1
    · subst e; exact Nat.le_refl _
    · have := sumK_min_le g a b (by omega)
      simp only [sumK]; omega
theorem NKid.cnt_lt {N : Nat → NodeL} {cntN rt i J cnt : Nat} {T : Nat → NodeL} {ks : Nat → Int16} {fr : Nat → Nat} {el : Nat → Bool} {D P : Nat → Nat} (h : NKid N cntN rt i J cnt T ks fr el D P) (ha : Above N cntN)
    (hJ : J < (N (fr i)).nk) (hk : (N (fr i)).kid J ≠ -1) : cnt + 1 ≤ cntW N cntN false rt := by
  have hc := h.count
  have h1 : cnt ≤ sumK (gq N cntN fr el (i + 1)) cnt := by
    apply sumK_ge
    intro q hq
    unfold gq
    split
    · exact Nat.le_refl _
    · exact cntW_pos ha _ _ (h.pnd q hq).inr
  have h2 : sumK (kidW (cntW N cntN) (N (fr i))) (J + 1) ≤ sumK (kidW (cntW N cntN) (N (fr i))) (N (fr i)).nk := sumK_min_le _ _ _ (by omega)
  have hi := (h.pnd i h.lt).inr
  have hkid := ha.kid hi hJ hk
  have h3 : 1 ≤ kidW (cntW N cntN) (N (fr i)) J := by
    rw [kidW, if_neg hk]
    exact cntW_pos ha _ _ hkid.2
  rw [Nat.min_eq_left (by omega)] at hc
  simp only [sumK] at h2
  omega
theorem NKid.cnt_le {N : Nat → NodeL} {cntN rt i J cnt : Nat} {T : Nat → NodeL} {ks : Nat → Int16} {fr : Nat → Nat} {el : Nat → Bool} {D P : Nat → Nat} (h : NKid N cntN rt i J cnt T ks fr el D P) (ha : Above N cntN) : cnt ≤ cntW N cntN false rt := by
  have hc := h.count
  have h1 : cnt ≤ sumK (gq N cntN fr el (i + 1)) cnt := by
    apply sumK_ge
    intro q hq
    unfold gq
    split
    · exact Nat.le_refl _
    · exact cntW_pos ha _ _ (h.pnd q hq).inr
  have h2 : sumK (kidW (cntW N cntN) (N (fr i))) (min J (N (fr i)).nk) ≤ sumK (kidW (cntW N cntN) (N (fr i))) (N (fr i)).nk := sumK_min_le _ _ _ (by omega)
  omega
/-- one kid more, or other sections of a later node: what is said of the earlier ones stands -/
theorem KRel.keep {N : Nat → NodeL} {fr fr' : Nat → Nat} {el el' : Nat → Bool} {D P D' P' : Nat → Nat} {cnt cnt' q : Nat} {kid : Int16} {j : Nat} (h : KRel N fr el D P cnt q kid j) (hq : q < cnt) (hc : cnt ≤ cnt')
    (hfr : ∀ k, k < cnt → fr' k = fr k) (hel : ∀ k, k < cnt → el' k = el k) (hD : ∀ k, k < cnt → (N (fr k)).kind = 1 → D' k = D k ∧ P' k = P k)
    (hin : ∀ k, q < k → k < cnt → fr k = kidI (N (fr q)) j → (j < (N (fr q)).nk ∧ (N (fr q)).kid j ≠ -1) → inl (N (fr q)) = true → (N (fr k)).kind = 1) : KRel N fr' el' D' P' cnt' q kid j := by
  unfold KRel at *
  rw [hfr q hq]
  rcases h with ⟨h1, k, h2, h3, h4, h5, h6, h7⟩ | h
  · refine .inl ⟨h1, k, h2, h3, by omega, by rw [hfr k h4]; exact h5, by rw [hel k h4]; exact h6, fun hi => ?_⟩
    have := hD k h4 (hin k h3 h4 h5 h1 hi)
    rw [this.1, this.2]
    exact h7 hi
  · exact .inr h
theorem inl_kind {n : NodeL} (h : inl n = true) : n.kind = 2 ∧ n.code = 7 := by
  unfold inl at h
  simpa using h
theorem seven_kid {N : Nat → NodeL} {cntN : Nat} (hs : ShapedAll N cntN) {x j : Nat} (hx : x < cntN) (hj : j < (N x).nk) (hi : inl (N x) = true) : (N (kidI (N x) j)).kind = 1 := by
  have h := inl_kind hi
  have hk : (N x).kind ≠ 1 := by rw [h.1]; decide
  exact ((hs x hx).seven hk h.2 j hj).2
theorem NRel.keep {N : Nat → NodeL} {T T' : Nat → NodeL} {fr fr' : Nat → Nat} {el el' : Nat → Bool} {D P D' P' : Nat → Nat} {cnt cnt' q cntN : Nat} (hs : ShapedAll N cntN) (h : NRel N T fr el D P cnt q) (hq : q < cnt) (hqn : fr q < cntN) (hc : cnt ≤ cnt')
    (hT : T' q = T q) (hDq : D' q = D q ∧ P' q = P q) (hfr : ∀ k, k < cnt → fr' k = fr k) (hel : ∀ k, k < cnt → el' k = el k) (hD : ∀ k, k < cnt → (N (fr k)).kind = 1 → D' k = D k ∧ P' k = P k) : NRel N T' fr' el' D' P' cnt' q := by
  have e := hfr q hq
  refine ⟨by rw [hT, e]; exact h.kind, by rw [hT, e]; exact h.code, by rw [hT, hDq.1]; exact h.nd, ?_, by rw [hT, hDq.2]; exact h.nk, ?_, ?_⟩
  · intro j hj
    rw [hT, e]
    exact h.dat j (by rw [← hDq.1]; exact hj)
  · intro j hj
    rw [hT]
    refine (h.kid j (by rw [← hDq.2]; exact hj)).keep hq hc hfr hel hD ?_
    intro k h1 h2 h3 h4 h5
    rw [h3]
    exact seven_kid hs hqn h4.1 h5
  · rw [e, hDq.1, hDq.2]; exact h.lst
/-- into node i: a list's sections are its own -/
theorem NInv.enter {N : Nat → NodeL} {cntN rt i cnt : Nat} {T : Nat → NodeL} {fr : Nat → Nat} {el : Nat → Bool} {D P : Nat → Nat} (hs : ShapedAll N cntN) (h : NInv N cntN rt i cnt T fr el D P) (hi : i < cnt) (D' P' : Nat → Nat)
    (hD : (N (fr i)).kind = 2 ∧ D' = upd D i (N (fr i)).nd ∧ P' = upd P i (N (fr i)).nk ∨ (N (fr i)).kind ≠ 2 ∧ D' = D ∧ P' = P) (ks : Nat → Int16) : NKid N cntN rt i 0 cnt T ks fr el D' P' := by
  have hDk : ∀ k, k < cnt → (N (fr k)).kind = 1 → D' k = D k ∧ P' k = P k := by
    intro k hk h1
    rcases hD with ⟨h2, rfl, rfl⟩ | ⟨_, rfl, rfl⟩
    · have hne : k ≠ i := by
        intro e; subst e; rw [h2] at h1; exact absurd h1 (by decide)
      rw [upd_ne _ _ _ _ hne, upd_ne _ _ _ _ hne]; exact ⟨rfl, rfl⟩
    · exact ⟨rfl, rfl⟩
  have hDq : ∀ q, q < i → D' q = D q ∧ P' q = P q := by
    intro q hq
    rcases hD with ⟨h2, rfl, rfl⟩ | ⟨_, rfl, rfl⟩
    · rw [upd_ne _ _ _ _ (by omega), upd_ne _ _ _ _ (by omega)]; exact ⟨rfl, rfl⟩
    · exact ⟨rfl, rfl⟩
  refine ⟨hi, h.base, ?_, ?_, ?_, fun j hj => by omega, ?_⟩
  · intro q hq
    refine ⟨(h.pnd q hq).inr, fun h1 => ?_⟩
    have := hDk q hq h1
    rw [this.1, this.2]
    exact (h.pnd q hq).str h1
  · intro q hq
    exact (h.rel q hq).keep hs (by omega) (h.pnd q (by omega)).inr (Nat.le_refl _) rfl (hDq q hq) (fun _ _ => rfl) (fun _ _ => rfl) hDk
  · intro h2
    rcases hD with ⟨_, rfl, rfl⟩ | ⟨h3, _, _⟩
    · rw [upd_same, upd_same]; exact ⟨rfl, rfl⟩
    · exact absurd h2 h3
  · have hc := h.count
    have ha := hs.above
    have e : cntW N cntN (el i) (fr i) = 1 + sumK (kidW (cntW N cntN) (N (fr i))) (N (fr i)).nk := wt_eq (fun _ _ => 1) ha _ _ (h.pnd i hi).inr
    have h2 := sumK_upd (gq N cntN fr el i) i 1 cnt hi
    rw [sumK_congr cnt (g := upd (gq N cntN fr el i) i 1) (h := gq N cntN fr el (i + 1))] at h2
    · have e2 : gq N cntN fr el i i = cntW N cntN (el i) (fr i) := by rw [gq, if_neg (by omega)]
      rw [e2] at h2
      rw [Nat.zero_min]
      simp only [sumK]
      omega
    · intro q hq
      by_cases e3 : q = i
      · subst e3; rw [upd_same, gq, if_pos (by omega)]
      · rw [upd_ne _ _ _ _ e3, gq, gq]
        by_cases h4 : q < i
        · rw [if_pos h4, if_pos (by omega)]
        · rw [if_neg h4, if_neg (by omega)]
theorem NKid.null {N : Nat → NodeL} {cntN rt i J cnt : Nat} {T : Nat → NodeL} {ks : Nat → Int16} {fr : Nat → Nat} {el : Nat → Bool} {D P : Nat → Nat} (h : NKid N cntN rt i J cnt T ks fr el D P)
    (hn : ¬ (J < (N (fr i)).nk ∧ (N (fr i)).kid J ≠ -1)) : NKid N cntN rt i (J + 1) cnt T (upd ks J (-1)) fr el D P := by
  refine ⟨h.lt, h.base, h.pnd, h.rel, h.lst, ?_, ?_⟩
  · intro j hj
    by_cases e : j = J
    · subst e
      rw [upd_same]
      exact .inr ⟨hn, rfl⟩
    · rw [upd_ne _ _ _ _ e]
      exact h.kid j (by omega)
  · rw [h.count]
    congr 1
    by_cases hJ : J < (N (fr i)).nk
    · have hk : (N (fr i)).kid J = -1 := by
        refine Decidable.byContradiction fun hk => hn ⟨hJ, hk⟩
      rw [Nat.min_eq_left (by omega), Nat.min_eq_left (by omega), sumK, kidW, if_pos hk]; rfl
    · rw [Nat.min_eq_right (by omega), Nat.min_eq_right (by omega)]
theorem NKid.next {N : Nat → NodeL} {cntN rt i J cnt : Nat} {T : Nat → NodeL} {ks : Nat → Int16} {fr : Nat → Nat} {el : Nat → Bool} {D P : Nat → Nat} (hs : ShapedAll N cntN) (h : NKid N cntN rt i J cnt T ks fr el D P)
    (hJ : J < (N (fr i)).nk) (hk : (N (fr i)).kid J ≠ -1) (d p : Nat)
    (hdp : inl (N (fr i)) = true ∧ d = (evenL N (N (fr i))).1 ∧ p = (evenL N (N (fr i))).2 ∨ inl (N (fr i)) = false ∧ d = trimD (N (kidI (N (fr i)) J)).dat (N (kidI (N (fr i)) J)).nd ∧ p = trimK (N (kidI (N (fr i)) J)).kid (N (kidI (N (fr i)) J)).nk) :
    NKid N cntN rt i (J + 1) (cnt + 1) T (upd ks J (Int16.ofNat cnt)) (upd fr cnt (kidI (N (fr i)) J)) (upd el cnt (inl (N (fr i)))) (upd D cnt d) (upd P cnt p) := by
  have ha := hs.above
  have hin := (h.pnd i h.lt).inr
  have hkid := ha.kid hin hJ hk
  have hfi : upd fr cnt (kidI (N (fr i)) J) i = fr i := upd_ne _ _ _ _ (Nat.ne_of_lt h.lt)
  have hfr : ∀ k, k < cnt → upd fr cnt (kidI (N (fr i)) J) k = fr k := fun k hk => upd_ne _ _ _ _ (Nat.ne_of_lt hk)
  have hel : ∀ k, k < cnt → upd el cnt (inl (N (fr i))) k = el k := fun k hk => upd_ne _ _ _ _ (Nat.ne_of_lt hk)
  have hDk : ∀ k, k < cnt → upd D cnt d k = D k ∧ upd P cnt p k = P k := fun k hk => ⟨upd_ne _ _ _ _ (Nat.ne_of_lt hk), upd_ne _ _ _ _ (Nat.ne_of_lt hk)⟩
  have hlt := h.lt
  refine ⟨by omega, ?_, ?_, ?_, ?_, ?_, ?_⟩
  · rw [hfr 0 (by omega), hel 0 (by omega)]; exact h.base
  · intro q hq
    by_cases e : q = cnt
    · subst e
      refine ⟨by rw [upd_same]; exact hkid.2, ?_⟩
      rw [upd_same, upd_same, upd_same, upd_same]
      intro h1
      have h8 := (hs _ hkid.2).struct h1
      have t1 := trimD_le (N (kidI (N (fr i)) J)).dat (N (kidI (N (fr i)) J)).nd
      have t2 := trimK_le (N (kidI (N (fr i)) J)).kid (N (kidI (N (fr i)) J)).nk
      rcases hdp with ⟨hi, rfl, rfl⟩ | ⟨hi, rfl, rfl⟩
      · have c := evenL_cover N (N (fr i)) J hJ
        have hkk : kidN N (N (fr i)) J = N (kidI (N (fr i)) J) := rfl
        rw [hkk] at c
        have l := evenL_le N (N (fr i)) (fun j hj => by
          have h7 := (hs _ hin).seven (by rw [(inl_kind hi).1]; decide) (inl_kind hi).2 j hj
          have h8 := ha.kid hin hj h7.1
          exact (hs _ h8.2).struct h7.2)
        exact ⟨c.1, l.1, c.2, l.2, fun e => by rw [hi] at e; cases e⟩
      · exact ⟨Nat.le_refl _, by omega, Nat.le_refl _, by omega, fun _ => ⟨rfl, rfl⟩⟩
    · have hq' : q < cnt := by omega
      have hp := h.pnd q hq'
      refine ⟨by rw [hfr q hq']; exact hp.inr, ?_⟩
      rw [hfr q hq', hel q hq', (hDk q hq').1, (hDk q hq').2]
      exact hp.str
  · intro q hq
    exact (h.rel q hq).keep hs (by omega) (h.pnd q (by omega)).inr (by omega) rfl (hDk q (by omega)) hfr hel (fun k hk _ => hDk k hk)
  · rw [hfi, (hDk i h.lt).1, (hDk i h.lt).2]; exact h.lst
  · intro j hj
    by_cases e : j = J
    · subst e
      rw [upd_same]
      unfold KRel
      rw [hfi]
      refine .inl ⟨⟨hJ, hk⟩, cnt, rfl, h.lt, by omega, upd_same _ _ _, upd_same _ _ _, ?_⟩
      intro hi
      rw [upd_same, upd_same]
      rcases hdp with ⟨_, rfl, rfl⟩ | ⟨hi', _, _⟩
      · exact ⟨rfl, rfl⟩
      · rw [hi] at hi'; cases hi'
    · rw [upd_ne _ _ _ _ e]
      refine (h.kid j (by omega)).keep h.lt (by omega) hfr hel (fun k hk _ => hDk k hk) ?_
      intro k h1 h2 h3 h4 h5
      rw [h3]
      exact seven_kid hs hin h4.1 h5
  · have hc := h.count
    rw [hfi, sumK]
    have e1 : sumK (gq N cntN (upd fr cnt (kidI (N (fr i)) J)) (upd el cnt (inl (N (fr i)))) (i + 1)) cnt = sumK (gq N cntN fr el (i + 1)) cnt := by
      apply sumK_congr
      intro q hq
      unfold gq
      rw [hfr q hq, hel q hq]
    have e2 : gq N cntN (upd fr cnt (kidI (N (fr i)) J)) (upd el cnt (inl (N (fr i)))) (i + 1) cnt = kidW (cntW N cntN) (N (fr i)) J := by
      unfold gq kidW
      rw [if_neg (by omega), if_neg hk, upd_same, upd_same]
    rw [e1, e2, Nat.min_eq_left (by omega), sumK]
    rw [Nat.min_eq_left (by omega)] at hc
    omega
theorem NKid.leave {N : Nat → NodeL} {cntN rt i cnt : Nat} {T : Nat → NodeL} {ks : Nat → Int16} {fr : Nat → Nat} {el : Nat → Bool} {D P : Nat → Nat} (hs : ShapedAll N cntN) (h : NKid N cntN rt i (P i) cnt T ks fr el D P)
    (dat : Nat → UInt64) (hdat : ∀ j, j < D i → dat j = if j < (N (fr i)).nd then (N (fr i)).dat j else 0) :
    NInv N cntN rt (i + 1) cnt (upd T i ⟨(N (fr i)).kind, (N (fr i)).code, D i, dat, P i, ks⟩) fr el D P := by
  have ha := hs.above
  have hin := (h.pnd i h.lt).inr
  have hlt := h.lt
  refine ⟨h.lt, by omega, h.base, h.pnd, ?_, ?_⟩
  · intro q hq
    by_cases e : q = i
    · subst e
      refine ⟨by rw [upd_same], by rw [upd_same], by rw [upd_same], ?_, by rw [upd_same], ?_, h.lst⟩
      · intro j hj; rw [upd_same]; exact hdat j hj
      · intro j hj; rw [upd_same]; exact h.kid j hj
    · exact (h.rel q (by omega)).keep hs (by omega) (h.pnd q (by omega)).inr (Nat.le_refl _) (upd_ne _ _ _ _ e) ⟨rfl, rfl⟩ (fun _ _ => rfl) (fun _ _ => rfl) (fun _ _ _ => ⟨rfl, rfl⟩)
  · have hc := h.count
    have hcov : sumK (kidW (cntW N cntN) (N (fr i))) (min (P i) (N (fr i)).nk) = sumK (kidW (cntW N cntN) (N (fr i))) (N (fr i)).nk := by
      by_cases hP : (N (fr i)).nk ≤ P i
      · rw [Nat.min_eq_right hP]
      · have hz : ∀ j, P i ≤ j → j < (N (fr i)).nk → kidW (cntW N cntN) (N (fr i)) j = 0 := by
          intro j h1 h2
          unfold kidW
          split
          · rfl
          · rename_i hk
            exfalso
            by_cases hkind : (N (fr i)).kind = 1
            · have := ((h.pnd i h.lt).str hkind).2.2.1
              have := trimK_cover _ _ j h2 hk
              omega
            · have h2k : (N (fr i)).kind = 2 := by
                rcases (hs _ hin).shape with h3 | h3
                · exact absurd h3.1 hkind
                · exact h3.1
              have := (h.lst h2k).2
              omega
        rw [Nat.min_eq_left (by omega)]
        have : ∀ n, P i ≤ n → n ≤ (N (fr i)).nk → sumK (kidW (cntW N cntN) (N (fr i))) (P i) = sumK (kidW (cntW N cntN) (N (fr i))) n := by
          intro n
          induction n with
          | zero => intro h1 _; rw [Nat.le_zero.1 h1]
          | succ n ih =>
            intro h1 h2
            by_cases e : P i = n + 1
            · rw [e]
            · rw [sumK, hz n (by omega) (by omega), ih (by omega) (by omega)]; rfl
        exact this _ (by omega) (Nat.le_refl _)
    rw [hcov] at hc
    omega
end Eng
end Go.Proofs.Ygcfab
