/-
  Package edit: what stands in an editor made from the empty one (plain).
-/
import Derived.Test.YgcfabEw11
set_option linter.unusedSimpArgs false
set_option linter.unusedVariables false
set_option maxRecDepth 100000
namespace Go.Proofs.Ygcfab
namespace Eng
def Lv (S : Ed) (k : Nat) : Prop := k < S.cnt ∧ (S.O k).dead = false
def Tp (S : Ed) (k : Nat) : Prop := 1 ≤ k ∧ k < S.cnt ∧ top S k
def Hs (S : Ed) (k u : Nat) : Prop := (S.O k).up = Int16.ofInt (u : Int)
/-- word i is pointer v of p -/
def Sl (p : Ptr) (v i : Nat) : Prop := (p.kind = 1 ∧ v < p.ptrs.toNat ∧ i = p.at_.toNat + p.data.toNat + v) ∨ (p.kind = 2 ∧ p.code = 6 ∧ v < p.count.toNat ∧ i = p.at_.toNat + v)
structure Gd (S : Ed) : Prop where
  len : 1 ≤ S.len ∧ S.len ≤ 256
  cnt : 1 ≤ S.cnt ∧ S.cnt ≤ 256
  first : S.O 0 = ob0
  inside : ∀ k, Tp S k → insideL S.len (S.O k).p = true
  kind : ∀ k, Tp S k → kindOk (S.O k).p = true
  up : ∀ k, Tp S k → (S.O k).up = -1 ∨ ∃ u, Hs S k u ∧ Lv S u
  apart : ∀ k k' i, Tp S k → Tp S k' → covers (S.O k).p i → covers (S.O k').p i → k = k'
  elem : ∀ k, 1 ≤ k → Lv S k → (S.O k).elem = true → ∃ u, ElemOf S k u
  list : ∀ k, Tp S k → strB (S.O k).p = true → listOk S k (S.O k).p = true
  whole : ∀ k, Tp S k → wholeB S (S.O k).p = true
  orph : ∀ k, Tp S k → (S.O k).up = -1 → orphB (S.O k) = true
  hang : ∀ k u, Tp S k → Hs S k u → u < S.cnt → ∃ i, Sl (S.O u).p (S.O k).via.toNat i ∧ S.A i = pointerL (UInt16.ofNat i) (S.O k).p ∧ (wlessB (S.O k).p = true → (S.O k).p.at_.toNat = i)
  inj : ∀ k k' u, Tp S k → Tp S k' → Hs S k u → Hs S k' u → u < S.cnt → (S.O k).via = (S.O k').via → k = k'
  shal : ∀ k, Tp S k → ∃ n, Ends S n k ∧ depN S n k ≤ 8
  own : ∀ i, i < S.len → S.A i ≠ 0 → i = 0 ∨ ∃ k, Tp S k ∧ covers (S.O k).p i
  slot : ∀ i h v, Lv S h → Sl (S.O h).p v i → S.A i ≠ 0 → ∃ k, Tp S k ∧ Hs S k h ∧ (S.O k).via.toNat = v
theorem i16n {u : Nat} (h : u < 32768) : (Int16.ofInt (u : Int)).toInt = (u : Int) := by
  rw [Int16.toInt_ofInt]
  have : (Int16.size : Int) = 65536 := rfl
  rw [Int.bmod_def, this]
  split <;> omega
theorem hs_up {S : Ed} {k u : Nat} (h : Hs S k u) (hu : u < 256) : (S.O k).up.toInt = (u : Int) := by rw [h, i16n (by omega)]
theorem hs_inj {S : Ed} {k u u' : Nat} (h : Hs S k u) (h' : Hs S k u') (hu : u < 256) (hu' : u' < 256) : u = u' := by
  have h1 := hs_up h hu
  have h2 := hs_up h' hu'
  omega
theorem hs_ne {S : Ed} {k u : Nat} (h : Hs S k u) (hu : u < 256) : (S.O k).up ≠ -1 := by
  intro e
  have h1 := hs_up h hu
  rw [e] at h1
  have : (-1 : Int16).toInt = -1 := by decide
  omega
theorem hs_of {S : Ed} {k : Nat} {u : Nat} (h : (S.O k).up.toInt = (u : Int)) : Hs S k u := by
  unfold Hs
  rw [← h, Int16.ofInt_toInt]
theorem toU8n {u : Nat} (h : u < 256) : toU8 (u : Int) = UInt8.ofNat u := by
  apply UInt8.toNat_inj.1
  unfold toU8
  rw [UInt8.toNat_ofNat', UInt8.toNat_ofNat']
  omega
theorem depN_s (S : Ed) (n : Nat) (h : Int) : depN S (n + 1) h = if h ≤ 0 then 0 else stepD S h + depN S n (upI S h) := rfl
theorem ends_mono {S : Ed} : ∀ (n : Nat) (h : Int), Ends S n h → Ends S (n + 1) h ∧ depN S (n + 1) h = depN S n h
  | 0, h, e => by
    have e' : h ≤ 0 := e
    exact ⟨.inl e', by rw [depN_s, if_pos e']; rfl⟩
  | n + 1, h, e => by
    rcases e with e | ⟨e1, e2⟩
    · exact ⟨.inl e, by rw [depN_s, if_pos e, depN_s, if_pos e]⟩
    · obtain ⟨i1, i2⟩ := ends_mono n _ e2
      refine ⟨.inr ⟨e1, i1⟩, ?_⟩
      rw [depN_s, i2, ← depN_s]
theorem ends_le {S : Ed} {n : Nat} {h : Int} (e : Ends S n h) : ∀ m, n ≤ m → Ends S m h ∧ depN S m h = depN S n h := by
  intro m hm
  obtain ⟨j, rfl⟩ : ∃ j, m = n + j := ⟨m - n, by omega⟩
  clear hm
  induction j with
  | zero => exact ⟨e, rfl⟩
  | succ j ih =>
    obtain ⟨i1, i2⟩ := ends_mono _ _ ih.1
    exact ⟨i1, i2.trans ih.2⟩
theorem dep_eq {S : Ed} {n m : Nat} {h : Int} (e : Ends S n h) (e' : Ends S m h) : depN S n h = depN S m h := by
  rw [← (ends_le e (max n m) (by omega)).2, ← (ends_le e' (max n m) (by omega)).2]
theorem upI_nat (S : Ed) (k : Nat) : upI S (k : Int) = (S.O k).up.toInt := by unfold upI; rw [Int.toNat_natCast]
theorem stepD_nat (S : Ed) (k : Nat) : stepD S (k : Int) = if (S.O k).elem then 0 else 1 := by unfold stepD; rw [Int.toNat_natCast]
section
variable {S : Ed}
theorem Tp.lv {k : Nat} (h : Tp S k) : Lv S k := ⟨h.2.1, h.2.2.1⟩
theorem Gd.c256 (g : Gd S) {k : Nat} (h : k < S.cnt) : k < 256 := by have := g.cnt.2; omega
theorem Gd.lv0 (g : Gd S) : Lv S 0 := ⟨g.cnt.1, by rw [g.first]; rfl⟩
/-- a live handle is 0, of its own, or an element -/
theorem Gd.cases (g : Gd S) {k : Nat} (h : Lv S k) : k = 0 ∨ Tp S k ∨ (1 ≤ k ∧ (S.O k).elem = true ∧ ∃ u, ElemOf S k u) := by
  by_cases k0 : k = 0
  · exact .inl k0
  · cases he : (S.O k).elem
    · exact .inr (.inl ⟨by omega, h.1, h.2, he⟩)
    · exact .inr (.inr ⟨by omega, rfl, g.elem k (by omega) h he⟩)
theorem ElemOf.tp {k u : Nat} (h : ElemOf S k u) : Tp S u := ⟨h.pos, h.lt, h.live, h.top⟩
theorem ElemOf.hs {k u : Nat} (h : ElemOf S k u) : Hs S k u := hs_of h.up
theorem up0 (g : Gd S) : upI S 0 = -1 := by
  have : upI S 0 = (S.O 0).up.toInt := rfl
  rw [this, g.first]
  decide
theorem Gd.lv_up (g : Gd S) {k : Nat} (h : Lv S k) : upI S (k : Int) = -1 ∨ ∃ u : Nat, upI S (k : Int) = (u : Int) ∧ Lv S u ∧ Hs S k u := by
  rcases g.cases h with rfl | ht | ⟨_, _, u, hu⟩
  · exact .inl (up0 g)
  · rcases g.up k ht with e | ⟨u, hu, hl⟩
    · left; rw [upI_nat, e]; decide
    · exact .inr ⟨u, by rw [upI_nat, hs_up hu (g.c256 hl.1)], hl, hu⟩
  · exact .inr ⟨u, by rw [upI_nat, hu.up], hu.tp.lv, hu.hs⟩
theorem Gd.ends (g : Gd S) {k : Nat} (h : Lv S k) : ∃ n, Ends S n k ∧ depN S n k ≤ 8 := by
  rcases g.cases h with rfl | ht | ⟨hk, he, u, hu⟩
  · exact ⟨0, Int.le_refl 0, Nat.zero_le _⟩
  · exact g.shal k ht
  · obtain ⟨n, e1, e2⟩ := g.shal u hu.tp
    have eu : upI S (k : Int) = (u : Int) := by rw [upI_nat, hu.up]
    refine ⟨n + 1, .inr ⟨by have := h.1; omega, by rw [eu]; exact e1⟩, ?_⟩
    rw [depN_s, if_neg (by omega), stepD_nat, he, eu]
    simpa using e2
theorem Gd.bound (g : Gd S) : ∀ (n : Nat) (k d : Nat), Lv S k → Ends S n k → depN S n k ≤ d → Ends S (2 * d + (if (S.O k).elem then 1 else 0)) k := by
  intro n
  induction n with
  | zero =>
    intro k d hl e hd
    have e' : (k : Int) ≤ 0 := e
    exact (ends_le (n := 0) (h := (k : Int)) e' _ (Nat.zero_le _)).1
  | succ n ih =>
    intro k d hl e hd
    by_cases k0 : (k : Int) ≤ 0
    · exact (ends_le (n := 0) (h := (k : Int)) k0 _ (Nat.zero_le _)).1
    rcases e with e | ⟨e1, e2⟩
    · exact absurd e k0
    rw [depN_s, if_neg k0, stepD_nat] at hd
    rcases g.cases hl with rfl | ht | ⟨hk, he, u, hu⟩
    · exact absurd (Int.le_refl 0) k0
    · have he : (S.O k).elem = false := ht.2.2.2
      rw [he] at hd ⊢
      simp only [Bool.false_eq_true, if_false] at hd ⊢
      obtain ⟨d', rfl⟩ : ∃ d', d = d' + 1 := ⟨d - 1, by omega⟩
      refine Or.inr ⟨e1, ?_⟩
      show Ends S (2 * d' + 1) (upI S k)
      rcases g.lv_up hl with eu | ⟨u, eu, hlu, _⟩
      · rw [eu]
        exact (ends_le (n := 0) (h := -1) (by decide : (-1 : Int) ≤ 0) _ (Nat.zero_le _)).1
      · rw [eu] at e2 hd ⊢
        exact (ends_le (ih u d' hlu e2 (by omega)) _ (by split <;> omega)).1
    · have eu : upI S (k : Int) = (u : Int) := by rw [upI_nat, hu.up]
      rw [he] at hd ⊢
      simp only [if_true] at hd ⊢
      refine Or.inr ⟨e1, ?_⟩
      rw [eu] at e2 hd ⊢
      have := ih u d hu.tp.lv e2 (by omega)
      rw [hu.top] at this
      exact this
theorem Gd.e17 (g : Gd S) {k : Nat} (h : Lv S k) : Ends S 17 k ∧ depN S 17 k ≤ 8 := by
  obtain ⟨n, e1, e2⟩ := g.ends h
  have e := (ends_le (g.bound n k 8 h e1 e2) 17 (by split <;> omega)).1
  exact ⟨e, by rw [dep_eq e e1]; exact e2⟩
theorem Gd.e40 (g : Gd S) {k : Nat} (h : Lv S k) : Ends S 40 k ∧ depN S 40 k ≤ 8 := by
  obtain ⟨e1, e2⟩ := g.e17 h
  obtain ⟨e3, e4⟩ := ends_le e1 40 (by omega)
  exact ⟨e3, by rw [e4]; exact e2⟩
theorem Gd.rends (g : Gd S) : ∀ (n : Nat) (k : Nat), Lv S k → Ends S n k → Rends S (n + 1) k := by
  intro n
  induction n with
  | zero =>
    intro k hl e
    have e' : (k : Int) ≤ 0 := e
    have k0 : k = 0 := by omega
    subst k0
    have := g.cnt.1
    exact ⟨by omega, by omega, .inl (by rw [show ((0 : Nat) : Int) = 0 from rfl, up0 g]; decide)⟩
  | succ n ih =>
    intro k hl e
    refine ⟨by omega, by have := hl.1; omega, ?_⟩
    rcases g.lv_up hl with eu | ⟨u, eu, hlu, _⟩
    · left; rw [eu]; decide
    · right
      rw [eu]
      apply ih u hlu
      rcases e with e | ⟨e1, e2⟩
      · have k0 : k = 0 := by omega
        subst k0
        rw [show ((0 : Nat) : Int) = 0 from rfl, up0 g] at eu
        omega
      · rw [eu] at e2; exact e2
theorem Gd.cends (g : Gd S) : ∀ (n : Nat) (k : Nat), Lv S k → Ends S n k → Cends S (n + 1) k := by
  intro n
  induction n with
  | zero =>
    intro k hl e
    have e' : (k : Int) ≤ 0 := e
    have k0 : k = 0 := by omega
    subst k0
    have := g.cnt.1
    exact .inr ⟨by omega, by rw [show ((0 : Nat) : Int) = 0 from rfl, up0 g]; show (-1 : Int) < 0; decide⟩
  | succ n ih =>
    intro k hl e
    refine .inr ⟨by have := hl.1; omega, ?_⟩
    rcases g.lv_up hl with eu | ⟨u, eu, hlu, _⟩
    · rw [eu]; exact .inl (by decide)
    · rw [eu]
      apply ih u hlu
      rcases e with e | ⟨e1, e2⟩
      · have k0 : k = 0 := by omega
        subst k0
        rw [show ((0 : Nat) : Int) = 0 from rfl, up0 g] at eu
        omega
      · rw [eu] at e2; exact e2
theorem rends_mono : ∀ (n : Nat) (h : Int), Rends S n h → Rends S (n + 1) h
  | 0, _, e => e.elim
  | n + 1, h, ⟨e1, e2, e3⟩ => ⟨e1, e2, e3.elim .inl (fun e => .inr (rends_mono n _ e))⟩
theorem rends_le {n : Nat} {h : Int} (e : Rends S n h) : ∀ m, n ≤ m → Rends S m h := by
  intro m hm
  obtain ⟨j, rfl⟩ : ∃ j, m = n + j := ⟨m - n, by omega⟩
  clear hm
  induction j with
  | zero => exact e
  | succ j ih => exact rends_mono _ _ ih
theorem cends_mono : ∀ (n : Nat) (h : Int), Cends S n h → Cends S (n + 1) h
  | 0, _, e => .inl e
  | n + 1, h, e => e.elim .inl (fun e => .inr ⟨e.1, cends_mono n _ e.2⟩)
theorem cends_le {n : Nat} {h : Int} (e : Cends S n h) : ∀ m, n ≤ m → Cends S m h := by
  intro m hm
  obtain ⟨j, rfl⟩ : ∃ j, m = n + j := ⟨m - n, by omega⟩
  clear hm
  induction j with
  | zero => exact e
  | succ j ih => exact cends_mono _ _ ih
theorem Gd.r40 (g : Gd S) {k : Nat} (h : Lv S k) : Rends S 40 k := rends_le (g.rends 17 k h (g.e17 h).1) 40 (by omega)
theorem Gd.cn18 (g : Gd S) {k : Nat} (h : Lv S k) : Cends S 18 k := g.cends 17 k h (g.e17 h).1
theorem Gd.c40 (g : Gd S) {k : Nat} (h : Lv S k) : Cends S 40 k := cends_le (g.cn18 h) 40 (by omega)
end
end Eng
end Go.Proofs.Ygcfab
