/-
  Package build: what drop takes away, plain.
-/
import Derived.Test.YgcfabBd11
set_option linter.unusedSimpArgs false
set_option linter.unusedVariables false
set_option maxRecDepth 100000
namespace Go.Proofs.Ygcfab
namespace Eng
theorem hungF_no (S : Ed) (h i : UInt8) : ∀ f k, hungF S h i f k = none → ∀ k', k ≤ k' → k' < k + f → ¬ ((S.O k').dead = false ∧ (S.O k').elem = false ∧ (S.O k').up = Int16.ofInt (h.toNat : Int) ∧ (S.O k').via = i)
  | 0, _, _, k', h1, h2 => by omega
  | f + 1, k, e, k', h1, h2 => by
    rw [hungF] at e
    split at e
    · cases e
    · rename_i c
      by_cases hk : k' = k
      · rw [hk]; exact c
      · exact hungF_no S h i f (k + 1) e k' (by omega) (by omega)
section
variable {S : Ed} {P : Nat → Ptr} {up via dep : Nat → UInt8}
theorem hung_any {h i : UInt8} {k : Nat} (ht : Tp S k) (hu : Hs S k h.toNat) (hv : (S.O k).via = i) : (hungB S h i).2 = true := by
  unfold hungB
  cases e : hungF S h i (S.cnt - 1) 1 with
  | none => exact absurd ⟨ht.2.2.1, ht.2.2.2, hu, hv⟩ (hungF_no S h i _ _ e k ht.1 (by have := ht.2.1; omega))
  | some k' => rfl
theorem Gd.hung_slot (g : Gd S) {h i : UInt8} (hl : Lv S h.toNat) : (Eng.hungB S h i).2 = ((Eng.slotB S h i).2 && (S.A (Eng.slotB S h i).1.toNat != 0)) := by
  cases c : ((Eng.slotB S h i).2 && (S.A (Eng.slotB S h i).1.toNat != 0))
  · cases d : (Eng.hungB S h i).2
    · rfl
    · exfalso
      obtain ⟨h1, h2, h3, h4⟩ := g.hungB hl d
      have hs := g.slotB_sl hl h4
      have hr := g.res h1 h2 hl (i := (Eng.slotB S h i).1.toNat) (by rw [h3]; exact hs)
      rw [h4, Bool.true_and] at c
      exact hr.2 (by simpa using c)
  · simp only [Bool.and_eq_true, bne_iff_ne] at c
    have hs := g.slotB_sl hl c.1
    obtain ⟨k, k1, k2, k3⟩ := g.slot _ _ _ hl hs c.2
    exact hung_any k1 k2 (UInt8.toNat_inj.1 k3)
theorem Sim.lv_up (hS : Sim S P up via dep) (g : Gd S) {k : Nat} (k1 : 1 ≤ k) (hk : Lv S k) : Lv S (up k).toNat := by
  have hu := hS.up k k1 hk.1
  have hlt : (up k).toNat < 256 := (up k).toNat_lt
  have e := hs_up hu.1 hlt
  rcases g.lv_up hk with h | ⟨u, h, hl, hh⟩
  · rw [upI_nat, e] at h; omega
  · rw [upI_nat, e] at h
    rw [show (up k).toNat = u by omega]
    exact hl
theorem Gd.gone_step (g : Gd S) (hS : Sim S P up via dep) {kk k : Nat} (k1 : 1 ≤ k) (hk : Lv S k) : goneB S (kk : Nat) k = (decide (k = kk) || goneB S (kk : Nat) (up k).toNat) := by
  have hu := hS.up k k1 hk.1
  have hlu := hS.lv_up g k1 hk
  rw [Bool.eq_iff_iff, g.gone hk, Bool.or_eq_true, g.gone hlu, decide_eq_true_eq, Ab.iff, upI_nat, hs_up hu.1 (up k).toNat_lt]
  constructor
  · rintro ⟨_, h | h⟩
    · exact .inl (by omega)
    · exact .inr h
  · rintro (h | h)
    · exact ⟨by omega, .inl (by omega)⟩
    · exact ⟨by omega, .inr h⟩
theorem gone_lv (g : Gd S) {kk : Int} {k : Nat} (h : goneB S kk k = true) : Lv S k := by
  unfold goneB at h
  rw [Bool.and_eq_true] at h
  exact g.alive.1 h.1
theorem Gd.gone_zero (g : Gd S) {kk : Nat} (h1 : 1 ≤ kk) : goneB S (kk : Nat) 0 = false := by
  cases c : goneB S (kk : Nat) 0
  · rfl
  · exfalso
    rw [g.gone g.lv0, Ab.iff] at c
    have e : upI S ((0 : Nat) : Int) = -1 := up0 g
    rw [e] at c
    rcases c.2 with h | h
    · omega
    · have := ((Ab.iff kk _).1 h).1
      omega
theorem Gd.gone_ge (g : Gd S) (hS : Sim S P up via dep) {kk : Nat} (h1 : 1 ≤ kk) : ∀ n k, k < n → goneB S (kk : Nat) k = true → kk ≤ k
  | 0, k, h, _ => by omega
  | n + 1, k, h, hg => by
    have hl := gone_lv g hg
    by_cases k0 : k = 0
    · subst k0; rw [g.gone_zero h1] at hg; cases hg
    · have hu := hS.up k (by omega) hl.1
      rw [g.gone_step hS (by omega) hl, Bool.or_eq_true, decide_eq_true_eq] at hg
      rcases hg with h' | h'
      · omega
      · have := Gd.gone_ge g hS h1 n _ (by omega) h'
        omega
theorem goneB_A (A : Nat → UInt64) (h : Int) (k : Nat) : goneB { S with A := A } h k = goneB S h k := by
  unfold goneB
  rw [onN_congr (S := S) (S' := { S with A := A }) (fun _ => rfl)]
  rfl
theorem clrA_upd (gg : Nat → Bool) (a : Nat) : ∀ m i, clrA { S with A := upd S.A a 0 } gg m i = if i = a then 0 else clrA S gg m i
  | 0, i => by
    show upd S.A a 0 i = if i = a then 0 else S.A i
    rw [upd_get]
  | m + 1, i => by
    rw [clrA, clrA, clrA_upd gg a m i]
    show (if gg m = true ∧ (firstL (S.O m).p).toNat ≤ i ∧ i < (firstL (S.O m).p).toNat + (wordsL (S.O m).p).toNat then _ else _) = _
    split <;> split <;> rfl
/-- what hangs at the slot is the one live handle that says so -/
theorem Gd.drop_top (g : Gd S) (hS : Sim S P up via dep) {h i : UInt8} (hl : Lv S h.toNat) (hh : (Eng.hungB S h i).2 = true) {k : Nat} (k1 : 1 ≤ k) (hk : Lv S k) : (up k = h ∧ via k = i) ↔ k = (Eng.hungB S h i).1 := by
  obtain ⟨t1, t2, t3, t4⟩ := g.hungB hl hh
  have hu := hS.up k k1 hk.1
  constructor
  · rintro ⟨rfl, rfl⟩
    have hT : Tp S k := by
      rcases g.cases hk with h0 | ht | ⟨_, he, u, hel⟩
      · omega
      · exact ht
      · exfalso
        have e := hs_inj hel.hs hu.1 (g.c256 hel.lt) (up k).toNat_lt
        have hs := sl_kind (g.slotB_sl hl t4)
        rw [← e, hel.str] at hs
        cases hs
    exact g.inj k _ _ hT t1 hu.1 t2 hl.1 (by rw [t3, hu.2.2])
  · rintro rfl
    have e := hs_inj hu.1 t2 (up _).toNat_lt h.toNat_lt
    exact ⟨UInt8.toNat_inj.1 e, by rw [← hu.2.2, t3]⟩
end
end Eng
end Go.Proofs.Ygcfab
