/-
  Package edit: what is killed; drop.
-/
import Derived.Test.YgcfabEp9
set_option linter.unusedSimpArgs false
set_option linter.unusedVariables false
set_option maxRecDepth 100000
namespace Go.Proofs.Ygcfab
namespace Eng
section
variable {S S' : Ed}
/-- the words of a list of structs are its tag and its elements' -/
theorem Gd.cov_part (g : Gd S) {k i : Nat} (hl : Lv S k) (hc : covers (S.O k).p i) : part S k i ∨ ∃ e, Lv S e ∧ ElemOf S e k ∧ part S e i := by
  cases c : strB (S.O k).p
  · left; unfold part; rw [c, if_neg (by simp)]; exact hc
  · have ht : Tp S k := by
      rcases g.kinds hl with h | h
      · rw [st_no h] at c; cases c
      · exact h.2
    obtain ⟨i1, i2, i3, i4, i5, i6⟩ := g.ss ht c
    have hf := firstL_nat c (by omega)
    by_cases e0 : i = (firstL (S.O k).p).toNat
    · left; unfold part; rw [if_pos c]; exact e0
    · right
      unfold covers at hc
      rw [hf, i4] at hc
      rw [hf] at e0
      obtain ⟨l1, l2, l3⟩ := (listOk_iff S k _).1 (g.list k ht c)
      have hcnt : 0 < (S.O k).p.count.toNat := by
        refine Decidable.byContradiction fun h => ?_
        have : (S.O k).p.count.toNat = 0 := by omega
        rw [this, Nat.zero_mul] at hc
        omega
      have he := l2 hcnt
      generalize hE : (S.O k).p.data.toNat + (S.O k).p.ptrs.toNat = E at *
      have hj : (i - (S.O k).p.at_.toNat) / E < (S.O k).p.count.toNat := by
        rw [Nat.div_lt_iff_lt_mul he]; omega
      have hdm := Nat.div_add_mod (i - (S.O k).p.at_.toNat) E
      have hml := Nat.mod_lt (i - (S.O k).p.at_.toNat) he
      generalize (i - (S.O k).p.at_.toNat) / E = j at *
      obtain ⟨a1, a2, a3, a4, a5⟩ := l3 j hj
      have hle : Lv S (k + 1 + j) := ⟨by omega, a1⟩
      obtain ⟨u, hu⟩ := g.elem (k + 1 + j) (by omega) hle a2
      have hup := hu.up
      rw [a3] at hup
      have e1 : u = k := by omega
      subst e1
      refine ⟨u + 1 + j, hle, hu, ?_⟩
      obtain ⟨b1, b2, b3, b4, b5, b6⟩ := g.er hu
      obtain ⟨q1, q2, q3, q4, q5, q6⟩ := g.st hle b1
      have hv : (S.O (u + 1 + j)).via.toNat = j := by have := hu.at_; omega
      rw [hv, hE] at b4
      unfold part covers
      rw [q6, if_neg (by simp), q5, q4, b2, b3, hE, b4]
      rw [Nat.mul_comm] at hdm
      omega
theorem onN_congr (h : ∀ u, upI S' u = upI S u) (k : Int) : ∀ (n : Nat) (u : Int), onN S' k n u = onN S k n u
  | 0, _ => rfl
  | n + 1, u => by rw [onN_s, onN_s, h, onN_congr h k n]
/-- roots that hang from P -/
structure Roots (S : Ed) (P : Nat) (R : Nat → Prop) : Prop where
  lv : Lv S P
  r : ∀ c, R c → Lv S c ∧ Hs S c P
def Dn (S : Ed) (R : Nat → Prop) (k : Nat) : Prop := Lv S k ∧ ∃ c, R c ∧ Ab S c (k : Int)
section
variable {P : Nat} {R : Nat → Prop}
theorem Dn.pos (g : Gd S) (hR : Roots S P R) {k : Nat} (h : Dn S R k) : 1 ≤ k := by
  obtain ⟨_, c, hc, ha⟩ := h
  by_cases k0 : k = 0
  · subst k0
    obtain ⟨_, a⟩ := (Ab.iff c _).1 ha
    have hh := (hR.r c hc).2
    rcases a with a | a
    · have e : c = 0 := by omega
      subst e
      exact absurd (by rw [g.first]; rfl) (hs_ne hh (g.c256 hR.lv.1))
    · rw [show ((0 : Nat) : Int) = 0 from rfl, up0 g] at a
      have := ((Ab.iff c _).1 a).1
      omega
  · omega
theorem Dn.down (g : Gd S) {k u : Nat} (hk : Lv S k) (hu : Hs S k u) (hl : Lv S u) (h : Dn S R u) : Dn S R k := by
  obtain ⟨_, c, hc, ha⟩ := h
  refine ⟨hk, c, hc, (Ab.iff c _).2 ⟨by omega, .inr ?_⟩⟩
  rw [upI_nat, hs_up hu (g.c256 hl.1)]
  exact ha
theorem Dn.noP (g : Gd S) (hR : Roots S P R) : ¬ Dn S R P := by
  rintro ⟨_, c, hc, ha⟩
  exact g.hs_no (hR.r c hc).2 hR.lv.1 (hR.r c hc).1 ha
theorem Dn.root (g : Gd S) {k : Nat} (h : Dn S R k) : R k ∨ ∃ u, Hs S k u ∧ Lv S u ∧ Dn S R u := by
  obtain ⟨hl, c, hc, ha⟩ := h
  obtain ⟨_, a⟩ := (Ab.iff c _).1 ha
  rcases a with a | a
  · left
    have e : k = c := by omega
    rw [e]; exact hc
  · right
    rcases g.lv_up hl with e | ⟨u, e, hlu, hu⟩
    · rw [e] at a
      have := ((Ab.iff c _).1 a).1
      omega
    · rw [e] at a
      exact ⟨u, hu, hlu, hlu, c, hc, a⟩
theorem Dn.part (g : Gd S) {m k i : Nat} (hm : Lv S m) (hmD : ¬ Dn S R m) (hp : part S m i) (hk : Dn S R k) (hc : covers (S.O k).p i) : False := by
  rcases g.cov_part hk.1 hc with h | ⟨e, hle, hel, h⟩
  · have e := g.pinj hm hk.1 hp h
    subst e; exact hmD hk
  · have e' := g.pinj hm hle hp h
    subst e'
    exact hmD (Dn.down g hm hel.hs hk.1 hk)
end
/-- some handles of S are dead in S' and their words wiped -/
structure KS (S : Ed) (D : Nat → Prop) (A0 : Nat → UInt64) (S' : Ed) : Prop where
  len : S'.len = S.len
  cnt : S'.cnt = S.cnt
  p : ∀ k, (S'.O k).p = (S.O k).p
  up : ∀ k, (S'.O k).up = (S.O k).up
  via : ∀ k, (S'.O k).via = (S.O k).via
  elem : ∀ k, (S'.O k).elem = (S.O k).elem
  dead : ∀ k, k < S.cnt → ((S'.O k).dead = false ↔ (S.O k).dead = false ∧ ¬ D k)
  zero : ∀ i k, Lv S k → D k → covers (S.O k).p i → S'.A i = 0
  keep : ∀ i, (∀ k, Lv S k → D k → ¬ covers (S.O k).p i) → S'.A i = A0 i
theorem clr_yes {gg : Nat → Bool} {i : Nat} : ∀ (m k : Nat), k < m → gg k = true → covers (S.O k).p i → clrA S gg m i = 0
  | 0, k, h, _, _ => by omega
  | m + 1, k, h, hg, hc => by
    rw [clrA]
    by_cases c : gg m = true ∧ (firstL (S.O m).p).toNat ≤ i ∧ i < (firstL (S.O m).p).toNat + (wordsL (S.O m).p).toNat
    · rw [if_pos c]
    · rw [if_neg c]
      have : k ≠ m := by
        rintro rfl
        exact c ⟨hg, hc⟩
      exact clr_yes m k (by omega) hg hc
theorem clr_no {gg : Nat → Bool} {i : Nat} : ∀ (m : Nat), (∀ k, k < m → gg k = true → ¬ covers (S.O k).p i) → clrA S gg m i = S.A i
  | 0, _ => rfl
  | m + 1, h => by
    rw [clrA, if_neg (fun c => h m (by omega) c.1 c.2)]
    exact clr_no m (fun k hk => h k (by omega))
theorem KS.kill (g : Gd S) {D : Nat → Prop} {A0 : Nat → UInt64} {Sm : Ed} (h : KS S D A0 Sm) (c : Nat) : KS S (fun k => D k ∨ (Lv S k ∧ Ab S c (k : Int))) A0 (killE Sm (c : Nat)) := by
  have hup : ∀ u, upI Sm u = upI S u := by intro u; unfold upI; rw [h.up]
  have hgone : ∀ k, k < S.cnt → (goneB Sm (c : Nat) k = true ↔ (S.O k).dead = false ∧ ¬ D k ∧ Ab S c (k : Int)) := by
    intro k hk
    unfold goneB
    rw [Bool.and_eq_true, aliveB_iff, Int.toNat_natCast, onN_congr hup, h.cnt, h.dead k hk]
    constructor
    · rintro ⟨⟨_, _, h1, h2⟩, h3⟩
      exact ⟨h1, h2, (Ab.on (g.c40 ⟨hk, h1⟩)).1 h3⟩
    · rintro ⟨h1, h2, h3⟩
      exact ⟨⟨by omega, by omega, h1, h2⟩, (Ab.on (g.c40 ⟨hk, h1⟩)).2 h3⟩
  have hO : ∀ k, (killE Sm (c : Nat)).O k = if k < Sm.cnt ∧ goneB Sm (c : Nat) k = true then { Sm.O k with dead := true } else Sm.O k := fun k => rfl
  have hA : ∀ i, (killE Sm (c : Nat)).A i = clrA Sm (goneB Sm (c : Nat)) Sm.cnt i := fun i => rfl
  refine ⟨h.len, h.cnt, ?_, ?_, ?_, ?_, ?_, ?_, ?_⟩
  · intro k; rw [hO]; split <;> exact h.p k
  · intro k; rw [hO]; split <;> exact h.up k
  · intro k; rw [hO]; split <;> exact h.via k
  · intro k; rw [hO]; split <;> exact h.elem k
  · intro k hk
    rw [hO]
    by_cases cc : k < Sm.cnt ∧ goneB Sm (c : Nat) k = true
    · rw [if_pos cc]
      have := (hgone k hk).1 cc.2
      constructor
      · intro h'; cases h'
      · rintro ⟨h1, h2⟩
        exact absurd (.inr ⟨⟨hk, h1⟩, this.2.2⟩) h2
    · rw [if_neg cc, h.dead k hk]
      constructor
      · rintro ⟨h1, h2⟩
        refine ⟨h1, ?_⟩
        rintro (h3 | ⟨_, h3⟩)
        · exact h2 h3
        · exact cc ⟨by rw [h.cnt]; exact hk, (hgone k hk).2 ⟨h1, h2, h3⟩⟩
      · rintro ⟨h1, h2⟩
        exact ⟨h1, fun h3 => h2 (.inl h3)⟩
  · intro i k hl hD hc
    rw [hA]
    by_cases hDk : D k
    · by_cases ex : ∃ k', k' < Sm.cnt ∧ goneB Sm (c : Nat) k' = true ∧ covers (Sm.O k').p i
      · obtain ⟨k', e1, e2, e3⟩ := ex
        exact clr_yes _ k' e1 e2 e3
      · rw [clr_no _ (fun k' e1 e2 e3 => ex ⟨k', e1, e2, e3⟩)]
        exact h.zero i k hl hDk hc
    · rcases hD with hD | ⟨_, ha⟩
      · exact absurd hD hDk
      · exact clr_yes _ k (by rw [h.cnt]; exact hl.1) ((hgone k hl.1).2 ⟨hl.2, hDk, ha⟩) (by rw [h.p]; exact hc)
  · intro i hno
    rw [hA, clr_no]
    · exact h.keep i (fun k hl hD => hno k hl (.inl hD))
    · intro k hk hg hc
      rw [h.cnt] at hk
      obtain ⟨h1, h2, h3⟩ := (hgone k hk).1 hg
      rw [h.p] at hc
      exact hno k ⟨hk, h1⟩ (.inr ⟨⟨hk, h1⟩, h3⟩) hc
theorem KS.congr {D D' : Nat → Prop} {A0 : Nat → UInt64} (h : KS S D A0 S') (hd : ∀ k, Lv S k → (D k ↔ D' k)) : KS S D' A0 S' := by
  refine ⟨h.len, h.cnt, h.p, h.up, h.via, h.elem, ?_, ?_, ?_⟩
  · intro k hk
    rw [h.dead k hk]
    constructor
    · rintro ⟨h1, h2⟩; exact ⟨h1, fun h3 => h2 ((hd k ⟨hk, h1⟩).2 h3)⟩
    · rintro ⟨h1, h2⟩; exact ⟨h1, fun h3 => h2 ((hd k ⟨hk, h1⟩).1 h3)⟩
  · exact fun i k hl hD hc => h.zero i k hl ((hd k hl).2 hD) hc
  · exact fun i hno => h.keep i (fun k hl hD => hno k hl ((hd k hl).1 hD))
/-- what is left when some handles are dead -/
structure Cut (S S' : Ed) (D : Nat → Prop) : Prop where
  cnt : S'.cnt = S.cnt
  len : 1 ≤ S'.len ∧ S'.len ≤ S.len
  up : ∀ k, (S'.O k).up = (S.O k).up
  via : ∀ k, (S'.O k).via = (S.O k).via
  el : ∀ k, (S'.O k).elem = (S.O k).elem
  dead : ∀ k, k < S.cnt → ((S'.O k).dead = false ↔ (S.O k).dead = false ∧ ¬ D k)
  zero : S'.O 0 = S.O 0
  down : ∀ k u, Lv S k → Hs S k u → Lv S u → D u → D k
  inside : ∀ k, Tp S k → ¬ D k → insideL S'.len (S'.O k).p = true
  kind : ∀ k, Tp S k → ¬ D k → kindOk (S'.O k).p = true
  orph : ∀ k, Tp S k → ¬ D k → (S.O k).up = -1 → orphB (S'.O k) = true
  cov : ∀ k i, Tp S k → ¬ D k → covers (S'.O k).p i → covers (S.O k).p i
  elem : ∀ k u, ElemOf S k u → Lv S k → ¬ D k → ElemOf S' k u
  list : ∀ k, Tp S k → ¬ D k → strB (S'.O k).p = true → listOk S' k (S'.O k).p = true
  whole : ∀ k, Tp S k → ¬ D k → wholeB S' (S'.O k).p = true
  hang : ∀ k u i, Tp S k → ¬ D k → Hs S k u → Lv S u → ¬ D u → Sl (S.O u).p (S.O k).via.toNat i → Sl (S'.O u).p (S.O k).via.toNat i ∧ S'.A i = pointerL (UInt16.ofNat i) (S'.O k).p ∧ (wlessB (S'.O k).p = true → (S'.O k).p.at_.toNat = i)
  own : ∀ i, i < S'.len → S'.A i ≠ 0 → i = 0 ∨ ∃ k, Tp S k ∧ ¬ D k ∧ covers (S'.O k).p i
  slot : ∀ i h v, Lv S h → ¬ D h → Sl (S'.O h).p v i → S'.A i ≠ 0 → ∃ k, Tp S k ∧ ¬ D k ∧ Hs S k h ∧ (S.O k).via.toNat = v
theorem Gd.cut (g : Gd S) {D : Nat → Prop} (c : Cut S S' D) : Gd S' := by
  have hc := c.cnt
  have lv : ∀ k, Lv S' k ↔ Lv S k ∧ ¬ D k := by
    intro k
    unfold Lv
    rw [hc]
    constructor
    · rintro ⟨h1, h2⟩
      have := (c.dead k h1).1 h2
      exact ⟨⟨h1, this.1⟩, this.2⟩
    · rintro ⟨⟨h1, h2⟩, h3⟩
      exact ⟨h1, (c.dead k h1).2 ⟨h2, h3⟩⟩
  have tp : ∀ k, Tp S' k ↔ Tp S k ∧ ¬ D k := by
    intro k
    constructor
    · intro h
      have := (lv k).1 h.lv
      exact ⟨⟨h.1, this.1.1, this.1.2, by rw [← c.el k]; exact h.2.2.2⟩, this.2⟩
    · rintro ⟨h1, h2⟩
      have := (lv k).2 ⟨h1.lv, h2⟩
      exact ⟨h1.1, this.1, this.2, by rw [c.el k]; exact h1.2.2.2⟩
  have hs : ∀ k u, Hs S' k u ↔ Hs S k u := by intro k u; unfold Hs; rw [c.up]
  have hupD : ∀ k u, Tp S k → ¬ D k → Hs S k u → u < S.cnt → Lv S u ∧ ¬ D u := by
    intro k u ht hD hu hlt
    obtain ⟨u', hu', hl'⟩ := g.up_cases ht (hs_ne hu (g.c256 hlt))
    have e := hs_inj hu hu' (g.c256 hlt) (g.c256 hl'.1)
    subst e
    exact ⟨hl', fun h => hD (c.down k u ht.lv hu hl' h)⟩
  refine ⟨⟨c.len.1, by have := c.len.2; have := g.len.2; omega⟩, by rw [hc]; exact g.cnt, by rw [c.zero]; exact g.first, ?_, ?_, ?_, ?_, ?_, ?_, ?_, ?_, ?_, ?_, ?_, ?_, ?_⟩
  · intro k ht
    obtain ⟨h1, h2⟩ := (tp k).1 ht
    exact c.inside k h1 h2
  · intro k ht
    obtain ⟨h1, h2⟩ := (tp k).1 ht
    exact c.kind k h1 h2
  · intro k ht
    obtain ⟨h1, h2⟩ := (tp k).1 ht
    rcases g.up k h1 with e | ⟨u, hu, hl⟩
    · left; rw [c.up]; exact e
    · exact .inr ⟨u, (hs k u).2 hu, (lv u).2 (hupD k u h1 h2 hu hl.1)⟩
  · intro k k' i ht ht' hc1 hc2
    obtain ⟨h1, h2⟩ := (tp k).1 ht
    obtain ⟨h3, h4⟩ := (tp k').1 ht'
    exact g.apart k k' i h1 h3 (c.cov k i h1 h2 hc1) (c.cov k' i h3 h4 hc2)
  · intro k hk hl he
    obtain ⟨h1, h2⟩ := (lv k).1 hl
    obtain ⟨u, hu⟩ := g.elem k hk h1 (by rw [← c.el k]; exact he)
    exact ⟨u, c.elem k u hu h1 h2⟩
  · intro k ht hst
    obtain ⟨h1, h2⟩ := (tp k).1 ht
    exact c.list k h1 h2 hst
  · intro k ht
    obtain ⟨h1, h2⟩ := (tp k).1 ht
    exact c.whole k h1 h2
  · intro k ht hu
    obtain ⟨h1, h2⟩ := (tp k).1 ht
    exact c.orph k h1 h2 (by rw [← c.up]; exact hu)
  · intro k u ht hu hlt
    obtain ⟨h1, h2⟩ := (tp k).1 ht
    have hu' := (hs k u).1 hu
    rw [hc] at hlt
    obtain ⟨h3, h4⟩ := hupD k u h1 h2 hu' hlt
    obtain ⟨i, j1, _⟩ := g.hang k u h1 hu' hlt
    obtain ⟨k1, k2, k3⟩ := c.hang k u i h1 h2 hu' h3 h4 j1
    exact ⟨i, by rw [c.via]; exact k1, k2, k3⟩
  · intro k k' u ht ht' hu hu' hlt hv
    obtain ⟨h1, h2⟩ := (tp k).1 ht
    obtain ⟨h3, h4⟩ := (tp k').1 ht'
    exact g.inj k k' u h1 h3 ((hs k u).1 hu) ((hs k' u).1 hu') (by omega) (by rw [← c.via, ← c.via]; exact hv)
  · intro k ht
    obtain ⟨h1, h2⟩ := (tp k).1 ht
    obtain ⟨n, e1, e2⟩ := g.shal k h1
    obtain ⟨i1, i2⟩ := chain_congr (S := S) (S' := S') (by omega) (fun k _ => ⟨c.up k, c.el k⟩) n _ e1
    exact ⟨n, i1, by rw [i2]; exact e2⟩
  · intro i hi h0
    rcases c.own i hi h0 with e | ⟨k, h1, h2, h3⟩
    · exact .inl e
    · exact .inr ⟨k, (tp k).2 ⟨h1, h2⟩, h3⟩
  · intro i h v hl hsl h0
    obtain ⟨h1, h2⟩ := (lv h).1 hl
    obtain ⟨k, a1, a2, a3, a4⟩ := c.slot i h v h1 h2 hsl h0
    exact ⟨k, (tp k).2 ⟨a1, a2⟩, (hs k h).2 a3, by rw [c.via]; exact a4⟩
/-- the elements of a list that lives live, but for roots -/
theorem Gd.drop (g : Gd S) (op : OpR) (hl : Lv S op.h.toNat) : Gd (dropE S op).2 := by
  unfold dropE
  split
  · exact g
  rename_i hh
  rw [Bool.not_eq_false] at hh
  obtain ⟨hx, hu, hv, hsb⟩ := g.hungB hl hh
  have hsl := g.slotB_sl hl hsb
  generalize (Eng.hungB S op.h op.i).1 = x at *
  generalize (Eng.slotB S op.h op.i).1.toNat = s at *
  generalize op.h.toNat = h at *
  have hR : Roots S h (fun c => c = x) := ⟨hl, by rintro c rfl; exact ⟨hx.lv, hu⟩⟩
  have k0 : KS S (fun _ => False) (upd S.A s 0) { S with A := upd S.A s 0 } :=
    ⟨rfl, rfl, fun _ => rfl, fun _ => rfl, fun _ => rfl, fun _ => rfl, fun k hk => ⟨fun h => ⟨h, fun h => h⟩, fun h => h.1⟩, fun _ _ _ h _ => h.elim, fun _ _ => rfl⟩
  have k1 := (k0.kill g x).congr (D' := Dn S (fun c => c = x)) (by
    intro k hk
    constructor
    · rintro (h | ⟨_, h⟩)
      · exact h.elim
      · exact ⟨hk, x, rfl, h⟩
    · rintro ⟨_, c, rfl, h⟩
      exact .inr ⟨hk, h⟩)
  show Gd (killE { S with A := upd S.A s 0 } (x : Nat))
  generalize killE { S with A := upd S.A s 0 } (x : Nat) = S' at *
  have hxD : Dn S (fun c => c = x) x := ⟨hx.lv, x, rfl, Ab.refl x⟩
  have hhD : ¬ Dn S (fun c => c = x) h := Dn.noP g hR
  generalize hDD : Dn S (fun c => c = x) = D at *
  have hdown : ∀ k u, Lv S k → Hs S k u → Lv S u → D u → D k := by
    intro k u a b c d; rw [← hDD] at d ⊢; exact Dn.down g a b c d
  have hroot : ∀ k, D k → k = x ∨ ∃ u, Hs S k u ∧ Lv S u ∧ D u := by
    intro k hk; rw [← hDD] at hk ⊢; exact Dn.root g hk
  have hpart : ∀ m i, Lv S m → ¬ D m → part S m i → S'.A i = upd S.A s 0 i := by
    intro m i a b c
    refine k1.keep i (fun k hk hD hcov => ?_)
    rw [← hDD] at b hD
    exact Dn.part g a b c hD hcov
  have hpos : ∀ k, D k → 1 ≤ k := by intro k hk; rw [← hDD] at hk; exact Dn.pos g hR hk
  have hsA : S'.A s = 0 := by rw [hpart h s hl hhD (g.sl hl hsl).2.1, upd_same]
  have hOeq : ∀ k, k < S.cnt → ¬ D k → S'.O k = S.O k := by
    intro k hk hD
    have h1 := k1.p k
    have h2 := k1.up k
    have h3 := k1.via k
    have h4 := k1.elem k
    have h5 : (S'.O k).dead = (S.O k).dead := by
      have := k1.dead k hk
      cases c : (S.O k).dead
      · exact this.2 ⟨c, hD⟩
      · cases c' : (S'.O k).dead
        · have := (this.1 c').1; rw [c] at this; cases this
        · rfl
    generalize S'.O k = a at *
    generalize S.O k = b at *
    cases a
    cases b
    simp only at h1 h2 h3 h4 h5
    subst h1 h2 h3 h4 h5
    rfl
  have hne : ∀ i, S'.A i ≠ 0 → S.A i ≠ 0 ∧ i ≠ s ∧ ∀ k, Lv S k → D k → ¬ covers (S.O k).p i := by
    intro i h0
    have hno : ∀ k, Lv S k → D k → ¬ covers (S.O k).p i := fun k a b c => h0 (k1.zero i k a b c)
    have his : i ≠ s := by rintro rfl; exact h0 hsA
    rw [k1.keep i hno, upd_ne _ _ _ _ his] at h0
    exact ⟨h0, his, hno⟩
  refine g.cut (D := D) ⟨k1.cnt, by rw [k1.len]; exact ⟨g.len.1, Nat.le_refl _⟩, k1.up, k1.via, k1.elem, k1.dead, hOeq 0 (by have := g.cnt.1; omega) (fun hD => by have := hpos 0 hD; omega), hdown, ?_, ?_, ?_, ?_, ?_, ?_, ?_, ?_, ?_, ?_⟩
  · intro k ht hD; rw [k1.len, k1.p]; exact g.inside k ht
  · intro k ht hD; rw [k1.p]; exact g.kind k ht
  · intro k ht hD hup; rw [hOeq k ht.2.1 hD]; exact g.orph k ht hup
  · intro k i ht hD hc; rw [k1.p] at hc; exact hc
  · intro k u hel hk hD
    have huD : ¬ D u := fun h => hD (hdown k u hk hel.hs hel.tp.lv h)
    exact hel.congr (by rw [k1.cnt]; exact Nat.le_refl _) (hOeq k hk.1 hD) (hOeq u hel.lt huD)
  · intro k ht hD hst
    rw [k1.p] at hst ⊢
    have h1 := g.list k ht hst
    have h2 := (listOk_iff S k _).1 h1
    refine listOk.congr h1 (by rw [k1.cnt]; exact Nat.le_refl _) (fun j hj => hOeq _ (by omega) ?_)
    intro hDe
    obtain ⟨b1, b2, b3, _⟩ := h2.2.2 j hj
    rcases hroot _ hDe with e | ⟨u, hu', hlu, hDu⟩
    · rw [e, hx.2.2.2] at b2; cases b2
    · have := hs_up hu' (g.c256 hlu.1)
      rw [b3] at this
      have e : u = k := by omega
      subst e
      exact hD hDu
  · intro k ht hD
    rw [k1.p]
    refine g.keep ht (by rw [k1.len]; exact g.len.2) (by rw [k1.len]; exact g.inside k ht) (fun i hi hnv => ?_)
    rw [hpart k i ht.lv hD hi, upd_ne]
    rintro rfl
    have e := g.pinj ht.lv hl hi (g.sl hl hsl).2.1
    subst e
    exact hnv _ hsl
  · intro k u i ht hD hku hlu huD hsi
    obtain ⟨i', j1, j2, j3⟩ := g.hang k u ht hku hlu.1
    have e := sl_fun hsi j1
    subst e
    rw [k1.p, k1.p]
    refine ⟨j1, ?_, j3⟩
    rw [hpart u i hlu huD (g.sl hlu hsi).2.1, upd_ne, j2]
    rintro rfl
    obtain ⟨e1, e2⟩ := g.sl_two hlu hl hsi hsl
    subst e1
    rw [← hv] at e2
    have := g.inj k x u ht hx hku hu hlu.1 (UInt8.toNat_inj.1 e2)
    subst this
    exact hD hxD
  · intro i hi h0
    obtain ⟨a1, a2, a3⟩ := hne i h0
    rw [k1.len] at hi
    rcases g.own i hi a1 with e | ⟨k, ht, hc⟩
    · exact .inl e
    · exact .inr ⟨k, ht, fun hD => a3 k ht.lv hD hc, by rw [k1.p]; exact hc⟩
  · intro i h' v hl' hD' hsi h0
    obtain ⟨a1, a2, a3⟩ := hne i h0
    rw [k1.p] at hsi
    obtain ⟨k, ht, hk, hkv⟩ := g.slot i h' v hl' hsi a1
    refine ⟨k, ht, fun hD => ?_, hk, hkv⟩
    rcases hroot k hD with e | ⟨u, hu', hlu, hDu⟩
    · subst e
      have e1 := hs_inj hk hu (g.c256 hl'.1) (g.c256 hl.1)
      subst e1
      rw [← hkv, hv] at hsi
      exact a2 (sl_fun hsi hsl)
    · have e1 := hs_inj hk hu' (g.c256 hl'.1) (g.c256 hlu.1)
      subst e1
      exact hD' hDu
end
end Eng
end Go.Proofs.Ygcfab
