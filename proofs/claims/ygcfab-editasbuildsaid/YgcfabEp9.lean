/-
  Package edit: an object is taken off, or hung elsewhere.
-/
import Derived.Test.YgcfabEp8
set_option linter.unusedSimpArgs false
set_option linter.unusedVariables false
set_option maxRecDepth 100000
namespace Go.Proofs.Ygcfab
namespace Eng
section
variable {S S' : Ed}
structure Relk (S S' : Ed) (x s : Nat) : Prop where
  cnt : S'.cnt = S.cnt
  len : S'.len = S.len
  old : ∀ m, m ≠ x → S'.O m = S.O m
  dead : (S'.O x).dead = false
  elem : (S'.O x).elem = false
  p : (S'.O x).p = (S.O x).p ∨ (wlessB (S.O x).p = true ∧ ∃ a : UInt16, a.toNat ≤ S.len ∧ (S'.O x).p = { (S.O x).p with at_ := a })
  A : ∀ i, i ≠ s → S'.A i = S.A i
  slot : ∃ h v, Lv S h ∧ Sl (S.O h).p v s
theorem sl_wless {p : Ptr} {v i : Nat} (hw : wlessB p = true) (h : Sl p v i) : False := by
  obtain ⟨w1, w2, w3, w4⟩ := wless_words hw
  rcases h with ⟨_, h, _⟩ | ⟨h, _⟩
  · rw [w3] at h; exact absurd h (Nat.not_lt_zero _)
  · rw [w2] at h; exact absurd h (by decide)
theorem cov_wless {p : Ptr} {i : Nat} (hw : wlessB p = true) (h : covers p i) : False := by
  have := (wless_words hw).1
  unfold covers at h
  omega
theorem Relk.lv {x s : Nat} (r : Relk S S' x s) (hx : Tp S x) (m : Nat) : Lv S' m ↔ Lv S m := by
  unfold Lv
  rw [r.cnt]
  by_cases e : m = x
  · subst e; rw [r.dead, hx.2.2.1]
  · rw [r.old m e]
theorem Relk.tp {x s : Nat} (r : Relk S S' x s) (hx : Tp S x) (m : Nat) : Tp S' m ↔ Tp S m := by
  unfold Tp top
  rw [r.cnt]
  by_cases e : m = x
  · subst e; rw [r.dead, hx.2.2.1, r.elem, hx.2.2.2]
  · rw [r.old m e]
theorem Relk.sl {x s : Nat} (r : Relk S S' x s) (m v i : Nat) : Sl (S'.O m).p v i ↔ Sl (S.O m).p v i := by
  by_cases e : m = x
  · subst e
    rcases r.p with h | ⟨hw, a, _, h⟩
    · rw [h]
    · rw [h]
      exact ⟨fun h => (sl_wless (by rw [wless_at]; exact hw) h).elim, fun h => (sl_wless hw h).elim⟩
  · rw [r.old m e]
theorem Relk.cov {x s : Nat} (r : Relk S S' x s) (m i : Nat) : covers (S'.O m).p i ↔ covers (S.O m).p i := by
  by_cases e : m = x
  · subst e
    rcases r.p with h | ⟨hw, a, _, h⟩
    · rw [h]
    · rw [h]
      exact ⟨fun h => (cov_wless (by rw [wless_at]; exact hw) h).elim, fun h => (cov_wless hw h).elim⟩
  · rw [r.old m e]
theorem wless_str {p : Ptr} (h : wlessB p = true) : strB p = false := st_no (wless_words h).2.1
theorem Relk.str {x s : Nat} (r : Relk S S' x s) {m : Nat} (h : strB (S'.O m).p = true) : (S'.O m).p = (S.O m).p := by
  by_cases e : m = x
  · subst e
    rcases r.p with h' | ⟨hw, a, _, h'⟩
    · exact h'
    · rw [h', wless_str (by rw [wless_at]; exact hw)] at h; cases h
  · rw [r.old m e]
theorem Relk.str' {x s : Nat} (r : Relk S S' x s) {m : Nat} (h : strB (S.O m).p = true) : (S'.O m).p = (S.O m).p := by
  by_cases e : m = x
  · subst e
    rcases r.p with h' | ⟨hw, a, _, h'⟩
    · exact h'
    · rw [wless_str hw] at h; cases h
  · rw [r.old m e]
theorem Gd.rel (g : Gd S) {x s : Nat} (hx : Tp S x) (r : Relk S S' x s)
    (hup : ∀ k, Tp S k → (S'.O k).up = -1 ∨ ∃ u, Hs S' k u ∧ Lv S u)
    (horph : (S'.O x).up = -1 → orphB (S'.O x) = true)
    (hhang : ∀ k u, Tp S k → Hs S' k u → u < S.cnt → ∃ i, Sl (S.O u).p (S'.O k).via.toNat i ∧ S'.A i = pointerL (UInt16.ofNat i) (S'.O k).p ∧ (wlessB (S'.O k).p = true → (S'.O k).p.at_.toNat = i))
    (hinj : ∀ k k' u, Tp S k → Tp S k' → Hs S' k u → Hs S' k' u → u < S.cnt → (S'.O k).via = (S'.O k').via → k = k')
    (hshal : ∀ k, Tp S k → ∃ n, Ends S' n k ∧ depN S' n k ≤ 8)
    (hslot : ∀ i h v, Lv S h → Sl (S.O h).p v i → S'.A i ≠ 0 → ∃ k, Tp S k ∧ Hs S' k h ∧ (S'.O k).via.toNat = v) : Gd S' := by
  have hcnt := r.cnt
  have hlen := r.len
  refine ⟨by rw [hlen]; exact g.len, by rw [hcnt]; exact g.cnt, by rw [r.old 0 (by have := hx.1; omega)]; exact g.first, ?_, ?_, ?_, ?_, ?_, ?_, ?_, ?_, ?_, ?_, ?_, ?_, ?_⟩
  · intro k ht
    have ht' := (r.tp hx k).1 ht
    rw [hlen]
    by_cases e : k = x
    · subst e
      rcases r.p with h | ⟨hw, a, ha, h⟩
      · rw [h]; exact g.inside k ht'
      · rw [h, inside_iff _ _ g.len.2]
        have h3 := wless_str hw
        refine ⟨.inl (wless_words hw).2.1, ?_⟩
        rw [if_neg (fun h => by rw [← strB_at _ a, (strB_iff _).2 h] at h3; cases h3), words_at, (wless_words hw).1]
        exact ⟨ha, .inl rfl⟩
    · rw [r.old k e]; exact g.inside k ht'
  · intro k ht
    have ht' := (r.tp hx k).1 ht
    by_cases e : k = x
    · subst e
      rcases r.p with h | ⟨hw, a, ha, h⟩
      · rw [h]; exact g.kind k ht'
      · rw [h]; exact g.kind k ht'
    · rw [r.old k e]; exact g.kind k ht'
  · intro k ht
    rcases hup k ((r.tp hx k).1 ht) with h | ⟨u, hu, hl⟩
    · exact .inl h
    · exact .inr ⟨u, hu, (r.lv hx u).2 hl⟩
  · intro k k' i ht ht' hc hc'
    exact g.apart k k' i ((r.tp hx k).1 ht) ((r.tp hx k').1 ht') ((r.cov k i).1 hc) ((r.cov k' i).1 hc')
  · intro k hk hl he
    have hne : k ≠ x := by rintro rfl; rw [r.elem] at he; cases he
    obtain ⟨u, hu⟩ := g.elem k hk ((r.lv hx k).1 hl) (by rw [← r.old k hne]; exact he)
    have hp := r.str' hu.str
    have ht := (r.tp hx u).2 hu.tp
    exact ⟨u, by rw [r.old k hne]; exact hu.up, hu.pos, ht.2.1, ht.2.2.1, ht.2.2.2, by rw [hp]; exact hu.str, by rw [r.old k hne, hp]; exact hu.via, by rw [r.old k hne]; exact hu.at_, by rw [r.old k hne, hp]; exact hu.p⟩
  · intro k ht hs
    have ht' := (r.tp hx k).1 ht
    have hpe := r.str hs
    rw [hpe] at hs ⊢
    have h1 := g.list k ht' hs
    have h2 := (listOk_iff S k _).1 h1
    refine listOk.congr h1 (by omega) (fun j hj => r.old _ ?_)
    intro e
    have := (h2.2.2 j hj).2.1
    rw [e, hx.2.2.2] at this
    cases this
  · intro k ht
    have ht' := (r.tp hx k).1 ht
    have key : (S'.O k).p = (S.O k).p → wholeB S' (S'.O k).p = true := by
      intro e
      rw [e]
      refine g.keep ht' (by rw [hlen]; exact g.len.2) (by rw [hlen]; exact g.inside k ht') (fun i hi hv => ?_)
      refine r.A i ?_
      rintro rfl
      obtain ⟨h, v, b1, b2⟩ := r.slot
      have e2 := g.pinj ht'.lv b1 hi (g.sl b1 b2).2.1
      subst e2
      exact hv _ b2
    by_cases e : k = x
    · subst e
      rcases r.p with h | ⟨hw, a, ha, h⟩
      · exact key h
      · rw [h]
        unfold wholeB
        rw [show ({ (S.O k).p with at_ := a } : Ptr).kind = 1 from (wless_words hw).2.1]
        rfl
    · exact key (by rw [r.old k e])
  · intro k ht hu
    by_cases e : k = x
    · subst e; exact horph hu
    · rw [r.old k e] at hu ⊢; exact g.orph k ((r.tp hx k).1 ht) hu
  · intro k u ht hu hc
    obtain ⟨i, h1, h2, h3⟩ := hhang k u ((r.tp hx k).1 ht) hu (by omega)
    exact ⟨i, (r.sl u _ i).2 h1, h2, h3⟩
  · intro k k' u ht ht' hu hu' hc hv
    exact hinj k k' u ((r.tp hx k).1 ht) ((r.tp hx k').1 ht') hu hu' (by omega) hv
  · exact fun k ht => hshal k ((r.tp hx k).1 ht)
  · intro i hi h0
    by_cases e : i = s
    · subst e
      obtain ⟨h, v, b1, b2⟩ := r.slot
      rcases g.pcases b1 (g.sl b1 b2).2.1 with ⟨_, h⟩ | ⟨ht, hc⟩ | ⟨u, hu, hc, _⟩
      · exact .inl h
      · exact .inr ⟨_, (r.tp hx _).2 ht, (r.cov _ _).2 hc⟩
      · exact .inr ⟨u, (r.tp hx u).2 hu.tp, (r.cov _ _).2 hc⟩
    · rw [r.A i e] at h0
      rcases g.own i (by omega) h0 with e | ⟨k, ht, hc⟩
      · exact .inl e
      · exact .inr ⟨k, (r.tp hx k).2 ht, (r.cov _ _).2 hc⟩
  · intro i h v hl hs h0
    obtain ⟨k, h1, h2, h3⟩ := hslot i h v ((r.lv hx h).1 hl) ((r.sl h v i).1 hs) h0
    exact ⟨k, (r.tp hx k).2 h1, h2, h3⟩
theorem chain_cut {x : Nat} (hc : S'.cnt = S.cnt) (hu : (S'.O x).up = -1) (he : (S'.O x).elem = (S.O x).elem) (ho : ∀ m, m ≠ x → S'.O m = S.O m) : ∀ (n : Nat) (h : Int), Ends S n h → Ends S' n h ∧ depN S' n h ≤ depN S n h
  | 0, h, e => ⟨e, Nat.le_refl _⟩
  | n + 1, h, e => by
    by_cases h0 : h ≤ 0
    · exact ⟨.inl h0, by rw [depN_s, depN_s, if_pos h0, if_pos h0]; exact Nat.le_refl _⟩
    rcases e with e | ⟨e1, e2⟩
    · exact absurd e h0
    rw [depN_s, depN_s, if_neg h0, if_neg h0]
    by_cases c : h.toNat = x
    · have e3 : upI S' h = -1 := by unfold upI; rw [c, hu]; decide
      have e4 : stepD S' h = stepD S h := by unfold stepD; rw [c, he]
      have hn : Ends S' n (-1) ∧ depN S' n (-1) = 0 := by
        cases n with
        | zero => exact ⟨(by decide : (-1 : Int) ≤ 0), rfl⟩
        | succ n => exact ⟨.inl (by decide), by rw [depN_s, if_pos (by decide)]⟩
      refine ⟨.inr ⟨by omega, by rw [e3]; exact hn.1⟩, ?_⟩
      rw [e3, hn.2, e4]
      omega
    · have e3 : upI S' h = upI S h := by unfold upI; rw [ho _ c]
      have e4 : stepD S' h = stepD S h := by unfold stepD; rw [ho _ c]
      obtain ⟨i1, i2⟩ := chain_cut hc hu he ho n _ e2
      refine ⟨.inr ⟨by omega, by rw [e3]; exact i1⟩, ?_⟩
      rw [e3, e4]
      omega
theorem Gd.detach (g : Gd S) (op : OpR) (hl : Lv S op.h.toNat) : Gd (detachE S op).2 := by
  unfold detachE
  split
  · exact g
  rename_i hh
  rw [Bool.not_eq_false] at hh
  obtain ⟨hx, hu, hv, hsb⟩ := g.hungB hl hh
  have hsl := g.slotB_sl hl hsb
  generalize (Eng.hungB S op.h op.i).1 = x at *
  generalize (Eng.slotB S op.h op.i).1.toNat = s at *
  have hO : upd S.O x ⟨detP (S.O x).p, -1, 0, (S.O x).elem, (S.O x).dead⟩ x = ⟨detP (S.O x).p, -1, 0, (S.O x).elem, (S.O x).dead⟩ := upd_same _ _ _
  have hold : ∀ m, m ≠ x → upd S.O x ⟨detP (S.O x).p, -1, 0, (S.O x).elem, (S.O x).dead⟩ m = S.O m := fun m hm => upd_ne _ _ _ _ hm
  have hd : detP (S.O x).p = (S.O x).p ∨ (wlessB (S.O x).p = true ∧ detP (S.O x).p = { (S.O x).p with at_ := 0 }) := by
    unfold detP
    cases c : wlessB (S.O x).p
    · left; rfl
    · right; exact ⟨rfl, rfl⟩
  generalize hS' : (⟨upd S.A s 0, S.len, upd S.O x ⟨detP (S.O x).p, -1, 0, (S.O x).elem, (S.O x).dead⟩, S.cnt⟩ : Ed) = S' at *
  have hOx : S'.O x = ⟨detP (S.O x).p, -1, 0, (S.O x).elem, (S.O x).dead⟩ := by rw [← hS']; exact hO
  have hOm : ∀ m, m ≠ x → S'.O m = S.O m := by rw [← hS']; exact hold
  have hAs : S'.A s = 0 := by rw [← hS']; exact upd_same _ _ _
  have hAm : ∀ i, i ≠ s → S'.A i = S.A i := by rw [← hS']; exact fun i hi => upd_ne _ _ _ _ hi
  have hcnt : S'.cnt = S.cnt := by rw [← hS']
  have hlen : S'.len = S.len := by rw [← hS']
  have hnx : ∀ u, u < S.cnt → ¬ Hs S' x u := by
    intro u huc h
    exact hs_ne h (g.c256 huc) (by rw [hOx])
  have hsx : ∀ k u, k ≠ x → (Hs S' k u ↔ Hs S k u) := by intro k u hk; unfold Hs; rw [hOm k hk]
  show Gd S'
  refine g.rel (x := x) (s := s) hx ⟨hcnt, hlen, hOm, by rw [hOx]; exact hx.2.2.1, by rw [hOx]; exact hx.2.2.2, ?_, hAm, ⟨_, _, hl, hsl⟩⟩ ?_ ?_ ?_ ?_ ?_ ?_
  · rw [hOx]
    rcases hd with h | ⟨h1, h2⟩
    · exact .inl h
    · exact .inr ⟨h1, 0, Nat.zero_le _, h2⟩
  · intro k ht
    by_cases e : k = x
    · left; rw [e, hOx]
    · rcases g.up k ht with h | ⟨u, h1, h2⟩
      · left; rw [hOm k e]; exact h
      · exact .inr ⟨u, (hsx k u e).2 h1, h2⟩
  · intro _
    rw [hOx]
    unfold orphB
    rcases hd with h | ⟨h1, h2⟩
    · show ((0 : UInt8) == 0 && (!wlessB (detP (S.O x).p) || (detP (S.O x).p).at_ == 0)) = true
      rw [h]
      cases c : wlessB (S.O x).p
      · rfl
      · have : detP (S.O x).p = { (S.O x).p with at_ := 0 } := by unfold detP; rw [c]; rfl
        rw [← h, this]
        rfl
    · show ((0 : UInt8) == 0 && (!wlessB (detP (S.O x).p) || (detP (S.O x).p).at_ == 0)) = true
      rw [h2]
      show ((0 : UInt8) == 0 && (_ || (0 : UInt16) == 0)) = true
      simp
  · intro k u ht hku hc
    by_cases e : k = x
    · subst e; exact absurd hku (hnx u hc)
    have hku' := (hsx k u e).1 hku
    obtain ⟨u', hu', hl'⟩ := g.up_cases ht (hs_ne hku' (g.c256 hc))
    have e1 := hs_inj hku' hu' (g.c256 hc) (g.c256 hl'.1)
    subst e1
    obtain ⟨i, h1, h2, h3⟩ := g.hang k u ht hku' hc
    rw [hOm k e]
    refine ⟨i, h1, ?_, h3⟩
    rw [hAm, h2]
    rintro rfl
    obtain ⟨e1, e2⟩ := g.sl_two hl' hl h1 hsl
    subst e1
    rw [← hv] at e2
    exact e (g.inj k x _ ht hx hku' hu hc (UInt8.toNat_inj.1 e2))
  · intro k k' u ht ht' hku hku' hc hvv
    by_cases e : k = x
    · subst e; exact absurd hku (hnx u hc)
    by_cases e' : k' = x
    · subst e'; exact absurd hku' (hnx u hc)
    rw [hOm k e, hOm k' e'] at hvv
    exact g.inj k k' u ht ht' ((hsx k u e).1 hku) ((hsx k' u e').1 hku') hc hvv
  · intro k ht
    obtain ⟨n, e1, e2⟩ := g.shal k ht
    obtain ⟨i1, i2⟩ := chain_cut (S := S) (S' := S') hcnt (by rw [hOx]) (by rw [hOx]) hOm n _ e1
    exact ⟨n, i1, by omega⟩
  · intro i h v hlh hs h0
    have his : i ≠ s := by rintro rfl; exact h0 hAs
    rw [hAm i his] at h0
    obtain ⟨k, ht, hk, hkv⟩ := g.slot i h v hlh hs h0
    have e : k ≠ x := by
      rintro rfl
      have e1 := hs_inj hk hu (g.c256 hlh.1) (g.c256 hl.1)
      subst e1
      rw [← hkv, hv] at hs
      exact his (sl_fun hs hsl)
    exact ⟨k, ht, (hsx k h e).2 hk, by rw [hOm k e]; exact hkv⟩
theorem chain_off {x : Nat} (hc : S'.cnt = S.cnt) (ho : ∀ m, m ≠ x → S'.O m = S.O m) : ∀ (n : Nat) (h : Int), ¬ Ab S x h → Ends S n h → Ends S' n h ∧ depN S' n h = depN S n h
  | 0, h, _, e => ⟨e, rfl⟩
  | n + 1, h, ha, e => by
    by_cases h0 : h ≤ 0
    · exact ⟨.inl h0, by rw [depN_s, depN_s, if_pos h0, if_pos h0]⟩
    rcases e with e | ⟨e1, e2⟩
    · exact absurd e h0
    rw [depN_s, depN_s, if_neg h0, if_neg h0]
    have c : h.toNat ≠ x := by
      intro c
      apply ha
      rw [show h = (x : Int) by omega]
      exact Ab.refl x
    have e3 : upI S' h = upI S h := by unfold upI; rw [ho _ c]
    have e4 : stepD S' h = stepD S h := by unfold stepD; rw [ho _ c]
    have ha' : ¬ Ab S x (upI S h) := fun h' => ha ((Ab.iff x h).2 ⟨by omega, .inr h'⟩)
    obtain ⟨i1, i2⟩ := chain_off hc ho n _ ha' e2
    exact ⟨.inr ⟨by omega, by rw [e3]; exact i1⟩, by rw [e3, e4, i2]⟩
theorem chain_link {x h : Nat} (g : Gd S) (hx : Tp S x) (hxu : (S.O x).up = -1) (hc : S'.cnt = S.cnt) (ho : ∀ m, m ≠ x → S'.O m = S.O m) (hup : (S'.O x).up.toInt = (h : Int)) (he : (S'.O x).elem = (S.O x).elem)
    (hh : Ends S' 40 h ∧ depN S' 40 h = depN S 40 h) : ∀ (n : Nat) (u : Int), Ends S n u → Ab S x u → Ends S' (n + 40) u ∧ depN S' (n + 40) u = depN S n u + depN S 40 h := by
  intro n
  have hx1 := hx.1
  have z0 : ∀ u : Int, u ≤ 0 → ¬ Ab S x u := by
    intro u hu ha
    obtain ⟨a1, a2⟩ := (Ab.iff x u).1 ha
    have u0 : u = 0 := by omega
    subst u0
    rcases a2 with a2 | a2
    · omega
    · rw [up0 g] at a2
      have := ((Ab.iff x _).1 a2).1
      omega
  induction n with
  | zero => intro u e ha; exact absurd ha (z0 u e)
  | succ n ih =>
    intro u e ha
    have h0 : ¬ u ≤ 0 := fun h0 => z0 u h0 ha
    rcases e with e | ⟨e1, e2⟩
    · exact absurd e h0
    rw [show n + 1 + 40 = (n + 40) + 1 by omega, depN_s S' (n + 40), depN_s S n, if_neg h0, if_neg h0]
    by_cases c : u.toNat = x
    · have e3 : upI S' u = (h : Int) := by unfold upI; rw [c, hup]
      have e4 : stepD S' u = stepD S u := by unfold stepD; rw [c, he]
      have e5 : upI S u = -1 := by unfold upI; rw [c, hxu]; decide
      obtain ⟨i1, i2⟩ := ends_le hh.1 (n + 40) (by omega)
      have hz : depN S n (-1) = 0 := by
        cases n with
        | zero => rfl
        | succ n => rw [depN_s, if_pos (by decide)]
      refine ⟨.inr ⟨by omega, by rw [e3]; exact i1⟩, ?_⟩
      rw [e3, e4, e5, i2, hz, hh.2]
      omega
    · have e3 : upI S' u = upI S u := by unfold upI; rw [ho _ c]
      have e4 : stepD S' u = stepD S u := by unfold stepD; rw [ho _ c]
      have ha' : Ab S x (upI S u) := by
        rcases ((Ab.iff x u).1 ha).2 with a | a
        · omega
        · exact a
      obtain ⟨i1, i2⟩ := ih _ e2 ha'
      refine ⟨.inr ⟨by omega, by rw [e3]; exact i1⟩, ?_⟩
      rw [e3, e4, i2]
      omega
theorem root_ab {x : Nat} (hxu : upI S (x : Int) < 0) : ∀ (n : Nat) (u : Int), Rends S n u → Ab S x u → rootN S n u = (x : Int)
  | 0, _, e, _ => e.elim
  | n + 1, u, ⟨e1, e2, e3⟩, ha => by
    rw [rootN]
    obtain ⟨a1, a2⟩ := (Ab.iff x u).1 ha
    rcases a2 with a2 | a2
    · subst a2; rw [if_pos hxu]
    · have h0 := ((Ab.iff x _).1 a2).1
      rw [if_neg (by omega)]
      rcases e3 with e3 | e3
      · omega
      · exact root_ab hxu n _ e3 a2
theorem hgt_ge {x : Int} : ∀ (m k : Nat), k < m → aliveB S (k : Nat) = true → rootN S 40 (k : Nat) = x → depN S 40 (k : Nat) ≤ hgtN S 40 x m
  | 0, k, h, _, _ => by omega
  | m + 1, k, h, ha, hr => by
    rw [hgtN]
    by_cases e : k = m
    · subst e
      rw [ha, hr]
      simp only [beq_self_eq_true, Bool.and_self, if_true]
      omega
    · have := hgt_ge m k (by omega) ha hr
      split <;> omega
theorem Gd.adopt (g : Gd S) (op : OpR) (hl : Lv S op.h.toNat) : Gd (adoptE S op).2 := by
  unfold adoptE
  split
  · exact g
  rename_i hh
  simp only [not_or, Bool.not_eq_true, Nat.not_lt] at hh
  obtain ⟨hno, hdep⟩ := hh
  unfold adoptNo at hno
  simp only [Bool.or_eq_false_iff, Bool.not_eq_false', bne_eq_false_iff_eq, beq_eq_false_iff_ne] at hno
  obtain ⟨hsb, hA0, hx0, hal, hxu, hroot⟩ := hno
  have hsl := g.slotB_sl hl hsb
  have hslt := (g.sl hl hsl).1
  have hs16 : (Eng.slotB S op.h op.i).1 = UInt16.ofNat (Eng.slotB S op.h op.i).1.toNat := eq16 rfl
  generalize (Eng.slotB S op.h op.i).1 = sl at *
  generalize hss : sl.toNat = s at *
  rw [hs16]
  have hxl := g.alive.1 hal
  have hx : Tp S op.x.toNat := by
    rcases g.cases hxl with h | h | ⟨_, _, u, hu⟩
    · omega
    · exact h
    · have := hu.up
      rw [hxu, show (-1 : Int16).toInt = -1 by decide] at this
      omega
  generalize op.x.toNat = x at *
  have hl256 := g.len.2
  have hnab : ¬ Ab S x (op.h.toNat : Int) := by
    intro ha
    exact hroot (root_ab (by rw [upI_nat, hxu]; decide) 40 _ (g.r40 hl) ha)
  have hd : adP (S.O x).p (UInt16.ofNat s) = (S.O x).p ∨ (wlessB (S.O x).p = true ∧ adP (S.O x).p (UInt16.ofNat s) = { (S.O x).p with at_ := UInt16.ofNat s }) := by
    unfold adP
    cases c : wlessB (S.O x).p
    · left; rfl
    · right; exact ⟨rfl, rfl⟩
  have hdw : wlessB (adP (S.O x).p (UInt16.ofNat s)) = true → (adP (S.O x).p (UInt16.ofNat s)).at_.toNat = s := by
    unfold adP
    cases c : wlessB (S.O x).p
    · intro h
      have h' : wlessB (S.O x).p = true := h
      rw [c] at h'; cases h'
    · intro _; exact tn16 (by omega)
  have hh256 := g.c256 hl.1
  generalize op.h.toNat = h at *
  generalize hS' : (⟨upd S.A s (pointerL (UInt16.ofNat s) (adP (S.O x).p (UInt16.ofNat s))), S.len, upd S.O x ⟨adP (S.O x).p (UInt16.ofNat s), Int16.ofInt (h : Int), op.i, (S.O x).elem, (S.O x).dead⟩, S.cnt⟩ : Ed) = S' at *
  have hOx : S'.O x = ⟨adP (S.O x).p (UInt16.ofNat s), Int16.ofInt (h : Int), op.i, (S.O x).elem, (S.O x).dead⟩ := by rw [← hS']; exact upd_same _ _ _
  have hOm : ∀ m, m ≠ x → S'.O m = S.O m := by rw [← hS']; exact fun m hm => upd_ne _ _ _ _ hm
  have hAs : S'.A s = pointerL (UInt16.ofNat s) (adP (S.O x).p (UInt16.ofNat s)) := by rw [← hS']; exact upd_same _ _ _
  have hAm : ∀ i, i ≠ s → S'.A i = S.A i := by rw [← hS']; exact fun i hi => upd_ne _ _ _ _ hi
  have hcnt : S'.cnt = S.cnt := by rw [← hS']
  have hlen : S'.len = S.len := by rw [← hS']
  have hxh : Hs S' x h := by unfold Hs; rw [hOx]
  have hsx : ∀ k u, k ≠ x → (Hs S' k u ↔ Hs S k u) := by intro k u hk; unfold Hs; rw [hOm k hk]
  show Gd S'
  refine g.rel (x := x) (s := s) hx ⟨hcnt, hlen, hOm, by rw [hOx]; exact hx.2.2.1, by rw [hOx]; exact hx.2.2.2, ?_, hAm, ⟨_, _, hl, hsl⟩⟩ ?_ ?_ ?_ ?_ ?_ ?_
  · rw [hOx]
    rcases hd with h | ⟨h1, h2⟩
    · exact .inl h
    · exact .inr ⟨h1, UInt16.ofNat s, by rw [tn16 (by omega)]; omega, h2⟩
  · intro k ht
    by_cases e : k = x
    · subst e; exact .inr ⟨h, hxh, hl⟩
    · rcases g.up k ht with h | ⟨u, h1, h2⟩
      · left; rw [hOm k e]; exact h
      · exact .inr ⟨u, (hsx k u e).2 h1, h2⟩
  · intro h
    exact absurd h (hs_ne hxh hh256)
  · intro k u ht hku hc
    by_cases e : k = x
    · subst e
      have e1 := hs_inj hku hxh (g.c256 hc) hh256
      subst e1
      rw [hOx]
      exact ⟨s, hsl, hAs, hdw⟩
    have hku' := (hsx k u e).1 hku
    obtain ⟨u', hu', hl'⟩ := g.up_cases ht (hs_ne hku' (g.c256 hc))
    have e1 := hs_inj hku' hu' (g.c256 hc) (g.c256 hl'.1)
    subst e1
    obtain ⟨i, h1, h2, h3⟩ := g.hang k u ht hku' hc
    rw [hOm k e]
    refine ⟨i, h1, ?_, h3⟩
    rw [hAm, h2]
    rintro rfl
    exact (g.res ht hku' hl' h1).2 hA0
  · intro k k' u ht ht' hku hku' hc hvv
    have key : ∀ k, Tp S k → k ≠ x → Hs S' k u → Hs S' x u → (S'.O k).via = (S'.O x).via → False := by
      intro k ht e hku hxu' hvv
      have e1 := hs_inj hxu' hxh (g.c256 hc) hh256
      subst e1
      rw [hOm k e, hOx] at hvv
      have hvv' : (S.O k).via = op.i := hvv
      exact (g.res ht ((hsx k u e).1 hku) hl (by rw [hvv']; exact hsl)).2 hA0
    by_cases e : k = x
    · subst e
      by_cases e' : k' = k
      · exact e'.symm
      · exact (key k' ht' e' hku' hku hvv.symm).elim
    by_cases e' : k' = x
    · subst e'; exact (key k ht e hku hku' hvv).elim
    rw [hOm k e, hOm k' e'] at hvv
    exact g.inj k k' u ht ht' ((hsx k u e).1 hku) ((hsx k' u e').1 hku') hc hvv
  · intro k ht
    obtain ⟨e1, e2⟩ := g.e40 ht.lv
    have hho := chain_off (S := S) (S' := S') hcnt hOm 40 (h : Int) hnab (g.e40 hl).1
    by_cases ha : Ab S x (k : Int)
    · obtain ⟨i1, i2⟩ := chain_link g hx hxu hcnt hOm (by rw [hOx]; exact i16n (by omega)) (by rw [hOx]) hho 40 _ e1 ha
      refine ⟨80, i1, ?_⟩
      have hr := root_ab (S := S) (x := x) (by rw [upI_nat, hxu]; decide) 40 _ (g.r40 ht.lv) ha
      have hg := hgt_ge (S := S) (x := (x : Int)) S.cnt k ht.2.1 (g.alive.2 ht.lv) hr
      have : depN S' (40 + 40) (k : Int) = depN S' 80 (k : Int) := rfl
      omega
    · obtain ⟨i1, i2⟩ := chain_off (S := S) (S' := S') hcnt hOm 40 _ ha e1
      exact ⟨40, i1, by omega⟩
  · intro i hh v hlh hs h0
    by_cases e : i = s
    · subst e
      obtain ⟨e1, e2⟩ := g.sl_two hlh hl hs hsl
      subst e1
      exact ⟨x, hx, hxh, by rw [hOx]; exact e2.symm⟩
    · rw [hAm i e] at h0
      obtain ⟨k, ht, hk, hkv⟩ := g.slot i hh v hlh hs h0
      have e : k ≠ x := by
        rintro rfl
        exact hs_ne hk (g.c256 hlh.1) hxu
      exact ⟨k, ht, (hsx k hh e).2 hk, by rw [hOm k e]; exact hkv⟩
end
end Eng
end Go.Proofs.Ygcfab
