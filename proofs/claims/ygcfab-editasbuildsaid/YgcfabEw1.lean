/-
  Package edit: an editor whose blocks are its own; what writes.
-/
import Derived.Test.YgcfabEd9
set_option linter.unusedSimpArgs false
set_option linter.unusedVariables false
set_option maxRecDepth 100000
namespace Go.Proofs.Ygcfab
namespace Eng
def obF (O : Nat → Ob) (i : Nat) : Value := lget (ol (O (i / 10))) (i % 10)
structure EdH (H0 G : Heap) (eb : Nat) (S : Ed) : Prop where
  le0 : Le H0 G
  own : H0 eb = none
  blk : ∃ va vo oa oo, G eb = some (fblk 2 (lget [va, vo]) 57) ∧ OwnS 1 30 G va S.len (fun i => u64 (S.A i)) oa ∧ OwnS 10 62 G vo S.cnt (obF S.O) oo ∧
    (∀ c, oa = some c → H0 c = none ∧ c ≠ eb) ∧ (∀ c, oo = some c → H0 c = none ∧ c ≠ eb) ∧ (∀ c, oa = some c → oo ≠ some c)
theorem own_form {s : Nat} {e : TypeId} {G : Heap} {v : Value} {n : Nat} {f : Nat → Value} {ob : Option Nat} (h : OwnS s e G v n f ob) : ∃ a c, v = .slice a n c := by
  rcases h.is with ⟨rfl, rfl, _⟩ | ⟨b, cap, f', rfl, _⟩
  · exact ⟨_, _, rfl⟩
  · exact ⟨_, _, rfl⟩
theorem own_U {G : Heap} {v : Value} {n : Nat} {A : Nat → UInt64} {ob : Option Nat} (h : OwnS 1 30 G v n (fun i => u64 (A i)) ob) : SlU G v n A := by
  rcases h.is with ⟨rfl, rfl, _⟩ | ⟨b, cap, g, rfl, hcap, _, hG, hg⟩
  · exact .inl ⟨_, _, rfl, rfl⟩
  · by_cases h0 : n = 0
    · subst h0; exact .inl ⟨_, _, rfl, rfl⟩
    · refine .inr ⟨b, 0, cap, rfl, by omega, fun i hi => ?_⟩
      rw [rd_eq, hG, rdO_fblk, if_pos (by omega), Nat.zero_add, hg i (by omega)]
theorem obAt_of {G : Heap} {b N : Nat} {g : Nat → Value} {e : TypeId} (hG : G b = some (fblk N g e)) {o : Nat} {x : Ob} (hN : o + 10 ≤ N) (h : ∀ j, j < 10 → g (o + j) = lget (ol x) j) : ObAt G b o x := by
  have r : ∀ j, j < 10 → rd G b (o + j) = some (lget (ol x) j) := by
    intro j hj
    rw [rd_eq, hG, rdO_fblk, if_pos (by omega), h j hj]
  exact ⟨r 0 (by omega), r 1 (by omega), r 2 (by omega), r 3 (by omega), r 4 (by omega), r 5 (by omega), r 6 (by omega), r 7 (by omega), r 8 (by omega), r 9 (by omega)⟩
theorem own_O {G : Heap} {v : Value} {n : Nat} {O : Nat → Ob} {ob : Option Nat} (h : OwnS 10 62 G v n (obF O) ob) : SlO G v n O := by
  rcases h.is with ⟨rfl, rfl, _⟩ | ⟨b, cap, g, rfl, hcap, _, hG, hg⟩
  · exact .inl ⟨_, _, rfl, rfl⟩
  · by_cases h0 : n = 0
    · subst h0; exact .inl ⟨_, _, rfl, rfl⟩
    · refine .inr ⟨b, 0, cap, rfl, by omega, fun i hi => ?_⟩
      rw [Nat.zero_add]
      refine obAt_of hG (by omega) (fun j hj => ?_)
      rw [hg _ (by omega)]
      unfold obF
      rw [show (i * 10 + j) / 10 = i by omega, show (i * 10 + j) % 10 = j by omega]
theorem EdH.rdr {H0 G : Heap} {eb : Nat} {S : Ed} (h : EdH H0 G eb S) (h1 : S.len ≤ 9223372036854775807) (h2 : S.cnt ≤ 9223372036854775807) : ∃ aA cA aO cO, EdR G eb S aA cA aO cO := by
  obtain ⟨va, vo, oa, oo, k1, k2, k3, k4, k5, k6⟩ := h.blk
  obtain ⟨aA, cA, rfl⟩ := own_form k2
  obtain ⟨aO, cO, rfl⟩ := own_form k3
  refine ⟨aA, cA, aO, cO, ?_, ?_, own_U k2, own_O k3, h1, h2⟩
  · rw [rd_eq, k1, rdO_fblk, if_pos (by omega)]; rfl
  · rw [rd_eq, k1, rdO_fblk, if_pos (by omega)]; rfl
theorem EdH.le {H0 G G' : Heap} {eb : Nat} {S : Ed} (h : EdH H0 G eb S) (l : Le G G') : EdH H0 G' eb S := by
  obtain ⟨va, vo, oa, oo, k1, k2, k3, k4, k5, k6⟩ := h.blk
  have hk : ∀ {s : Nat} {e : TypeId} {v : Value} {n : Nat} {f : Nat → Value} {ob : Option Nat}, OwnS s e G v n f ob → OwnS s e G' v n f ob := by
    intro s e v n f ob ho
    rcases ho.is with h | ⟨b, cap, g, a1, a2, a3, a4, a5⟩
    · exact ⟨.inl h⟩
    · exact ⟨.inr ⟨b, cap, g, a1, a2, a3, l b _ a4, a5⟩⟩
  exact ⟨h.le0.trans l, h.own, va, vo, oa, oo, l eb _ k1, hk k2, hk k3, k4, k5, k6⟩
/-- the words of an editor, opened -/
theorem EdH.openA {H0 G : Heap} {eb : Nat} {S : Ed} (h : EdH H0 G eb S) (hl : 1 ≤ S.len) :
    ∃ ba cap g, rd G eb 0 = some (sl ba 0 S.len cap) ∧ S.len ≤ cap ∧ G ba = some (fblk (cap * 1) g 30) ∧ (∀ i, i < S.len → rd G ba i = some (u64 (S.A i))) ∧ ba ≠ eb ∧ H0 ba = none ∧
      (∀ i w, i < S.len → EdH H0 (upd G ba (some (fblk (cap * 1) (upd g i (u64 w)) 30))) eb { S with A := upd S.A i w }) := by
  obtain ⟨va, vo, oa, oo, k1, k2, k3, k4, k5, k6⟩ := h.blk
  rcases k2.is with ⟨_, h0, _⟩ | ⟨ba, cap, g, rfl, hcap, rfl, hG, hg⟩
  · omega
  have hba := k4 ba rfl
  refine ⟨ba, cap, g, ?_, hcap, hG, fun i hi => ?_, hba.2, hba.1, fun i w hi => ?_⟩
  · rw [rd_eq, k1, rdO_fblk, if_pos (by omega)]; rfl
  · rw [rd_eq, hG, rdO_fblk, if_pos (by omega), hg i (by omega)]
  · refine ⟨h.le0.fresh hba.1 _, h.own, sl ba 0 S.len cap, vo, some ba, oo, ?_, ⟨.inr ⟨ba, cap, _, rfl, hcap, rfl, upd_same _ _ _, ?_⟩⟩, k3.keep (fun c hc => upd_ne _ _ _ _ ?_), k4, k5, k6⟩
    · rw [upd_ne _ _ _ _ (Ne.symm hba.2)]; exact k1
    · intro j hj
      show upd g i (u64 w) j = u64 (upd S.A i w j)
      by_cases e : j = i
      · subst e; rw [upd_same, upd_same]
      · rw [upd_ne _ _ _ _ e, upd_ne _ _ _ _ e]; exact hg j hj
    · rintro rfl; exact k6 c rfl hc
/-- the objects of an editor, opened -/
theorem EdH.openO {H0 G : Heap} {eb : Nat} {S : Ed} (h : EdH H0 G eb S) (hl : 1 ≤ S.cnt) :
    ∃ bo cap g, rd G eb 1 = some (sl bo 0 S.cnt cap) ∧ S.cnt ≤ cap ∧ G bo = some (fblk (cap * 10) g 62) ∧ (∀ k, k < S.cnt → ObAt G bo (k * 10) (S.O k)) ∧ bo ≠ eb ∧ H0 bo = none ∧
      (∀ k x' g', k < S.cnt → (∀ c, (c < k * 10 ∨ k * 10 + 10 ≤ c) → g' c = g c) → (∀ j, j < 10 → g' (k * 10 + j) = lget (ol x') j) → EdH H0 (upd G bo (some (fblk (cap * 10) g' 62))) eb { S with O := upd S.O k x' }) ∧
      (∀ k j, k < S.cnt → j < 10 → g (k * 10 + j) = lget (ol (S.O k)) j) := by
  obtain ⟨va, vo, oa, oo, k1, k2, k3, k4, k5, k6⟩ := h.blk
  rcases k3.is with ⟨_, h0, _⟩ | ⟨bo, cap, g, rfl, hcap, rfl, hG, hg⟩
  · omega
  have hbo := k5 bo rfl
  have hgo : ∀ k j, k < S.cnt → j < 10 → g (k * 10 + j) = lget (ol (S.O k)) j := by
    intro k j hk hj
    rw [hg _ (by omega)]
    unfold obF
    rw [show (k * 10 + j) / 10 = k by omega, show (k * 10 + j) % 10 = j by omega]
  refine ⟨bo, cap, g, ?_, hcap, hG, fun k hk => ?_, hbo.2, hbo.1, fun k x' g' hk h1 h2 => ?_, hgo⟩
  · rw [rd_eq, k1, rdO_fblk, if_pos (by omega)]; rfl
  · exact obAt_of hG (by omega) (fun j hj => hgo k j hk hj)
  · refine ⟨h.le0.fresh hbo.1 _, h.own, va, sl bo 0 S.cnt cap, oa, some bo, ?_, k2.keep (fun c hc => upd_ne _ _ _ _ ?_), ⟨.inr ⟨bo, cap, _, rfl, hcap, rfl, upd_same _ _ _, ?_⟩⟩, k4, k5, k6⟩
    · rw [upd_ne _ _ _ _ (Ne.symm hbo.2)]; exact k1
    · rintro rfl; exact k6 c hc rfl
    · intro c hc
      unfold obF
      show g' c = lget (ol (upd S.O k x' (c / 10))) (c % 10)
      by_cases e : c / 10 = k
      · rw [e, upd_same]
        have := h2 (c % 10) (by omega)
        rw [show k * 10 + c % 10 = c by omega] at this
        exact this
      · rw [upd_ne _ _ _ _ e, h1 c (by omega)]
        have := hgo (c / 10) (c % 10) (by show c / 10 < S.cnt; have : c < S.cnt * 10 := hc; omega) (by omega)
        rw [show c / 10 * 10 + c % 10 = c by omega] at this
        exact this
/-- append to the words -/
theorem edA_app {H0 G : Heap} {eb : Nat} {S : Ed} (hC : EdH H0 G eb S) {va vo : Value} (hf : G eb = some (fblk 2 (lget [va, vo]) 57)) {x : Value} {m : Nat} {B : Nat → UInt64} (hx : SlU G x m B) (hn : S.len + m ≤ 1000) {ty : TypeId} {k : Value → Heap → Prop}
    (hk : ∀ v' G', G' eb = some (fblk 2 (lget [va, vo]) 57) → EdH H0 (upd G' eb (some (fblk 2 (lget [v', vo]) 57))) eb { S with A := fun i => if i < S.len then S.A i else B (i - S.len), len := S.len + m } → v'.oneCell' = true → k v' G') :
    runH Fabg.prog (Builtin.append_ #[26, 26] ty #[va, x]) G k := by
  obtain ⟨va', vo', oa, oo, k1, k2, k3, k4, k5, k6⟩ := hC.blk
  have hfe : va' = va ∧ vo' = vo := by
    have e0 := congrArg (fun o => rdO o 0) (k1.symm.trans hf)
    have e1 := congrArg (fun o => rdO o 1) (k1.symm.trans hf)
    simp only [rdO_fblk] at e0 e1
    exact ⟨by simpa [lget] using e0, by simpa [lget] using e1⟩
  obtain ⟨rfl, rfl⟩ := hfe
  refine app_26 k2 (srcU hx) ?_ hn ?_
  · intro v hv
    rw [List.mem_map] at hv
    obtain ⟨i, _, rfl⟩ := hv
    exact oneCell_u64 _
  · intro v' G' ob' a1 a2 a3
    have hne : oa ≠ some eb := fun e => (k4 eb e).2 rfl
    have hGe : G' eb = some (fblk 2 (lget [va', vo']) 57) := by rw [a2 eb hne (by rw [k1]; simp)]; exact k1
    have hkeep : ∀ {X : Heap}, Le X G → (∀ c, oa = some c → X c = none) → Le X G' := by
      intro X hX hXb c z hz
      have hG := hX c z hz
      rw [a2 c (fun e => by have := hXb c e; rw [hz] at this; cases this) (by rw [hG]; simp)]
      exact hG
    have hob : ∀ c, ob' = some c → oa = some c ∨ G c = none := by
      intro c hc
      rcases a3 with a3 | ⟨d, a3, a4⟩
      · exact .inl (a3 ▸ hc)
      · rw [a3] at hc; cases hc; exact .inr a4
    have hle := hkeep hC.le0 (fun c hc => (k4 c hc).1)
    refine hk v' G' hGe ⟨hle.fresh hC.own _, hC.own, v', vo', ob', oo, upd_same _ _ _, (a1.keep (fun c hc => upd_ne _ _ _ _ ?_)).congr ?_, k3.keep (fun c hc => ?_), ?_, k5, ?_⟩ a1.one
    · rintro rfl
      rcases hob c hc with h | h
      · exact hne h
      · rw [k1] at h; cases h
    · intro i hi
      unfold appF
      by_cases e : i < S.len
      · rw [if_pos (by omega)]; simp only [e, if_true]
      · rw [if_neg (by omega), lget_map_range _ _ _ (by have : i < (S.len + m) * 1 := hi; omega)]
        simp only [e, if_false]
        rw [show i - S.len * 1 = i - S.len by omega]
    · have hce := (k5 c hc).2
      rw [upd_ne _ _ _ _ hce]
      refine a2 c (fun e => k6 c e hc) ?_
      rcases k3.is with ⟨_, _, h⟩ | ⟨b', cap, g, _, _, h, hG, _⟩
      · rw [hc] at h; cases h
      · rw [hc] at h; cases h; rw [hG]; simp
    · intro c hc
      rcases hob c hc with h | h
      · exact k4 c h
      · exact ⟨le_none hC.le0 h, fun e => by rw [e, k1] at h; cases h⟩
    · intro c hc hoo
      rcases hob c hc with h | h
      · exact k6 c h hoo
      · rcases k3.is with ⟨_, _, h'⟩ | ⟨b', cap, g, _, _, h', hG, _⟩
        · rw [hoo] at h'; cases h'
        · rw [hoo] at h'; cases h'; rw [hG] at h; cases h
theorem app_55 {H : Heap} {k : Value → Heap → Prop} {ty : TypeId} {v : Value} {n : Nat} {f : Nat → Value} {ob : Option Nat} (h : OwnS 10 62 H v n f ob) {x : Value} {m : Nat} {xs : List Value} (hx : SrcS H x m 10 xs) (hx1 : ∀ v, v ∈ xs → v.oneCell' = true) (hn : n + m ≤ 1000)
    (hk : ∀ v' G' ob', OwnS 10 62 G' v' (n + m) (appF 10 n f xs) ob' → (∀ c, ob ≠ some c → H c ≠ none → G' c = H c) → (ob' = ob ∨ ∃ c, ob' = some c ∧ H c = none) → k v' G') :
    runH Fabg.prog (Builtin.append_ #[55, 55] ty #[v, x]) H k := by
  obtain ⟨inf, h1, h2⟩ := info_of (P := Fabg.prog) (e := 62) (B := 16) (by kernel_rfl)
  exact append_intro (s := 10) Fabg.underlying55 (fun _ _ => by kernel_rfl) (z := ov ⟨Ptr.zero, 0, 0, false, false⟩) (fun _ _ => by kernel_rfl) rfl h2 (by rw [h1]; decide) h hx hx1 hn (by decide) hk
end Eng
end Go.Proofs.Ygcfab
