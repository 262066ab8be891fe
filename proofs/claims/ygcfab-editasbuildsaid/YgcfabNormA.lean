/-
  What Norm does to the heap: appends.
-/
import Derived.Test.YgcfabDraw
set_option linter.unusedSimpArgs false
set_option linter.unusedVariables false
set_option maxRecDepth 100000
namespace Go.Proofs.Ygcfab
namespace Eng

theorem OwnS.one {s : Nat} {e : TypeId} {G : Heap} {v : Value} {n : Nat} {f : Nat → Value} {ob : Option Nat} (h : OwnS s e G v n f ob) : v.oneCell' = true := by
  rcases h.is with ⟨rfl, _⟩ | ⟨b, cap, f', rfl, _⟩ <;> rfl
theorem OwnS.congr {s : Nat} {e : TypeId} {G : Heap} {v : Value} {n : Nat} {f g : Nat → Value} {ob : Option Nat} (h : OwnS s e G v n f ob) (hfg : ∀ i, i < n * s → f i = g i) : OwnS s e G v n g ob := by
  rcases h.is with h1 | ⟨b, cap, f', h1, h2, h3, h4, h5⟩
  · exact ⟨.inl h1⟩
  · exact ⟨.inr ⟨b, cap, f', h1, h2, h3, h4, fun i hi => (h5 i hi).trans (hfg i hi)⟩⟩
/-- a block that Norm's loop does not know -/
def Free (H0 F : Heap) (b3 b4 b5 b6 bN c : Nat) : Prop := H0 c = none ∧ F c = none ∧ c ≠ b3 ∧ c ≠ b4 ∧ c ≠ b5 ∧ c ≠ b6 ∧ c ≠ bN
/-- append to the kids of the node in hand -/
theorem kid_app {H0 F G : Heap} {b3 b4 b5 b6 bN : Nat} {i cnt : Nat} {T : Nat → NodeL} {frI : Nat → Int16} {D P : Nat → Nat} (hH : NHp H0 F G b3 b4 b5 b6 bN i cnt T frI D P)
    {b9 J : Nat} {w1 w2 w3 vk : Value} {ks : Nat → Int16} {obk : Option Nat} (g9 : G b9 = some (fblk 4 (lget [w1, w2, w3, vk]) 102)) (hO : OwnS 1 23 G vk J (fun j => i16 (ks j)) obk) (hn9 : Free H0 F b3 b4 b5 b6 bN b9)
    (hob : ∀ c, obk = some c → c ≠ b9 ∧ Free H0 F b3 b4 b5 b6 bN c) (hJ : J ≤ 500) {bx : Nat} (hbx : G bx = none) (y : Int16) {ty : TypeId} {k : Value → Heap → Prop}
    (hk : ∀ v' G' ob', G' b9 = some (fblk 4 (lget [w1, w2, w3, vk]) 102) → NHp H0 F (upd G' b9 (some (fblk 4 (lget [w1, w2, w3, v']) 102))) b3 b4 b5 b6 bN i cnt T frI D P →
      OwnS 1 23 (upd G' b9 (some (fblk 4 (lget [w1, w2, w3, v']) 102))) v' (J + 1) (fun j => i16 (upd ks J y j)) ob' → (∀ c, ob' = some c → c ≠ b9 ∧ Free H0 F b3 b4 b5 b6 bN c) → v'.oneCell' = true → k v' G') :
    runH Fabg.prog (Builtin.append_ #[100, 100] ty #[vk, sl bx 0 1 1]) (upd G bx (some (fblk 1 (lget [i16 y]) 23))) k := by
  have hdx := hH.dom hbx
  have hx9 : bx ≠ b9 := by rintro rfl; rw [g9] at hbx; cases hbx
  have hO1 : OwnS 1 23 (upd G bx (some (fblk 1 (lget [i16 y]) 23))) vk J (fun j => i16 (ks j)) obk := hO.keep fun b hb => by
    refine upd_ne _ _ _ _ ?_
    rintro rfl
    rcases hO.is with ⟨_, _, h⟩ | ⟨b', cap, f', _, _, h, hG, _⟩
    · rw [hb] at h; cases h
    · rw [hb] at h; cases h; rw [hG] at hbx; cases hbx
  refine app_100 hO1 (xs := [i16 y]) (m := 1) ⟨rfl, .inr ⟨bx, 0, 1, rfl, ?_⟩⟩ ?_ (by omega) ?_
  · intro i hi
    have e : i = 0 := by omega
    subst e
    rw [rd_eq, upd_same, rdO_fblk, if_pos (by omega)]
  · intro v hv
    rw [List.mem_singleton] at hv
    rw [hv]; exact oneCell_i16 _
  · intro v' G' ob' h1 h2 h3
    have hfr : ∀ c, Free H0 F b3 b4 b5 b6 bN c → True := fun _ _ => trivial
    have hkeep : ∀ c, G c ≠ none → obk ≠ some c → G' c = G c := by
      intro c hc ho
      have hcx : c ≠ bx := ne_fresh hc hbx
      rw [h2 c ho (by rw [upd_ne _ _ _ _ hcx]; exact hc), upd_ne _ _ _ _ hcx]
    have ho9 : obk ≠ some b9 := fun e => (hob b9 e).1 rfl
    have hg9' : G' b9 = some (fblk 4 (lget [w1, w2, w3, vk]) 102) := by rw [hkeep b9 (by rw [g9]; simp) ho9]; exact g9
    have hob' : ∀ c, ob' = some c → c ≠ b9 ∧ Free H0 F b3 b4 b5 b6 bN c := by
      intro c hc
      rcases h3 with h3 | ⟨c', h3, h4⟩
      · exact hob c (h3 ▸ hc)
      · rw [h3] at hc; cases hc
        have h5 := fresh_upd h4
        refine ⟨?_, hH.dom h5.2.2⟩
        rintro rfl; rw [g9] at h5; cases h5.2.2
    refine hk v' G' ob' hg9' ?_ ?_ hob' h1.one
    · refine hH.other ?_ ?_ ?_
      · intro c hc
        have hGc : G c ≠ none := by
          cases e : H0 c with
          | none => exact absurd e hc
          | some z => rw [hH.le0 c z e]; simp
        rw [upd_ne _ _ _ _ (ne_fresh hc hn9.1)]
        exact hkeep c hGc fun e => hc (hob c e).2.1
      · intro c hc
        have hGc : G c ≠ none := by
          cases e : F c with
          | none => exact absurd e hc
          | some z => rw [hH.leF c z e]; simp
        rw [upd_ne _ _ _ _ (ne_fresh hc hn9.2.1)]
        exact hkeep c hGc fun e => hc (hob c e).2.2.1
      · intro c hc
        have hGc : G c ≠ none := by
          intro hn
          have := hH.dom hn
          rcases hc with e | e | e | e | e
          · exact this.2.2.1 e
          · exact this.2.2.2.1 e
          · exact this.2.2.2.2.1 e
          · exact this.2.2.2.2.2.1 e
          · exact this.2.2.2.2.2.2 e
        have hfree : ∀ d, Free H0 F b3 b4 b5 b6 bN d → c ≠ d := by
          rintro d hd rfl
          rcases hc with e | e | e | e | e
          · exact hd.2.2.1 e
          · exact hd.2.2.2.1 e
          · exact hd.2.2.2.2.1 e
          · exact hd.2.2.2.2.2.1 e
          · exact hd.2.2.2.2.2.2 e
        rw [upd_ne _ _ _ _ (hfree b9 hn9)]
        exact hkeep c hGc fun e => hfree c (hob c e).2 rfl
    · refine (h1.keep fun b hb => upd_ne _ _ _ _ (hob' b hb).1).congr ?_
      intro j hj
      unfold appF
      by_cases e : j < J
      · rw [if_pos (by omega), upd_ne _ _ _ _ (by omega)]
      · have e2 : j = J := by omega
        subst e2
        rw [if_neg (by omega), upd_same, show j - j * 1 = 0 by omega]
        rfl
/-- append to the nodes -/
theorem node_app {H0 F G : Heap} {b3 b4 b5 b6 bN : Nat} {i cnt : Nat} {T : Nat → NodeL} {frI : Nat → Int16} {D P : Nat → Nat} (hH : NHp H0 F G b3 b4 b5 b6 bN i cnt T frI D P) (hi : i ≤ cnt) (hc : cnt ≤ 600)
    {vN : Value} (g3 : G b3 = some (fblk 2 (lget [vN, i16 0]) 25)) {bx : Nat} (hbx : G bx = none) {ty : TypeId} {k : Value → Heap → Prop} {w1 w2 w3 w4 : Value} (hw : [w1, w2, w3, w4].all Value.oneCell' = true)
    (hk : ∀ v' G' bN', G' b3 = some (fblk 2 (lget [vN, i16 0]) 25) → NHp H0 F (upd G' b3 (some (fblk 2 (lget [v', i16 0]) 25))) b3 b4 b5 b6 bN' i (cnt + 1) T frI D P →
      (∀ c, G c ≠ none → Free H0 F b3 b4 b5 b6 bN c → Free H0 F b3 b4 b5 b6 bN' c ∧ upd G' b3 (some (fblk 2 (lget [v', i16 0]) 25)) c = G c) → v'.oneCell' = true → k v' G') :
    runH Fabg.prog (Builtin.append_ #[22, 22] ty #[vN, sl bx 0 1 1]) (upd G bx (some (fblk 4 (lget [w1, w2, w3, w4]) 102))) k := by
  obtain ⟨vN', nf, h1, h2, h3⟩ := hH.nodes
  have hv : vN' = vN := by
    have e := h1.symm.trans g3
    have e2 := congrArg (fun o => rdO o 0) e
    simp only [rdO_fblk] at e2
    simpa [lget] using e2
  subst hv
  have hdx := hH.dom hbx
  have hO1 : OwnS 4 102 (upd G bx (some (fblk 4 (lget [w1, w2, w3, w4]) 102))) vN' cnt nf (some bN) := h2.keep fun b hb => by
    cases hb; exact upd_ne _ _ _ _ (Ne.symm hdx.2.2.2.2.2.2)
  refine app_22 hO1 (xs := [w1, w2, w3, w4]) (m := 1) ⟨rfl, .inr ⟨bx, 0, 1, rfl, ?_⟩⟩ ?_ (by omega) ?_
  · intro i hi
    rw [rd_eq, upd_same, rdO_fblk, if_pos (by omega), Nat.zero_add]
  · intro v hv
    exact List.all_eq_true.1 hw v hv
  · intro v' G' ob' k1 k2 k3
    have hkeep : ∀ c, G c ≠ none → c ≠ bN → G' c = G c := by
      intro c hc hcN
      have hcx : c ≠ bx := ne_fresh hc hbx
      rw [k2 c (fun e => hcN (by cases e; rfl)) (by rw [upd_ne _ _ _ _ hcx]; exact hc), upd_ne _ _ _ _ hcx]
    obtain ⟨e1, e2, e3, e4, e5, e6, e7, e8, e9, e10⟩ := hH.ne
    have hg3' : G' b3 = some (fblk 2 (lget [vN', i16 0]) 25) := by rw [hkeep b3 (by rw [g3]; simp) (Ne.symm e7)]; exact g3
    obtain ⟨bN', hbN', hprop⟩ : ∃ bN', ob' = some bN' ∧ (bN' = bN ∨ G bN' = none) := by
      rcases k3 with k3 | ⟨c, k3, k4⟩
      · exact ⟨bN, k3, .inl rfl⟩
      · exact ⟨c, k3, .inr (fresh_upd k4).2.2⟩
    have ho : H0 bN' = none ∧ F bN' = none ∧ bN' ≠ b3 ∧ bN' ≠ b4 ∧ bN' ≠ b5 ∧ bN' ≠ b6 := by
      rcases hprop with rfl | hp
      · have := hH.own bN' (by simp)
        exact ⟨this.1, this.2, e7, e8, e9, e10⟩
      · have := hH.dom hp
        exact ⟨this.1, this.2.1, this.2.2.1, this.2.2.2.1, this.2.2.2.2.1, this.2.2.2.2.2.1⟩
    have hown : ∀ c, c = b3 ∨ c = b4 ∨ c = b5 ∨ c = b6 → H0 c = none ∧ F c = none := fun c hc => hH.own c (by rcases hc with h | h | h | h <;> simp [h])
    have hl0 : Le H0 G' := by
      intro c z hz
      have hGc := hH.le0 c z hz
      rw [hkeep c (by rw [hGc]; simp) (ne_fresh (by rw [hz]; simp) (hH.own bN (by simp)).1)]
      exact hGc
    have hlF : Le F G' := by
      intro c z hz
      have hGc := hH.leF c z hz
      rw [hkeep c (by rw [hGc]; simp) (ne_fresh (by rw [hz]; simp) (hH.own bN (by simp)).2)]
      exact hGc
    refine hk v' G' bN' hg3' ?_ ?_ k1.one
    · refine ⟨hl0.fresh (hown b3 (by simp)).1 _, hlF.fresh (hown b3 (by simp)).2 _, hH.dis, ?_, ⟨e1, e2, e3, e4, e5, e6, ho.2.2.1, ho.2.2.2.1, ho.2.2.2.2.1, ho.2.2.2.2.2⟩, ?_, ?_, ?_, v', appF 4 cnt nf [w1, w2, w3, w4], upd_same _ _ _, ?_, ?_⟩
      · rintro c (h | h | h | h | h)
        · exact hown c (by simp [h])
        · exact hown c (by simp [h])
        · exact hown c (by simp [h])
        · exact hown c (by simp [h])
        · rw [h]; exact ⟨ho.1, ho.2.1⟩
      · rw [upd_ne _ _ _ _ (Ne.symm e1), hkeep b4 (by rw [hH.g4]; simp) (Ne.symm e8)]; exact hH.g4
      · rw [upd_ne _ _ _ _ (Ne.symm e2), hkeep b5 (by rw [hH.g5]; simp) (Ne.symm e9)]; exact hH.g5
      · rw [upd_ne _ _ _ _ (Ne.symm e3), hkeep b6 (by rw [hH.g6]; simp) (Ne.symm e10)]; exact hH.g6
      · rw [← hbN']
        refine k1.keep fun b hb => upd_ne _ _ _ _ ?_
        rw [hbN'] at hb; cases hb
        exact ho.2.2.1
      · intro q hq
        refine (h3 q hq).le (Le.refl _) ?_
        intro j hj
        unfold appF
        rw [if_pos (by omega)]
    · intro c hc hf
      refine ⟨⟨hf.1, hf.2.1, hf.2.2.1, hf.2.2.2.1, hf.2.2.2.2.1, hf.2.2.2.2.2.1, ?_⟩, ?_⟩
      · rcases hprop with rfl | hp
        · exact hf.2.2.2.2.2.2
        · exact ne_fresh hc hp
      · rw [upd_ne _ _ _ _ hf.2.2.1, hkeep c hc hf.2.2.2.2.2.2]
/-- the kids of the node in hand become a part of the tree -/
theorem NHp.seal {H0 F G : Heap} {b3 b4 b5 b6 bN : Nat} {i cnt : Nat} {T : Nat → NodeL} {frI : Nat → Int16} {D P : Nat → Nat} (hH : NHp H0 F G b3 b4 b5 b6 bN i cnt T frI D P)
    {n : Nat} {vk : Value} {ks : Nat → Int16} {obk : Option Nat} (hO : OwnS 1 23 G vk n (fun j => i16 (ks j)) obk) (hob : ∀ c, obk = some c → Free H0 F b3 b4 b5 b6 bN c) :
    ∃ F', NHp H0 F' G b3 b4 b5 b6 bN i cnt T frI D P ∧ Le F F' ∧ SlI F' vk n ks := by
  rcases hO.is with ⟨rfl, rfl, rfl⟩ | ⟨b, cap, f', rfl, hcap, rfl, hG, hf⟩
  · exact ⟨F, hH, Le.refl _, .inl ⟨_, _, rfl, rfl⟩⟩
  · have hb := hob b rfl
    refine ⟨_, hH.freeze hb, (Le.refl F).fresh hb.2.1 _, ?_⟩
    by_cases h0 : n = 0
    · subst h0; exact .inl ⟨_, _, rfl, rfl⟩
    · refine .inr ⟨b, 0, cap, rfl, by omega, fun j hj => ?_⟩
      rw [rd_eq, upd_same, hG, rdO_fblk, if_pos (by omega), Nat.zero_add, hf j (by omega)]
/-- the node in hand is put among the nodes -/
theorem NHp.put {H0 F G : Heap} {b3 b4 b5 b6 bN : Nat} {i cnt cap : Nat} {T : Nat → NodeL} {frI : Nat → Int16} {D P : Nat → Nat} (hH : NHp H0 F G b3 b4 b5 b6 bN i cnt T frI D P) (hi : i < cnt) {nf : Nat → Value}
    (g3 : G b3 = some (fblk 2 (lget [sl bN 0 cnt cap, i16 0]) 25)) (hcap : cnt ≤ cap) (hG : G bN = some (fblk (cap * 4) nf 102)) (hnf : ∃ nf0, (∀ j, j < cnt * 4 → nf j = nf0 j) ∧ ∀ q, q < i → NodeC F nf0 q (T q))
    {n : NodeL} {vd vk : Value} (hd : SlU F vd n.nd n.dat) (hk : SlI F vk n.nk n.kid) (h1 : n.nd ≤ 9223372036854775807) (h2 : n.nk ≤ 9223372036854775807) :
    NHp H0 F (upd G bN (some (fblk (cap * 4) (upds nf (i * 4) [u8 n.kind, u8 n.code, vd, vk]) 102))) b3 b4 b5 b6 bN (i + 1) cnt (upd T i n) frI D P := by
  obtain ⟨e1, e2, e3, e4, e5, e6, e7, e8, e9, e10⟩ := hH.ne
  have ho := hH.own bN (by simp)
  obtain ⟨nf0, q1, q2⟩ := hnf
  refine ⟨hH.le0.fresh ho.1 _, hH.leF.fresh ho.2 _, hH.dis, hH.own, hH.ne, ?_, ?_, ?_, sl bN 0 cnt cap, upds nf (i * 4) [u8 n.kind, u8 n.code, vd, vk], ?_, ?_, ?_⟩
  · rw [upd_ne _ _ _ _ (Ne.symm e8)]; exact hH.g4
  · rw [upd_ne _ _ _ _ (Ne.symm e9)]; exact hH.g5
  · rw [upd_ne _ _ _ _ (Ne.symm e10)]; exact hH.g6
  · rw [upd_ne _ _ _ _ (Ne.symm e7)]; exact g3
  · exact ⟨.inr ⟨bN, cap, _, rfl, hcap, rfl, upd_same _ _ _, fun _ _ => rfl⟩⟩
  · intro q hq
    by_cases e : q = i
    · subst e
      rw [upd_same]
      refine ⟨vd, vk, ?_, ?_, ?_, ?_, hd, hk, h1, h2⟩
      · rw [upds_get, if_pos ⟨by omega, by simp⟩, show q * 4 - q * 4 = 0 by omega]; rfl
      · rw [upds_get, if_pos ⟨by omega, by simp⟩, show q * 4 + 1 - q * 4 = 1 by omega]; rfl
      · rw [upds_get, if_pos ⟨by omega, by simp⟩, show q * 4 + 2 - q * 4 = 2 by omega]; rfl
      · rw [upds_get, if_pos ⟨by omega, by simp⟩, show q * 4 + 3 - q * 4 = 3 by omega]; rfl
    · rw [upd_ne _ _ _ _ e]
      refine (q2 q (by omega)).le (Le.refl _) ?_
      intro j hj
      rw [upds_get, if_neg (by simp; omega)]
      exact q1 _ (by omega)
end Eng
end Go.Proofs.Ygcfab
