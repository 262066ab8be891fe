/-
  What Norm does to the heap.
-/
import Derived.Test.YgcfabNormP
set_option linter.unusedSimpArgs false
set_option linter.unusedVariables false
set_option maxRecDepth 100000
namespace Go.Proofs.Ygcfab
namespace Eng

/-- what Norm hands back: a tree in a part F of the heap that touches nothing older -/
structure NormOut (H0 : Heap) (N : Nat → NodeL) (cntN : Nat) (root : Int16) (r : Value) (G : Heap) (F : Heap) (b cnt : Nat) (T : Nat → NodeL) (root' : Int16) : Prop where
  is : r = ptr b 0
  le0 : Le H0 G
  leF : Le F G
  dis : ∀ c, H0 c ≠ none → F c = none
  tree : TreeAt F b 0 T cnt root'
  null : root' = -1 ∨ (root' = 0 ∧ GoodT N cntN root ∧ root ≠ -1 ∧ ∃ fr el D P, NInv N cntN root.toInt.toNat cnt cnt T fr el D P)

def frB (fr : Nat → Int16) : Obj := fblk 512 (fun c => i16 (fr c)) 150
def natB (D : Nat → Nat) : Obj := fblk 512 (fun c => .int .i64 (D c : Nat)) 151
theorem upd_i16 (g : Nat → Int16) (i : Nat) (x : Int16) : upd (fun c => i16 (g c)) i (i16 x) = fun c => i16 (upd g i x c) := by
  funext c; simp only [upd_get]; split <;> rfl
theorem upd_nat (g : Nat → Nat) (i : Nat) (x : Nat) : upd (fun c => Value.int .i64 (g c : Nat)) i (.int .i64 (x : Nat)) = fun c => .int .i64 (upd g i x c : Nat) := by
  funext c; simp only [upd_get]; split <;> rfl
/-- the cells of node q, its parts in F -/
def NodeC (F : Heap) (nf : Nat → Value) (q : Nat) (n : NodeL) : Prop :=
  ∃ vd vk, nf (q * 4) = u8 n.kind ∧ nf (q * 4 + 1) = u8 n.code ∧ nf (q * 4 + 2) = vd ∧ nf (q * 4 + 3) = vk ∧ SlU F vd n.nd n.dat ∧ SlI F vk n.nk n.kid ∧ n.nd ≤ 9223372036854775807 ∧ n.nk ≤ 9223372036854775807
theorem NodeC.le {F F' : Heap} {nf nf' : Nat → Value} {q : Nat} {n : NodeL} (h : NodeC F nf q n) (l : Le F F') (e : ∀ i, i < 4 → nf' (q * 4 + i) = nf (q * 4 + i)) : NodeC F' nf' q n := by
  obtain ⟨vd, vk, h1, h2, h3, h4, h5, h6, h7⟩ := h
  exact ⟨vd, vk, by have := e 0 (by omega); rw [Nat.add_zero] at this; rw [this]; exact h1, by rw [e 1 (by omega)]; exact h2, by rw [e 2 (by omega)]; exact h3, by rw [e 3 (by omega)]; exact h4, h5.le l, h6.le l, h7⟩
/-- the heap of Norm's loop -/
structure NHp (H0 F G : Heap) (b3 b4 b5 b6 bN : Nat) (i cnt : Nat) (T : Nat → NodeL) (frI : Nat → Int16) (D P : Nat → Nat) : Prop where
  le0 : Le H0 G
  leF : Le F G
  dis : ∀ c, H0 c ≠ none → F c = none
  own : ∀ c, c = b3 ∨ c = b4 ∨ c = b5 ∨ c = b6 ∨ c = bN → H0 c = none ∧ F c = none
  ne : b3 ≠ b4 ∧ b3 ≠ b5 ∧ b3 ≠ b6 ∧ b4 ≠ b5 ∧ b4 ≠ b6 ∧ b5 ≠ b6 ∧ bN ≠ b3 ∧ bN ≠ b4 ∧ bN ≠ b5 ∧ bN ≠ b6
  g4 : G b4 = some (frB frI)
  g5 : G b5 = some (natB D)
  g6 : G b6 = some (natB P)
  nodes : ∃ vN nf, G b3 = some (fblk 2 (lget [vN, i16 0]) 25) ∧ OwnS 4 102 G vN cnt nf (some bN) ∧ ∀ q, q < i → NodeC F nf q (T q)
theorem OwnS.keep {s : Nat} {e : TypeId} {G G' : Heap} {v : Value} {n : Nat} {f : Nat → Value} {ob : Option Nat} (h : OwnS s e G v n f ob) (k : ∀ b, ob = some b → G' b = G b) : OwnS s e G' v n f ob := by
  rcases h.is with h1 | ⟨b, cap, f', h1, h2, h3, h4, h5⟩
  · exact ⟨.inl h1⟩
  · exact ⟨.inr ⟨b, cap, f', h1, h2, h3, by rw [k b h3]; exact h4, h5⟩⟩
/-- a change to a block that Norm does not know -/
theorem NHp.other {H0 F G : Heap} {b3 b4 b5 b6 bN : Nat} {i cnt : Nat} {T : Nat → NodeL} {frI : Nat → Int16} {D P : Nat → Nat} (h : NHp H0 F G b3 b4 b5 b6 bN i cnt T frI D P) {G' : Heap}
    (k0 : ∀ c, H0 c ≠ none → G' c = G c) (kF : ∀ c, F c ≠ none → G' c = G c) (ko : ∀ c, c = b3 ∨ c = b4 ∨ c = b5 ∨ c = b6 ∨ c = bN → G' c = G c) : NHp H0 F G' b3 b4 b5 b6 bN i cnt T frI D P := by
  obtain ⟨vN, nf, h1, h2, h3⟩ := h.nodes
  refine ⟨?_, ?_, h.dis, h.own, h.ne, ?_, ?_, ?_, vN, nf, ?_, ?_, h3⟩
  · intro c x hx; rw [k0 c (by rw [hx]; simp)]; exact h.le0 c x hx
  · intro c x hx; rw [kF c (by rw [hx]; simp)]; exact h.leF c x hx
  · rw [ko b4 (by simp)]; exact h.g4
  · rw [ko b5 (by simp)]; exact h.g5
  · rw [ko b6 (by simp)]; exact h.g6
  · rw [ko b3 (by simp)]; exact h1
  · exact h2.keep fun b hb => ko b (by cases hb; simp)
theorem NHp.set4 {H0 F G : Heap} {b3 b4 b5 b6 bN : Nat} {i cnt : Nat} {T : Nat → NodeL} {frI : Nat → Int16} {D P : Nat → Nat} (h : NHp H0 F G b3 b4 b5 b6 bN i cnt T frI D P) (fr' : Nat → Int16) :
    NHp H0 F (upd G b4 (some (frB fr'))) b3 b4 b5 b6 bN i cnt T fr' D P := by
  obtain ⟨vN, nf, h1, h2, h3⟩ := h.nodes
  obtain ⟨e1, e2, e3, e4, e5, e6, e7, e8, e9, e10⟩ := h.ne
  have ho := h.own b4 (by simp)
  refine ⟨h.le0.fresh ho.1 _, h.leF.fresh ho.2 _, h.dis, h.own, h.ne, upd_same _ _ _, ?_, ?_, vN, nf, ?_, ?_, h3⟩
  · rw [upd_ne _ _ _ _ (Ne.symm e4)]; exact h.g5
  · rw [upd_ne _ _ _ _ (Ne.symm e5)]; exact h.g6
  · rw [upd_ne _ _ _ _ e1]; exact h1
  · exact h2.keep fun b hb => by cases hb; exact upd_ne _ _ _ _ e8
theorem NHp.set5 {H0 F G : Heap} {b3 b4 b5 b6 bN : Nat} {i cnt : Nat} {T : Nat → NodeL} {frI : Nat → Int16} {D P : Nat → Nat} (h : NHp H0 F G b3 b4 b5 b6 bN i cnt T frI D P) (D' : Nat → Nat) :
    NHp H0 F (upd G b5 (some (natB D'))) b3 b4 b5 b6 bN i cnt T frI D' P := by
  obtain ⟨vN, nf, h1, h2, h3⟩ := h.nodes
  obtain ⟨e1, e2, e3, e4, e5, e6, e7, e8, e9, e10⟩ := h.ne
  have ho := h.own b5 (by simp)
  refine ⟨h.le0.fresh ho.1 _, h.leF.fresh ho.2 _, h.dis, h.own, h.ne, ?_, upd_same _ _ _, ?_, vN, nf, ?_, ?_, h3⟩
  · rw [upd_ne _ _ _ _ e4]; exact h.g4
  · rw [upd_ne _ _ _ _ (Ne.symm e6)]; exact h.g6
  · rw [upd_ne _ _ _ _ e2]; exact h1
  · exact h2.keep fun b hb => by cases hb; exact upd_ne _ _ _ _ e9
theorem NHp.set6 {H0 F G : Heap} {b3 b4 b5 b6 bN : Nat} {i cnt : Nat} {T : Nat → NodeL} {frI : Nat → Int16} {D P : Nat → Nat} (h : NHp H0 F G b3 b4 b5 b6 bN i cnt T frI D P) (P' : Nat → Nat) :
    NHp H0 F (upd G b6 (some (natB P'))) b3 b4 b5 b6 bN i cnt T frI D P' := by
  obtain ⟨vN, nf, h1, h2, h3⟩ := h.nodes
  obtain ⟨e1, e2, e3, e4, e5, e6, e7, e8, e9, e10⟩ := h.ne
  have ho := h.own b6 (by simp)
  refine ⟨h.le0.fresh ho.1 _, h.leF.fresh ho.2 _, h.dis, h.own, h.ne, ?_, ?_, upd_same _ _ _, vN, nf, ?_, ?_, h3⟩
  · rw [upd_ne _ _ _ _ e5]; exact h.g4
  · rw [upd_ne _ _ _ _ e6]; exact h.g5
  · rw [upd_ne _ _ _ _ e3]; exact h1
  · exact h2.keep fun b hb => by cases hb; exact upd_ne _ _ _ _ e10

theorem NHp.dom {H0 F G : Heap} {b3 b4 b5 b6 bN : Nat} {i cnt : Nat} {T : Nat → NodeL} {frI : Nat → Int16} {D P : Nat → Nat} (h : NHp H0 F G b3 b4 b5 b6 bN i cnt T frI D P) {c : Nat} (hc : G c = none) :
    H0 c = none ∧ F c = none ∧ c ≠ b3 ∧ c ≠ b4 ∧ c ≠ b5 ∧ c ≠ b6 ∧ c ≠ bN := by
  obtain ⟨vN, nf, h1, h2, h3⟩ := h.nodes
  refine ⟨?_, ?_, ?_, ?_, ?_, ?_, ?_⟩
  · cases e : H0 c with
    | none => rfl
    | some x => have := h.le0 c x e; rw [hc] at this; cases this
  · cases e : F c with
    | none => rfl
    | some x => have := h.leF c x e; rw [hc] at this; cases this
  · rintro rfl; rw [h1] at hc; cases hc
  · rintro rfl; rw [h.g4] at hc; cases hc
  · rintro rfl; rw [h.g5] at hc; cases hc
  · rintro rfl; rw [h.g6] at hc; cases hc
  · rintro rfl
    rcases h2.is with ⟨_, _, h4⟩ | ⟨b, cap, nf', _, _, hb, hG, _⟩
    · cases h4
    · cases hb; rw [hG] at hc; cases hc
/-- a change to a block outside -/
theorem NHp.out1 {H0 F G : Heap} {b3 b4 b5 b6 bN : Nat} {i cnt : Nat} {T : Nat → NodeL} {frI : Nat → Int16} {D P : Nat → Nat} (h : NHp H0 F G b3 b4 b5 b6 bN i cnt T frI D P) {c : Nat}
    (hc : H0 c = none ∧ F c = none ∧ c ≠ b3 ∧ c ≠ b4 ∧ c ≠ b5 ∧ c ≠ b6 ∧ c ≠ bN) (x : Option Obj) : NHp H0 F (upd G c x) b3 b4 b5 b6 bN i cnt T frI D P := by
  refine h.other (fun d hd => upd_ne _ _ _ _ (ne_fresh hd hc.1)) (fun d hd => upd_ne _ _ _ _ (ne_fresh hd hc.2.1)) ?_
  rintro d (rfl | rfl | rfl | rfl | rfl)
  · exact upd_ne _ _ _ _ (Ne.symm hc.2.2.1)
  · exact upd_ne _ _ _ _ (Ne.symm hc.2.2.2.1)
  · exact upd_ne _ _ _ _ (Ne.symm hc.2.2.2.2.1)
  · exact upd_ne _ _ _ _ (Ne.symm hc.2.2.2.2.2.1)
  · exact upd_ne _ _ _ _ (Ne.symm hc.2.2.2.2.2.2)
/-- what stands outside becomes a part of the tree -/
theorem NHp.freeze {H0 F G : Heap} {b3 b4 b5 b6 bN : Nat} {i cnt : Nat} {T : Nat → NodeL} {frI : Nat → Int16} {D P : Nat → Nat} (h : NHp H0 F G b3 b4 b5 b6 bN i cnt T frI D P) {c : Nat}
    (hc : H0 c = none ∧ F c = none ∧ c ≠ b3 ∧ c ≠ b4 ∧ c ≠ b5 ∧ c ≠ b6 ∧ c ≠ bN) : NHp H0 (upd F c (G c)) G b3 b4 b5 b6 bN i cnt T frI D P := by
  obtain ⟨vN, nf, h1, h2, h3⟩ := h.nodes
  have hl : Le F (upd F c (G c)) := (Le.refl F).fresh hc.2.1 _
  refine ⟨h.le0, ?_, ?_, ?_, h.ne, h.g4, h.g5, h.g6, vN, nf, h1, h2, fun q hq => (h3 q hq).le hl (fun _ _ => rfl)⟩
  · intro d x hx
    by_cases e : d = c
    · subst e; rw [upd_same] at hx; exact hx
    · rw [upd_ne _ _ _ _ e] at hx; exact h.leF d x hx
  · intro d hd
    rw [upd_ne _ _ _ _ (ne_fresh hd hc.1)]; exact h.dis d hd
  · intro d hd
    refine ⟨(h.own d hd).1, ?_⟩
    rw [upd_ne]
    · exact (h.own d hd).2
    · rintro rfl
      rcases hd with e | e | e | e | e
      · exact hc.2.2.1 e
      · exact hc.2.2.2.1 e
      · exact hc.2.2.2.2.1 e
      · exact hc.2.2.2.2.2.1 e
      · exact hc.2.2.2.2.2.2 e
theorem sized_n {H0 F G : Heap} {b3 b4 b5 b6 bN : Nat} {i cnt : Nat} {T : Nat → NodeL} {frI : Nat → Int16} {D P : Nat → Nat} (h : NHp H0 F G b3 b4 b5 b6 bN i cnt T frI D P) {v : Value} {m : Nat} {A : Nat → UInt64} (hv : SlU H0 v m A) (n : Nat) (hn : n ≤ 1000) :
    Fn Fabg.prog 85 #[v, .int .i64 n] G (fun r G' => ∃ F', NHp H0 F' G' b3 b4 b5 b6 bN i cnt T frI D P ∧ Le F F' ∧ (∀ c, G c ≠ none → G' c = G c) ∧ (∀ c, G c ≠ none → F c = none → F' c = none) ∧ SlU F' r n (fun i => if i < m then A i else 0)) := by
  refine (sized_ok v m A n G (hv.le h.le0) hn).mono ?_
  rintro r G' (⟨rfl, rfl, rfl⟩ | ⟨h0, b, hb, rfl, rfl⟩)
  · exact ⟨F, h, Le.refl _, fun _ _ => rfl, fun _ _ e => e, .inl ⟨_, _, rfl, rfl⟩⟩
  · have hd := h.dom hb
    have h1 := h.out1 hd (some (fblk n (fun i => u64 (if i < m then A i else 0)) 30))
    refine ⟨_, h1.freeze hd, (Le.refl F).fresh hd.2.1 _, fun c hc => upd_ne _ _ _ _ (ne_fresh hc hb), ?_, .inr ⟨b, 0, n, rfl, h0, ?_⟩⟩
    · intro c hc he
      rw [upd_ne _ _ _ _ (ne_fresh hc hb)]; exact he
    · intro i hi
      rw [rd_eq, upd_same, upd_same, rdO_fblk, if_pos (by omega), Nat.zero_add]

def frN (frI : Nat → Int16) (q : Nat) : Nat := (frI q).toInt.toNat
theorem frN_upd (frI : Nat → Int16) (c : Nat) (x : Int16) : frN (upd frI c x) = upd (frN frI) c x.toInt.toNat := by
  funext q; unfold frN; simp only [upd_get]; split <;> rfl
theorem NInv.start {N : Nat → NodeL} {cntN rt : Nat} (hs : ShapedAll N cntN) (hr : rt < cntN) (T : Nat → NodeL) (fr : Nat → Nat) (D P : Nat → Nat) (h0 : fr 0 = rt) (hD : D 0 = trimD (N rt).dat (N rt).nd) (hP : P 0 = trimK (N rt).kid (N rt).nk) :
    NInv N cntN rt 0 1 T fr (fun _ => false) D P := by
  refine ⟨by omega, by omega, ⟨h0, rfl⟩, ?_, (fun q hq => by omega), ?_⟩
  · intro q hq
    have e : q = 0 := by omega
    subst e
    refine ⟨by rw [h0]; exact hr, ?_⟩
    rw [h0, hD, hP]
    intro h1
    have h8 := (hs _ hr).struct h1
    have t1 := trimD_le (N rt).dat (N rt).nd
    have t2 := trimK_le (N rt).kid (N rt).nk
    exact ⟨Nat.le_refl _, by omega, Nat.le_refl _, by omega, fun _ => ⟨rfl, rfl⟩⟩
  · simp only [sumK, gq]
    rw [if_neg (by omega), h0]; omega
/-- the end of Norm's loop -/
theorem NHp.out {H0 F G : Heap} {b3 b4 b5 b6 bN : Nat} {cnt : Nat} {T : Nat → NodeL} {frI : Nat → Int16} {D P : Nat → Nat} (h : NHp H0 F G b3 b4 b5 b6 bN cnt cnt T frI D P) (hc : 0 < cnt) (hm : cnt ≤ 1000) :
    ∃ F', Le F' G ∧ (∀ c, H0 c ≠ none → F' c = none) ∧ TreeAt F' b3 0 T cnt 0 := by
  obtain ⟨vN, nf, h1, h2, h3⟩ := h.nodes
  rcases h2.is with ⟨_, h4, _⟩ | ⟨b, cap, nf', rfl, hcap, hb, hG, hnf⟩
  · omega
  cases hb
  have o3 := h.own b3 (by simp)
  have oN := h.own bN (by simp)
  have n3 : bN ≠ b3 := h.ne.2.2.2.2.2.2.1
  refine ⟨upd (upd F b3 (G b3)) bN (G bN), ?_, ?_, ?_⟩
  · intro c x hx
    by_cases e : c = bN
    · subst e; rw [upd_same] at hx; exact hx
    · rw [upd_ne _ _ _ _ e] at hx
      by_cases e2 : c = b3
      · subst e2; rw [upd_same] at hx; exact hx
      · rw [upd_ne _ _ _ _ e2] at hx; exact h.leF c x hx
  · intro c hc
    rw [upd_ne _ _ _ _ (ne_fresh hc oN.1), upd_ne _ _ _ _ (ne_fresh hc o3.1)]
    exact h.dis c hc
  · have hle : Le F (upd (upd F b3 (G b3)) bN (G bN)) := ((Le.refl F).fresh o3.2 _).fresh oN.2 _
    refine ⟨sl bN 0 cnt cap, ?_, ?_, .inr ⟨bN, 0, cap, rfl, hc, ?_⟩, by omega⟩
    · rw [rd_eq, upd_ne _ _ _ _ (Ne.symm n3), upd_same, h1, rdO_fblk, if_pos (by omega)]; rfl
    · rw [rd_eq, upd_ne _ _ _ _ (Ne.symm n3), upd_same, h1, rdO_fblk, if_pos (by omega)]; rfl
    · intro q hq
      obtain ⟨vd, vk, k1, k2, k3, k4, k5, k6, k7⟩ := h3 q hq
      have hr : ∀ j, j < 4 → rd (upd (upd F b3 (G b3)) bN (G bN)) bN (0 + q * 4 + j) = some (nf (q * 4 + j)) := by
        intro j hj
        rw [rd_eq, upd_same, hG, rdO_fblk, if_pos (by omega), Nat.zero_add, hnf _ (by omega)]
      refine ⟨vd, vk, ?_, ?_, ?_, ?_, k5.le hle, k6.le hle, k7⟩
      · have := hr 0 (by omega); rw [Nat.add_zero, Nat.add_zero] at this; rw [this, k1]
      · rw [hr 1 (by omega), k2]
      · rw [hr 2 (by omega), k3]
      · rw [hr 3 (by omega), k4]

end Eng
end Go.Proofs.Ygcfab
