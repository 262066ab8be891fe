/-
  Package build: what stands in a builder.
-/
import Derived.Test.YgcfabEb6
set_option linter.unusedSimpArgs false
set_option linter.unusedVariables false
set_option maxRecDepth 100000
namespace Go.Proofs.Ygcfab
namespace Eng
section
variable {H : Heap} {k : Value → Heap → Prop}
theorem app_74 {ty : TypeId} {v : Value} {n : Nat} {f : Nat → Value} {ob : Option Nat} (h : OwnS 6 60 H v n f ob) {x : Value} {m : Nat} {xs : List Value} (hx : SrcS H x m 6 xs) (hx1 : ∀ v, v ∈ xs → v.oneCell' = true) (hn : n + m ≤ 1000)
    (hk : ∀ v' G' ob', OwnS 6 60 G' v' (n + m) (appF 6 n f xs) ob' → (∀ c, ob ≠ some c → H c ≠ none → G' c = H c) → (ob' = ob ∨ ∃ c, ob' = some c ∧ H c = none) → k v' G') :
    runH Fabg.prog (Builtin.append_ #[74, 74] ty #[v, x]) H k := by
  obtain ⟨inf, h1, h2⟩ := info_of (P := Fabg.prog) (e := 60) (B := 10) (by kernel_rfl)
  exact append_intro (s := 6) Fabg.underlying74 (fun _ _ => by kernel_rfl) (z := pv Ptr.zero) (fun _ _ => by kernel_rfl) rfl h2 (by rw [h1]; decide) h hx hx1 hn (by decide) hk
theorem app_39 {ty : TypeId} {v : Value} {n : Nat} {f : Nat → Value} {ob : Option Nat} (h : OwnS 1 5 H v n f ob) {x : Value} {m : Nat} {xs : List Value} (hx : SrcS H x m 1 xs) (hx1 : ∀ v, v ∈ xs → v.oneCell' = true) (hn : n + m ≤ 1000)
    (hk : ∀ v' G' ob', OwnS 1 5 G' v' (n + m) (appF 1 n f xs) ob' → (∀ c, ob ≠ some c → H c ≠ none → G' c = H c) → (ob' = ob ∨ ∃ c, ob' = some c ∧ H c = none) → k v' G') :
    runH Fabg.prog (Builtin.append_ #[39, 39] ty #[v, x]) H k := by
  obtain ⟨inf, h1, h2⟩ := info_of (P := Fabg.prog) (e := 5) (B := 1) (by kernel_rfl)
  exact append_intro (s := 1) Fabg.underlying39 (fun _ _ => by kernel_rfl) (z := u8 0) (fun _ _ => by kernel_rfl) rfl h2 (by rw [h1]; decide) h hx hx1 hn (by decide) hk
theorem app_75 {ty : TypeId} {v : Value} {n : Nat} {f : Nat → Value} {ob : Option Nat} (h : OwnS 1 4 H v n f ob) {x : Value} {m : Nat} {xs : List Value} (hx : SrcS H x m 1 xs) (hx1 : ∀ v, v ∈ xs → v.oneCell' = true) (hn : n + m ≤ 1000)
    (hk : ∀ v' G' ob', OwnS 1 4 G' v' (n + m) (appF 1 n f xs) ob' → (∀ c, ob ≠ some c → H c ≠ none → G' c = H c) → (ob' = ob ∨ ∃ c, ob' = some c ∧ H c = none) → k v' G') :
    runH Fabg.prog (Builtin.append_ #[75, 75] ty #[v, x]) H k := by
  obtain ⟨inf, h1, h2⟩ := info_of (P := Fabg.prog) (e := 4) (B := 1) (by kernel_rfl)
  exact append_intro (s := 1) Fabg.underlying75 (fun _ _ => by kernel_rfl) (z := .bool false) (fun _ _ => by kernel_rfl) rfl h2 (by rw [h1]; decide) h hx hx1 hn (by decide) hk
theorem bs_74 (p : Ptr) : runH Fabg.prog (Instr.buildSlice 74 1 #[(0, pv p)]) H k = AllocS H (fblk 6 (lget (pl p)) 60) 1 1 k := by
  have key : runH Fabg.prog (Instr.buildSlice 74 1 #[(0, pv p)]) H k = ∀ b, H b = none → k (.slice (some ⟨b, 0, none⟩) 1 1) (upd H b (some (.cells (pl p).toArray 60 (0, 0)))) := by kernel_rfl
  rw [key, cells_of_list, pl_len]
  exact propext ⟨fun h => ⟨h⟩, fun h => h.run⟩
theorem bs_39 (x : UInt8) : runH Fabg.prog (Instr.buildSlice 39 1 #[(0, u8 x)]) H k = AllocS H (fblk 1 (lget [u8 x]) 5) 1 1 k := by
  have key : runH Fabg.prog (Instr.buildSlice 39 1 #[(0, u8 x)]) H k = ∀ b, H b = none → k (.slice (some ⟨b, 0, none⟩) 1 1) (upd H b (some (.cells [u8 x].toArray 5 (0, 0)))) := by kernel_rfl
  rw [key, cells_of_list]
  exact propext ⟨fun h => ⟨h⟩, fun h => h.run⟩
theorem bs_75 (x : Bool) : runH Fabg.prog (Instr.buildSlice 75 1 #[(0, .bool x)]) H k = AllocS H (fblk 1 (lget [.bool x]) 4) 1 1 k := by
  have key : runH Fabg.prog (Instr.buildSlice 75 1 #[(0, .bool x)]) H k = ∀ b, H b = none → k (.slice (some ⟨b, 0, none⟩) 1 1) (upd H b (some (.cells [.bool x].toArray 4 (0, 0)))) := by kernel_rfl
  rw [key, cells_of_list]
  exact propext ⟨fun h => ⟨h⟩, fun h => h.run⟩
end
/-- the cells of an element of slice i, and its type -/
def bs : Nat → Nat
  | 1 => 6
  | _ => 1
def be : Nat → TypeId
  | 0 => 30
  | 1 => 60
  | 5 => 4
  | _ => 5
def bc (v : Nat → Value) (w : Nat → UInt64) : Nat → Value := lget [v 0, u64 (w 0), u64 (w 1), u64 (w 2), u64 (w 3), v 1, v 2, v 3, v 4, v 5]
/-- a builder's six slices, whatever its own block says -/
structure BdV (H0 G : Heap) (bb : Nat) (v : Nat → Value) (n : Nat → Nat) (f : Nat → Nat → Value) : Prop where
  le0 : Le H0 G
  own : H0 bb = none
  blk : ∃ o : Nat → Option Nat, (∀ i, i < 6 → OwnS (bs i) (be i) G (v i) (n i) (f i) (o i)) ∧ (∀ i c, i < 6 → o i = some c → H0 c = none ∧ c ≠ bb) ∧ (∀ i j c, i < 6 → j < 6 → o i = some c → o j = some c → i = j)
structure BdH (H0 G : Heap) (bb : Nat) (n : Nat → Nat) (f : Nat → Nat → Value) : Prop where
  is : ∃ v w, G bb = some (fblk 10 (bc v w) 77) ∧ BdV H0 G bb v n f
section
variable {H0 G : Heap} {bb : Nat} {v : Nat → Value} {n : Nat → Nat} {f : Nat → Nat → Value}
theorem BdV.setE (h : BdV H0 G bb v n f) (y : Option Obj) : BdV H0 (upd G bb y) bb v n f := by
  obtain ⟨o, k1, k2, k3⟩ := h.blk
  exact ⟨h.le0.fresh h.own _, h.own, o, fun i hi => (k1 i hi).keep (fun c hc => upd_ne _ _ _ _ (k2 i c hi hc).2), k2, k3⟩
theorem BdV.rebase (h : BdV H0 G bb v n f) {b : Nat} (hb : G b = none) (hbe : b ≠ bb) (y : Obj) : BdV (upd H0 b (some y)) (upd G b (some y)) bb v n f := by
  obtain ⟨o, k1, k2, k3⟩ := h.blk
  have hA : ∀ i c, i < 6 → o i = some c → c ≠ b := fun i c hi hc => ne_fresh ((k1 i hi).dom c hc) hb
  refine ⟨?_, by rw [upd_ne _ _ _ _ (Ne.symm hbe)]; exact h.own, o, fun i hi => (k1 i hi).keep (fun c hc => upd_ne _ _ _ _ (hA i c hi hc)), fun i c hi hc => ?_, k3⟩
  · intro c z hz
    by_cases e : c = b
    · subst e; rw [upd_same] at hz ⊢; exact hz
    · rw [upd_ne _ _ _ _ e] at hz ⊢; exact h.le0 c z hz
  · rw [upd_ne _ _ _ _ (hA i c hi hc)]; exact k2 i c hi hc
theorem BdV.le {G' : Heap} (h : BdV H0 G bb v n f) (l : Le G G') : BdV H0 G' bb v n f := by
  obtain ⟨o, k1, k2, k3⟩ := h.blk
  refine ⟨h.le0.trans l, h.own, o, fun i hi => (k1 i hi).keep (fun c hc => ?_), k2, k3⟩
  have hd := (k1 i hi).dom c hc
  cases e : G c with
  | none => exact absurd e hd
  | some z => exact l c z e
theorem BdV.weaken {H1 : Heap} (h : BdV H1 G bb v n f) (l : Le H0 H1) : BdV H0 G bb v n f := by
  obtain ⟨o, k1, k2, k3⟩ := h.blk
  exact ⟨l.trans h.le0, le_none l h.own, o, k1, fun i c hi hc => ⟨le_none l (k2 i c hi hc).1, (k2 i c hi hc).2⟩, k3⟩
theorem BdV.congr {n' : Nat → Nat} {f' : Nat → Nat → Value} (h : BdV H0 G bb v n f) (hn : ∀ i, i < 6 → n' i = n i) (hf : ∀ i, i < 6 → ∀ j, j < n i * bs i → f i j = f' i j) : BdV H0 G bb v n' f' := by
  obtain ⟨o, k1, k2, k3⟩ := h.blk
  refine ⟨h.le0, h.own, o, fun i hi => ?_, k2, k3⟩
  rw [hn i hi]
  exact (k1 i hi).congr (hf i hi)
/-- a slice of the builder is appended to -/
theorem BdV.post (h : BdV H0 G bb v n f) (hge : G bb ≠ none) (i : Nat) (hi : i < 6) : ∃ ob, OwnS (bs i) (be i) G (v i) (n i) (f i) ob ∧
    ∀ v' G' ob' n' f', OwnS (bs i) (be i) G' v' n' f' ob' → (∀ c, ob ≠ some c → G c ≠ none → G' c = G c) → (ob' = ob ∨ ∃ c, ob' = some c ∧ G c = none) →
      G' bb = G bb ∧ BdV H0 G' bb (upd v i v') (upd n i n') (upd f i f') ∧ ∀ c z, H0 c = some z → G' c = some z := by
  obtain ⟨o, k1, k2, k3⟩ := h.blk
  refine ⟨o i, k1 i hi, fun v' G' ob' n' f' a1 a2 a3 => ?_⟩
  have hne : o i ≠ some bb := fun e => (k2 i bb hi e).2 rfl
  have hob : ∀ c, ob' = some c → o i = some c ∨ G c = none := by
    intro c hc
    rcases a3 with a3 | ⟨d, a3, a4⟩
    · exact .inl (a3 ▸ hc)
    · rw [a3] at hc; cases hc; exact .inr a4
  have hle : Le H0 G' := by
    intro c z hz
    have hG := h.le0 c z hz
    rw [a2 c (fun e => by have := (k2 i c hi e).1; rw [hz] at this; cases this) (by rw [hG]; simp)]
    exact hG
  refine ⟨a2 bb hne hge, ⟨hle, h.own, upd o i ob', fun j hj => ?_, fun j c hj hc => ?_, fun j l c hj hl h1 h2 => ?_⟩, hle⟩
  · by_cases e : j = i
    · subst e; rw [upd_same, upd_same, upd_same, upd_same]; exact a1
    · rw [upd_ne _ _ _ _ e, upd_ne _ _ _ _ e, upd_ne _ _ _ _ e, upd_ne _ _ _ _ e]
      exact (k1 j hj).keep (fun c hc => a2 c (fun e2 => e (k3 j i c hj hi hc e2)) ((k1 j hj).dom c hc))
  · by_cases e : j = i
    · subst e
      rw [upd_same] at hc
      rcases hob c hc with h' | h'
      · exact k2 j c hj h'
      · exact ⟨le_none h.le0 h', fun e => by rw [e] at h'; exact hge h'⟩
    · rw [upd_ne _ _ _ _ e] at hc
      exact k2 j c hj hc
  · by_cases e : j = i
    · by_cases e' : l = i
      · rw [e, e']
      · subst e
        rw [upd_same] at h1
        rw [upd_ne _ _ _ _ e'] at h2
        rcases hob c h1 with h' | h'
        · exact k3 j l c hj hl h' h2
        · exact absurd h' ((k1 l hl).dom c h2)
    · rw [upd_ne _ _ _ _ e] at h1
      by_cases e' : l = i
      · subst e'
        rw [upd_same] at h2
        rcases hob c h2 with h' | h'
        · exact k3 j l c hj hl h1 h'
        · exact absurd h' ((k1 j hj).dom c h1)
      · rw [upd_ne _ _ _ _ e'] at h2
        exact k3 j l c hj hl h1 h2
/-- a slice of the builder, opened -/
theorem BdV.wopen (h : BdV H0 G bb v n f) (i : Nat) (hi : i < 6) (hp : 1 ≤ n i) : ∃ b cap g, v i = sl b 0 (n i) cap ∧ n i ≤ cap ∧ G b = some (fblk (cap * bs i) g (be i)) ∧ (∀ j, j < n i * bs i → g j = f i j) ∧ b ≠ bb ∧ H0 b = none ∧
    (∀ g' f', (∀ j, j < n i * bs i → g' j = f' j) → BdV H0 (upd G b (some (fblk (cap * bs i) g' (be i)))) bb v n (upd f i f')) := by
  obtain ⟨o, k1, k2, k3⟩ := h.blk
  rcases (k1 i hi).is with ⟨_, h0, _⟩ | ⟨b, cap, g, e1, hcap, e2, hG, hg⟩
  · omega
  have hb := k2 i b hi e2
  refine ⟨b, cap, g, e1, hcap, hG, hg, hb.2, hb.1, fun g' f' hgf => ⟨h.le0.fresh hb.1 _, h.own, o, fun j hj => ?_, k2, k3⟩⟩
  by_cases e : j = i
  · subst e
    rw [upd_same]
    exact ⟨.inr ⟨b, cap, g', e1, hcap, e2, upd_same _ _ _, hgf⟩⟩
  · rw [upd_ne _ _ _ _ e]
    exact (k1 j hj).keep (fun c hc => upd_ne _ _ _ _ (fun e3 => e (k3 j i c hj hi hc (by rw [e2, e3]))))
end
end Eng
end Go.Proofs.Ygcfab
