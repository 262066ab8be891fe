/-
  Trees, without Go: weights of a tree, folded from its nodes; depth.
-/
import Derived.Test.YgcfabTree2
set_option linter.unusedSimpArgs false
set_option linter.unusedVariables false
namespace Go.Proofs.Ygcfab
namespace Eng

def sumK (g : Nat → Nat) : Nat → Nat
  | 0 => 0
  | k + 1 => sumK g k + g k
theorem sumK_congr {g h : Nat → Nat} : ∀ k, (∀ j, j < k → g j = h j) → sumK g k = sumK h k
  | 0, _ => rfl
  | k + 1, e => by rw [sumK, sumK, sumK_congr k (fun j hj => e j (by omega)), e k (by omega)]
theorem sumK_zero {g : Nat → Nat} : ∀ k, (∀ j, j < k → g j = 0) → sumK g k = 0
  | 0, _ => rfl
  | k + 1, e => by rw [sumK, sumK_zero k (fun j hj => e j (by omega)), e k (by omega)]
theorem sumK_upd (g : Nat → Nat) (c v : Nat) : ∀ k, c < k → sumK (upd g c v) k + g c = sumK g k + v
  | 0, h => by omega
  | k + 1, h => by
    by_cases e : c = k
    · subst e
      rw [sumK, sumK, upd_same, sumK_congr c (h := g) (fun j hj => upd_ne _ _ _ _ (by omega))]
      omega
    · have := sumK_upd g c v k (by omega)
      rw [sumK, sumK, upd_ne _ _ _ _ (by omega)]
      omega
theorem sumK_mono {g h : Nat → Nat} : ∀ k, (∀ j, j < k → g j ≤ h j) → sumK g k ≤ sumK h k
  | 0, _ => Nat.le_refl _
  | k + 1, e => by
    have h1 := sumK_mono k (fun j hj => e j (by omega))
    have h2 := e k (by omega)
    simp only [sumK]; omega
theorem sumK_le_of {g : Nat → Nat} (k j : Nat) (h : j < k) : g j ≤ sumK g k := by
  induction k with
  | zero => omega
  | succ k ih =>
    simp only [sumK]
    by_cases e : j = k
    · subst e; omega
    · have := ih (by omega); omega

def inl (n : NodeL) : Bool := n.kind == 2 && n.code == 7
def kidI (n : NodeL) (j : Nat) : Nat := (n.kid j).toInt.toNat
def foldT (own : Bool → NodeL → Nat) (N : Nat → NodeL) : Nat → Bool → Nat → Nat
  | 0, _, _ => 0
  | f + 1, el, i => own el (N i) + sumK (fun j => if (N i).kid j = -1 then 0 else foldT own N f (inl (N i)) (kidI (N i) j)) (N i).nk
def Above (N : Nat → NodeL) (cnt : Nat) : Prop := ∀ i, i < cnt → KidsOK (N i) cnt i (N i).nk
theorem Above.kid {N : Nat → NodeL} {cnt : Nat} (h : Above N cnt) {i j : Nat} (hi : i < cnt) (hj : j < (N i).nk) (hk : (N i).kid j ≠ -1) : i < kidI (N i) j ∧ kidI (N i) j < cnt := by
  have := (h i hi j hj).resolve_left hk
  unfold kidI
  omega
theorem foldT_fuel (own : Bool → NodeL → Nat) {N : Nat → NodeL} {cnt : Nat} (h : Above N cnt) : ∀ (f f' : Nat) (el : Bool) (i : Nat), i < cnt → cnt - i ≤ f → cnt - i ≤ f' → foldT own N f el i = foldT own N f' el i
  | 0, f', el, i, hi, h1, h2 => by omega
  | f + 1, 0, el, i, hi, h1, h2 => by omega
  | f + 1, f' + 1, el, i, hi, h1, h2 => by
    rw [foldT, foldT]
    congr 1
    apply sumK_congr
    intro j hj
    split
    · rfl
    · rename_i hk
      have := h.kid hi hj hk
      exact foldT_fuel own h f f' _ _ this.2 (by omega) (by omega)
def wt (own : Bool → NodeL → Nat) (N : Nat → NodeL) (cnt : Nat) (el : Bool) (i : Nat) : Nat := foldT own N cnt el i
def kidW (w : Bool → Nat → Nat) (n : NodeL) (j : Nat) : Nat := if n.kid j = -1 then 0 else w (inl n) (kidI n j)
theorem wt_eq (own : Bool → NodeL → Nat) {N : Nat → NodeL} {cnt : Nat} (h : Above N cnt) (el : Bool) (i : Nat) (hi : i < cnt) :
    wt own N cnt el i = own el (N i) + sumK (kidW (wt own N cnt) (N i)) (N i).nk := by
  unfold wt
  rw [foldT_fuel own h cnt (cnt + 1) el i hi (by omega) (by omega), foldT]
  congr 1
def below (d : Nat) (n : NodeL) : Nat := if inl n then d else d + 1
def deepT (N : Nat → NodeL) : Nat → Nat → Nat → Prop
  | 0, _, _ => True
  | f + 1, i, d => ∀ j, j < (N i).nk → (N i).kid j ≠ -1 → below d (N i) ≤ 8 ∧ deepT N f (kidI (N i) j) (below d (N i))
theorem deepT_fuel {N : Nat → NodeL} {cnt : Nat} (h : Above N cnt) : ∀ (f f' : Nat) (i d : Nat), i < cnt → cnt - i ≤ f → cnt - i ≤ f' → deepT N f i d → deepT N f' i d
  | 0, f', i, d, hi, h1, h2, _ => by omega
  | f + 1, 0, i, d, hi, h1, h2, _ => by omega
  | f + 1, f' + 1, i, d, hi, h1, h2, hd => by
    intro j hj hk
    have := h.kid hi hj hk
    exact ⟨(hd j hj hk).1, deepT_fuel h f f' _ _ this.2 (by omega) (by omega) (hd j hj hk).2⟩
def deep (N : Nat → NodeL) (cnt i d : Nat) : Prop := deepT N cnt i d
theorem deep_of {N : Nat → NodeL} {cnt : Nat} (h : Above N cnt) {i d : Nat} (hi : i < cnt)
    (hd : ∀ j, j < (N i).nk → (N i).kid j ≠ -1 → below d (N i) ≤ 8 ∧ deep N cnt (kidI (N i) j) (below d (N i))) : deep N cnt i d :=
  deepT_fuel h (cnt + 1) cnt i d hi (by omega) (by omega) hd
theorem deep_kid {N : Nat → NodeL} {cnt : Nat} (h : Above N cnt) {i d j : Nat} (hi : i < cnt) (hd : deep N cnt i d) (hj : j < (N i).nk) (hk : (N i).kid j ≠ -1) :
    below d (N i) ≤ 8 ∧ deep N cnt (kidI (N i) j) (below d (N i)) := deepT_fuel h cnt (cnt + 1) i d hi (by omega) (by omega) hd j hj hk

/-- no node is the kid of two, and the root is nobody's -/
structure OneUp (N : Nat → NodeL) (cnt : Nat) (root : Int16) : Prop where
  one : ∀ i j i' j', i < cnt → i' < cnt → j < (N i).nk → j' < (N i').nk → (N i).kid j ≠ -1 → (N i).kid j = (N i').kid j' → i = i' ∧ j = j'
  root : ∀ i j, i < cnt → j < (N i).nk → (N i).kid j ≠ -1 → (N i).kid j ≠ root
def ownS (N : Nat → NodeL) (el : Bool) (n : NodeL) : Nat := if el then 0 else wordsN N n
def sizeW (N : Nat → NodeL) (cnt : Nat) : Bool → Nat → Nat := wt (ownS N) N cnt
def cntW (N : Nat → NodeL) (cnt : Nat) : Bool → Nat → Nat := wt (fun _ _ => 1) N cnt
structure BoundP (N : Nat → NodeL) (cnt : Nat) (root : Int16) : Prop where
  size : sizeW N cnt false root.toInt.toNat ≤ 255
  count : cntW N cnt false root.toInt.toNat ≤ cnt
  deep : deep N cnt root.toInt.toNat 1

/-- what is still to be weighed: the nodes from i on that are reached -/
def pend (w : Bool → Nat → Nat) (i : Nat) (dep : Nat → UInt8) (el : Nat → Bool) (j : Nat) : Nat := if i ≤ j ∧ dep j ≠ 0 then w (el j) j else 0
theorem pend_step (w : Bool → Nat → Nat) (i : Nat) (dep : Nat → UInt8) (el : Nat → Bool) (cnt : Nat) (hi : i < cnt) :
    sumK (pend w i dep el) cnt = sumK (pend w (i + 1) dep el) cnt + (if dep i ≠ 0 then w (el i) i else 0) := by
  have h := sumK_upd (pend w i dep el) i 0 cnt hi
  rw [sumK_congr cnt (g := upd (pend w i dep el) i 0) (h := pend w (i + 1) dep el)] at h
  · rw [← Nat.add_zero (sumK (pend w i dep el) cnt), ← h]
    congr 1
    unfold pend
    by_cases e : dep i = 0
    · simp [e]
    · simp [e]
  · intro j hj
    by_cases e : j = i
    · subst e
      rw [upd_same, pend, if_neg (by omega)]
    · rw [upd_ne _ _ _ _ e]
      unfold pend
      by_cases hd : dep j = 0
      · simp [hd]
      · by_cases h1 : i ≤ j
        · rw [if_pos ⟨h1, hd⟩, if_pos ⟨by omega, hd⟩]
        · rw [if_neg (by omega), if_neg (by omega)]
theorem pend_set (w : Bool → Nat → Nat) (i c : Nat) (dep : Nat → UInt8) (el : Nat → Bool) (d : UInt8) (b : Bool) (cnt : Nat) (hic : i ≤ c) (hc : c < cnt) (h0 : dep c = 0) (hd : d ≠ 0) :
    sumK (pend w i (upd dep c d) (upd el c b)) cnt = sumK (pend w i dep el) cnt + w b c := by
  have h := sumK_upd (pend w i dep el) c (w b c) cnt hc
  rw [show pend w i dep el c = 0 by unfold pend; simp [h0], Nat.add_zero] at h
  rw [← h]
  apply sumK_congr
  intro j hj
  by_cases e : j = c
  · subst e
    rw [upd_same, pend, upd_same, upd_same, if_pos ⟨hic, hd⟩]
  · rw [upd_ne _ _ _ _ e, pend, pend, upd_ne _ _ _ _ e, upd_ne _ _ _ _ e]
theorem pend_end (w : Bool → Nat → Nat) (dep : Nat → UInt8) (el : Nat → Bool) (cnt : Nat) : sumK (pend w cnt dep el) cnt = 0 :=
  sumK_zero cnt fun j hj => by rw [pend, if_neg (by omega)]
theorem pend_start (w : Bool → Nat → Nat) (r : Nat) (cnt : Nat) (hr : r < cnt) : sumK (pend w r (upd (fun _ => 0) r 1) (fun _ => false)) cnt = w false r := by
  have h := sumK_upd (fun _ => 0) r (w false r) cnt hr
  rw [sumK_zero cnt (g := fun _ => 0) (fun _ _ => rfl)] at h
  rw [show w false r = 0 + w false r by omega, ← h]
  show _ = sumK (upd (fun _ => 0) r (w false r)) cnt
  apply sumK_congr
  intro j hj
  by_cases e : j = r
  · subst e
    rw [upd_same, pend, upd_same, if_pos ⟨Nat.le_refl _, by decide⟩]
  · rw [upd_ne _ _ _ _ e, pend, upd_ne _ _ _ _ e]; simp
end Eng
end Go.Proofs.Ygcfab
