/-
  Slices that a function owns: append, make.
-/
import Derived.Test.YgcfabTree4
set_option linter.unusedSimpArgs false
set_option linter.unusedVariables false
set_option maxRecDepth 100000
namespace Go.Proofs.Ygcfab
namespace Eng

/-- a slice of elements of s cells that stands at the beginning of a block of its own, or is nil -/
structure OwnS (s : Nat) (e : TypeId) (G : Heap) (v : Value) (n : Nat) (f : Nat → Value) (ob : Option Nat) : Prop where
  is : (v = .slice none 0 0 ∧ n = 0 ∧ ob = none) ∨ ∃ b cap f', v = sl b 0 n cap ∧ n ≤ cap ∧ ob = some b ∧ G b = some (fblk (cap * s) f' e) ∧ ∀ i, i < n * s → f' i = f i
/-- a slice whose cells are xs -/
structure SrcS (G : Heap) (x : Value) (m s : Nat) (xs : List Value) : Prop where
  len : xs.length = m * s
  is : (∃ a c, x = .slice a 0 c ∧ m = 0) ∨ ∃ b o c, x = sl b o m c ∧ ∀ i, i < m * s → rd G b (o + i) = some (lget xs i)
theorem nextcap_le (need old : Nat) (h : old < need) (hn : need ≤ 1000) : Builtin.nextslicecap need old ≤ 8000 := by
  unfold Builtin.nextslicecap
  split
  · omega
  split
  · omega
  · simp only [Builtin.growBy]
    repeat (split <;> try omega)
def appF (s n : Nat) (f : Nat → Value) (xs : List Value) (i : Nat) : Value := if i < n * s then f i else lget xs (i - n * s)
theorem rdsK_list {G : Heap} {b : Nat} : ∀ (m o : Nat) (acc xs : List Value) (k : List Value → Prop), xs.length = m → (∀ i, i < m → rd G b (o + i) = some (lget xs i)) → rdsK G b o m acc k = k (acc.reverse ++ xs)
  | 0, o, acc, xs, k, hl, h => by
    rw [List.length_eq_zero_iff.1 hl]; simp [rdsK]
  | m + 1, o, acc, [], k, hl, h => by simp at hl
  | m + 1, o, acc, x :: xs, k, hl, h => by
    simp only [rdsK]
    have h0 := h 0 (by omega)
    simp only [Nat.add_zero, lget_zero] at h0
    rw [h0, rdK_some, rdsK_list m (o + 1) (x :: acc) xs k (by simpa using hl) (fun i hi => by
      have := h (i + 1) (by omega)
      rw [lget_succ] at this
      rw [← this]; congr 1; omega)]
    simp
section
variable {P : Program}
theorem runH_und {t : TypeId} {d : TypeDesc} {H : Heap} (h : P.underlying t = some d) (k : TypeDesc → Heap → Prop) : runH P (underlying t) H k = k d H := by
  simp only [underlying, runH_bind, program, runH, h, runH_pure]
theorem firstCells_src {G : Heap} {x : Value} {m s : Nat} {xs : List Value} (h : SrcS G x m s xs) (k : Array Value → Heap → Prop) : runH P (Builtin.firstCells s m x) G k = k xs.toArray G := by
  rcases h.is with ⟨a, c, rfl, rfl⟩ | ⟨b, o, c, rfl, hr⟩
  · have hx : xs = [] := List.length_eq_zero_iff.1 (by rw [h.len]; simp)
    subst hx
    cases a with
    | none => rfl
    | some a => simp [Builtin.firstCells, loadCells, loadCellsFrom, runH_pure]
  · simp only [sl, Builtin.firstCells]
    rw [runH_loadCells, rdsK_list (m * s) o [] xs _ h.len hr]
    rfl
theorem lenOf_src {G : Heap} {x : Value} {m s : Nat} {xs : List Value} (h : SrcS G x m s xs) (k : Nat → Heap → Prop) : runH P (Builtin.lenOf x) G k = k m G := by
  rcases h.is with ⟨a, c, rfl, rfl⟩ | ⟨b, o, c, rfl, hr⟩
  · rfl
  · rfl
theorem lget_append (l r : List Value) (i : Nat) : lget (l ++ r) i = if i < l.length then lget l i else lget r (i - l.length) := by
  rw [lget_eq, lget_eq, lget_eq]
  split
  · rename_i h; simp [List.getD, List.getElem?_append_left h]
  · rename_i h; simp [List.getD, List.getElem?_append_right (Nat.le_of_not_lt h)]
theorem lget_map_range (g : Nat → Value) (n i : Nat) (h : i < n) : lget ((List.range n).map g) i = g i := by
  rw [lget_eq]
  simp [h]
theorem grow_own {s e n m cap : Nat} {z : Array Value} {f : Nat → Value} {xs ys : List Value} (hys : ys.length = n * s) (hyf : ∀ i, i < n * s → lget ys i = f i) (hxs : xs.length = m * s) (hz : z.size = s) (hc : n + m ≤ cap) (G : Heap) (b : Nat) :
    OwnS s e (upd G b (some (.cells (ys.toArray ++ xs.toArray ++ Builtin.zeroCells z (cap - (n + m))) e (0, 0)))) (.slice (some ⟨b, 0, none⟩) (n + m) cap) (n + m) (appF s n f xs) (some b) := by
  refine ⟨.inr ⟨b, cap, lget (ys ++ xs ++ (Builtin.zeroCells z (cap - (n + m))).toList), rfl, hc, rfl, ?_, ?_⟩⟩
  · rw [upd_same]
    have e1 : ys.toArray ++ xs.toArray ++ Builtin.zeroCells z (cap - (n + m)) = (ys ++ xs ++ (Builtin.zeroCells z (cap - (n + m))).toList).toArray := by simp
    rw [e1, cells_of_list]
    congr 2
    simp only [List.length_append, hys, hxs, Array.length_toList, Builtin.zeroCells, Array.size_map, Array.size_range, hz, ← Nat.add_mul]
    congr 1
    omega
  · intro i hi
    have hlen : (ys ++ xs).length = (n + m) * s := by rw [List.length_append, hys, hxs, Nat.add_mul]
    rw [lget_append, if_pos (by omega), lget_append, hys]
    unfold appF
    split
    · rename_i h1; exact hyf i h1
    · rfl
theorem append_intro {t e ty : TypeId} {s : Nat} {z : Value} {inf : TypeInfo} {G : Heap} {k : Value → Heap → Prop} (ht : P.underlying t = some (.slice e)) (hs : ∀ (H : Heap) (k : Nat → Heap → Prop), runH P (sizeOf e) H k = k s H)
    (hz : ∀ (H : Heap) (k : Value → Heap → Prop), runH P (zeroValue e) H k = k z H) (hzs : z.cells.size = s) (hinf : ∀ (H : Heap) (k : TypeInfo → Heap → Prop), runH P (typeInfo e) H k = k inf H) (hbytes : inf.bytes ≤ 1000)
    {v : Value} {n : Nat} {f : Nat → Value} {ob : Option Nat} (h : OwnS s e G v n f ob) {x : Value} {m : Nat} {xs : List Value} (hx : SrcS G x m s xs) (hx1 : ∀ v, v ∈ xs → v.oneCell' = true) (hn : n + m ≤ 1000) (hs0 : 0 < s)
    (hk : ∀ v' G' ob', OwnS s e G' v' (n + m) (appF s n f xs) ob' → (∀ c, ob ≠ some c → G c ≠ none → G' c = G c) → (ob' = ob ∨ ∃ c, ob' = some c ∧ G c = none) → k v' G') :
    runH P (Builtin.append_ #[t, t] ty #[v, x]) G k := by
  unfold Builtin.append_
  simp only [List.getElem?_toArray, List.getElem?_cons_zero, List.getElem?_cons_succ]
  rw [runH_underlying ht]
  have hgrow : ∀ (base : Option Addr) (cap : Nat) (ys : List Value), cap < n + m → SrcS G (.slice base n cap) n s ys → (∀ i, i < n * s → lget ys i = f i) →
      runH P (do
        let newCap ← choose (Question.appendCap (n + m) cap e)
        let i ← typeInfo e
        askRoom (newCap * i.bytes)
        let old ← Builtin.firstCells s n (Value.slice base n cap)
        let new ← Builtin.firstCells s m x
        let z ← zeroValue e
        let a ← newRow e (old ++ new ++ Builtin.zeroCells z.cells (newCap - (n + m)))
        pure (Value.slice (some a) (n + m) newCap)) G k := by
    intro base cap ys hlt hys hyf
    simp only [runH_bind, choose, runH, Question.forced, Bool.false_eq_true, if_false, Question.cut, runH_pure]
    intro tt
    rw [hinf]
    have hroom : ∀ (c : Nat) (K : Unit → Heap → Prop), runH P (askRoom c) G K = K () G := by
      intro c K
      unfold askRoom
      rw [runH_ite]
      split
      · rfl
      · rfl
    rw [hroom, firstCells_src hys, firstCells_src hx, hz]
    simp only [newRow, runH_bind, newObj, runH, runH_pure]
    intro b hb
    refine hk _ _ (some b) (grow_own hys.len hyf hx.len hzs (by omega) G b) ?_ (.inr ⟨b, rfl, hb⟩)
    intro c _ hc
    exact upd_ne _ _ _ _ (ne_fresh hc hb)
  have hmax : ¬ ((((n + m : Nat) : Int) > IntKind.i64.max) ∧ (False ∨ inf.bytes = 0)) := by
    intro ⟨h1, _⟩
    have : IntKind.i64.max = 9223372036854775807 := by decide
    omega
  have hcapb : ∀ cap, cap < n + m → ¬ (Builtin.nextslicecap (n + m) cap * inf.bytes > 2 ^ 48) := by
    intro cap hlt
    have h1 := nextcap_le (n + m) cap hlt (by omega)
    have h2 : Builtin.nextslicecap (n + m) cap * inf.bytes ≤ 8000 * 1000 := Nat.mul_le_mul h1 hbytes
    omega
  rcases h.is with ⟨rfl, rfl, rfl⟩ | ⟨b, cap, f', rfl, hcap, rfl, hG, hf⟩
  · simp only [runH_bind, runH_und ht, runH_pure, hs, Bool.false_eq_true, if_false, lenOf_src hx, runH_ite]
    by_cases hfit : 0 + m ≤ 0
    · have hm : m = 0 := by omega
      subst hm
      rw [if_pos hfit]
      simp only [Bool.not_false, if_true, firstCells_src hx]
      have hx0 : xs = [] := List.length_eq_zero_iff.1 (by rw [hx.len]; simp)
      subst hx0
      exact hk _ _ none ⟨.inl ⟨rfl, rfl, rfl⟩⟩ (fun c _ _ => rfl) (.inl rfl)
    · rw [if_neg hfit, hinf, if_neg hmax, hinf, if_neg (hcapb 0 (by omega))]
      have := hgrow none 0 [] (by omega) ⟨by simp, .inl ⟨none, 0, rfl, rfl⟩⟩ (fun i hi => by simp at hi)
      simp only [runH_bind, runH_pure] at this
      simpa using this
  · simp only [sl, runH_bind, runH_und ht, runH_pure, hs, Bool.false_eq_true, if_false, lenOf_src hx, runH_ite]
    by_cases hfit : n + m ≤ cap
    · rw [if_pos hfit]
      simp only [Bool.not_false, if_true, firstCells_src hx, addr_add]
      rw [runH_storeCells _ _ _ _ _ hx1, Nat.zero_add]
      refine wrsK_fblk xs (n * s) G f' _ hG (by rw [hx.len, ← Nat.add_mul]; exact Nat.mul_le_mul_right s hfit) ?_
      refine hk _ _ (some b) ⟨.inr ⟨b, cap, upds f' (n * s) xs, rfl, hfit, rfl, ?_, ?_⟩⟩ ?_ (.inl rfl)
      · split
        · rename_i h0; subst h0; rw [upds_nil]; exact hG
        · exact upd_same _ _ _
      · intro i hi
        rw [upds_get, hx.len]
        unfold appF
        by_cases h1 : i < n * s
        · rw [if_neg (by omega), if_pos h1]; exact hf i h1
        · rw [if_pos (by rw [Nat.add_mul] at hi; omega), if_neg h1]
      · intro c hc _
        split
        · rfl
        · exact upd_ne _ _ _ _ (fun e => hc (by rw [e]))
    · rw [if_neg hfit, hinf, if_neg hmax, hinf, if_neg (hcapb cap (by omega))]
      have := hgrow (some ⟨b, 0, none⟩) cap ((List.range (n * s)).map f') (by omega) ⟨by simp, .inr ⟨b, 0, cap, rfl, fun i hi => by
        rw [Nat.zero_add, lget_map_range _ _ _ hi]
        exact rd_fblk hG (Nat.lt_of_lt_of_le hi (Nat.mul_le_mul_right s hcap))⟩⟩ (fun i hi => by rw [lget_map_range _ _ _ hi]; exact hf i hi)
      simp only [runH_bind, runH_pure] at this
      simpa using this
end
end Eng
end Go.Proofs.Ygcfab
