/-
  The canonical arena, without Go: pieces, and what hangs at a pointer word.
-/
import Derived.Test.YgcfabTree4
set_option linter.unusedSimpArgs false
set_option linter.unusedVariables false
namespace Go.Proofs.Ygcfab
namespace Eng

/-- g k, g (k + 1), .. (m of them), one behind the other -/
def catF {α : Type} (g : Nat → List α) : Nat → Nat → List α
  | _, 0 => []
  | k, m + 1 => g k ++ catF g (k + 1) m
theorem catF_map {α β : Type} (f : α → β) (g : Nat → List α) : ∀ m k, (catF g k m).map f = catF (fun j => (g j).map f) k m
  | 0, _ => rfl
  | m + 1, k => by rw [catF, catF, List.map_append, catF_map f g m]
theorem catF_congr {α : Type} {g h : Nat → List α} : ∀ m k, (∀ j, k ≤ j → j < k + m → g j = h j) → catF g k m = catF h k m
  | 0, _, _ => rfl
  | m + 1, k, e => by rw [catF, catF, e k (by omega) (by omega), catF_congr m (k + 1) (fun j h1 h2 => e j (by omega) (by omega))]
theorem catF_filter {α : Type} (p : α → Bool) (g : Nat → List α) : ∀ m k, (catF g k m).filter p = catF (fun j => (g j).filter p) k m
  | 0, _ => rfl
  | m + 1, k => by rw [catF, catF, List.filter_append, catF_filter p g m]
theorem mem_catF {α : Type} {g : Nat → List α} {x : α} : ∀ m k, x ∈ catF g k m → ∃ j, k ≤ j ∧ j < k + m ∧ x ∈ g j
  | 0, _, h => by simp [catF] at h
  | m + 1, k, h => by
    rw [catF, List.mem_append] at h
    rcases h with h | h
    · exact ⟨k, by omega, by omega, h⟩
    · obtain ⟨j, h1, h2, h3⟩ := mem_catF m (k + 1) h
      exact ⟨j, by omega, by omega, h3⟩
theorem catF_len1 {α : Type} {g : Nat → List α} {p : Nat} : ∀ m k, (∀ j, (g j).length = p) → (catF g k m).length = m * p
  | 0, _, _ => by simp [catF]
  | m + 1, k, h => by
    rw [catF, List.length_append, h, catF_len1 m (k + 1) h, Nat.succ_mul]; omega
/-- positions that rise strictly within [lo, hi) -/
def Rise : List Nat → Nat → Nat → Prop
  | [], lo, hi => lo ≤ hi
  | q :: qs, lo, hi => lo ≤ q ∧ Rise qs (q + 1) hi
theorem Rise.le : ∀ {l : List Nat} {lo hi : Nat}, Rise l lo hi → lo ≤ hi
  | [], _, _, h => h
  | q :: qs, lo, hi, h => by have := Rise.le h.2; have := h.1; omega
theorem Rise.mem : ∀ {l : List Nat} {lo hi : Nat}, Rise l lo hi → ∀ x, x ∈ l → lo ≤ x ∧ x < hi
  | [], _, _, _, x, hx => by simp at hx
  | q :: qs, lo, hi, h, x, hx => by
    have h1 := h.1
    rcases List.mem_cons.1 hx with rfl | hx
    · have := Rise.le h.2; omega
    · have := Rise.mem h.2 x hx; omega
theorem Rise.mono : ∀ {l : List Nat} {lo hi lo' hi' : Nat}, Rise l lo hi → lo' ≤ lo → hi ≤ hi' → Rise l lo' hi'
  | [], _, _, _, _, h, h1, h2 => by have : _ ≤ _ := h; show _ ≤ _; omega
  | q :: qs, lo, hi, lo', hi', h, h1, h2 => ⟨by have := h.1; omega, Rise.mono h.2 (Nat.le_refl _) h2⟩
theorem Rise.append : ∀ {l r : List Nat} {lo mid hi : Nat}, Rise l lo mid → Rise r mid hi → Rise (l ++ r) lo hi
  | [], r, lo, mid, hi, h, h2 => Rise.mono h2 h (Nat.le_refl _)
  | q :: qs, r, lo, mid, hi, h, h2 => ⟨h.1, Rise.append h.2 h2⟩
theorem Rise.len : ∀ {l : List Nat} {lo hi : Nat}, Rise l lo hi → l.length + lo ≤ hi
  | [], _, _, h => by simp; exact h
  | q :: qs, lo, hi, h => by have := Rise.len h.2; have := h.1; simp only [List.length_cons]; omega
theorem rise_catF {g : Nat → List Nat} {lo : Nat → Nat} : ∀ m k, (∀ j, k ≤ j → j < k + m → Rise (g j) (lo j) (lo (j + 1))) → (m = 0 → True) → lo k ≤ lo (k + m) → Rise (catF g k m) (lo k) (lo (k + m))
  | 0, k, _, _, h => h
  | m + 1, k, h, _, hl => by
    have h0 := h k (by omega) (by omega)
    have e : k + (m + 1) = k + 1 + m := by omega
    have hle : ∀ m k, (∀ j, k ≤ j → j < k + m → Rise (g j) (lo j) (lo (j + 1))) → lo k ≤ lo (k + m) := by
      intro m
      induction m with
      | zero => intro k _; exact Nat.le_refl _
      | succ m ih =>
        intro k hk
        have h1 := (hk k (by omega) (by omega)).le
        have h2 := ih (k + 1) (fun j a b => hk j (by omega) (by omega))
        have e : k + (m + 1) = k + 1 + m := by omega
        rw [e]; omega
    rw [catF, e]
    exact h0.append (rise_catF m (k + 1) (fun j a b => h j (by omega) (by omega)) (fun _ => trivial) (hle m (k + 1) (fun j a b => h j (by omega) (by omega))))
theorem rise_one (f : Nat) (p : Nat) : Rise (catF (fun j => [f + j]) 0 p) f (f + p) := by
  have := rise_catF (g := fun j => [f + j]) (lo := fun j => f + j) p 0 (fun j _ _ => ⟨Nat.le_refl _, by show _ ≤ _; omega⟩) (fun _ => trivial) (by simp)
  simpa using this

/-- a struct (its sections), a list (its code, its length), a list of structs (its length, their sections) -/
abbrev Piece := Sum (Nat × Nat) (Sum (Nat × Nat) (Nat × Nat × Nat))
abbrev Piece.st (d p : Nat) : Piece := .inl (d, p)
abbrev Piece.li (c n : Nat) : Piece := .inr (.inl (c, n))
abbrev Piece.ss (cn d p : Nat) : Piece := .inr (.inr (cn, d, p))
def Piece.words : Piece → Nat
  | .inl (d, p) => d + p
  | .inr (.inl (c, n)) => if c = 6 then n else (n * 2 ^ (c - 2) + 7) / 8
  | .inr (.inr (cn, d, p)) => 1 + cn * (d + p)
def Piece.slots (s : Nat) : Piece → List Nat
  | .inl (d, p) => catF (fun j => [s + d + j]) 0 p
  | .inr (.inl (c, n)) => if c = 6 then catF (fun j => [s + j]) 0 n else []
  | .inr (.inr (cn, d, p)) => catF (fun i => catF (fun j => [s + 1 + i * (d + p) + d + j]) 0 p) 0 cn
def Piece.ok (A : Nat → UInt64) (a s : Nat) : Piece → Prop
  | .inl (d, p) => d ≤ 8 ∧ p ≤ 8 ∧ A a = makeStructL (UInt16.ofNat a) (UInt16.ofNat s) (UInt8.ofNat d) (UInt8.ofNat p)
  | .inr (.inl (c, n)) => 2 ≤ c ∧ c ≤ 6 ∧ n ≤ 128 ∧ A a = makeListL (UInt16.ofNat a) (UInt16.ofNat (if n = 0 then a + 1 else s)) (UInt8.ofNat c) (UInt32.ofNat n) ∧
      (c ≤ 5 → n * 2 ^ (c - 2) % 8 ≠ 0 → shr64 (A (s + n * 2 ^ (c - 2) / 8)) (n * 2 ^ (c - 2) % 8 * 8) = 0)
  | .inr (.inr (cn, d, p)) => cn ≤ 128 ∧ d ≤ 8 ∧ p ≤ 8 ∧ (cn = 0 → d = 0 ∧ p = 0) ∧ (0 < cn → 0 < d + p) ∧ cn * (d + p) ≤ 255 ∧
      A a = makeListL (UInt16.ofNat a) (UInt16.ofNat s) 7 (UInt32.ofNat (cn * (d + p))) ∧ A s = makeTagL (UInt16.ofNat cn) (UInt8.ofNat d) (UInt8.ofNat p)
theorem Piece.rise (c : Piece) (s : Nat) : Rise (c.slots s) s (s + c.words) := by
  rcases c with ⟨d, p⟩ | ⟨c, n⟩ | ⟨cn, d, p⟩
  · exact (rise_one (s + d) p).mono (by omega) (by simp only [Piece.words]; omega)
  · skip
    simp only [Piece.slots, Piece.words]
    split
    · exact rise_one s n
    · show _ ≤ _; omega
  · skip
    simp only [Piece.slots, Piece.words]
    have := rise_catF (g := fun i => catF (fun j => [s + 1 + i * (d + p) + d + j]) 0 p) (lo := fun i => s + 1 + i * (d + p)) cn 0 (fun i _ _ => by
      refine (rise_one (s + 1 + i * (d + p) + d) p).mono (by omega) ?_
      simp only [Nat.add_mul, Nat.one_mul]; omega) (fun _ => trivial) (by simp only [Nat.zero_mul]; omega)
    refine this.mono (by omega) ?_
    simp only [Nat.zero_add]; omega
theorem Piece.ok_congr {A B : Nat → UInt64} {a s : Nat} {c : Piece} (ha : A a = B a) (h : ∀ i, s ≤ i → i < s + c.words → A i = B i) (hc : c.ok A a s) : c.ok B a s := by
  rcases c with ⟨d, p⟩ | ⟨c, n⟩ | ⟨cn, d, p⟩
  · exact ⟨hc.1, hc.2.1, by rw [← ha]; exact hc.2.2⟩
  · skip
    obtain ⟨h1, h2, h3, h4, h5⟩ := hc
    refine ⟨h1, h2, h3, by rw [← ha]; exact h4, fun h6 h7 => ?_⟩
    rw [← h (s + n * 2 ^ (c - 2) / 8) (by omega) (by simp only [Piece.words]; rw [if_neg (by omega)]; omega)]
    exact h5 h6 h7
  · skip
    obtain ⟨h1, h2, h3, h4, h5, h6, h7, h8⟩ := hc
    refine ⟨h1, h2, h3, h4, h5, h6, by rw [← ha]; exact h7, ?_⟩
    rw [← h s (by omega) (by simp only [Piece.words]; omega)]; exact h8

def Chain (P : Nat → Nat → Nat → Prop) : List Nat → Nat → Nat → Prop
  | [], s, e => s = e
  | q :: qs, s, e => ∃ m, P q s m ∧ Chain P qs m e
/-- what hangs at the word a takes exactly the words [s, e), and is no deeper than d -/
def Sub (A : Nat → UInt64) : Nat → Nat → Nat → Nat → Prop
  | 0, a, s, e => A a = 0 ∧ s = e
  | d + 1, a, s, e => (A a = 0 ∧ s = e) ∨ ∃ c : Piece, c.ok A a s ∧ Chain (Sub A d) (c.slots s) (s + c.words) e
theorem Chain.le {P : Nat → Nat → Nat → Prop} (hP : ∀ q s e, P q s e → s ≤ e) : ∀ {l : List Nat} {s e : Nat}, Chain P l s e → s ≤ e
  | [], _, _, h => Nat.le_of_eq h
  | q :: qs, s, e, ⟨m, h1, h2⟩ => Nat.le_trans (hP q s m h1) (Chain.le hP h2)
theorem Sub.le {A : Nat → UInt64} : ∀ {d a s e : Nat}, Sub A d a s e → s ≤ e
  | 0, _, _, _, h => Nat.le_of_eq h.2
  | d + 1, a, s, e, h => by
    rcases h with h | ⟨c, h1, h2⟩
    · exact Nat.le_of_eq h.2
    · have := Chain.le (fun q s e h => Sub.le h) h2; omega
theorem Chain.turn {P Q : Nat → Nat → Nat → Prop} (hP : ∀ q s e, P q s e → s ≤ e) : ∀ {l : List Nat} {s e : Nat}, (∀ q s' e', q ∈ l → s ≤ s' → e' ≤ e → P q s' e' → Q q s' e') → Chain P l s e → Chain Q l s e
  | [], _, _, _, h => h
  | q :: qs, s, e, hpq, ⟨m, h1, h2⟩ => by
    have l1 := hP _ _ _ h1
    have l2 := Chain.le hP h2
    exact ⟨m, hpq q s m (by simp) (Nat.le_refl _) l2 h1, Chain.turn hP (fun q' s' e' h3 h4 h5 h6 => hpq q' s' e' (by simp [h3]) (by omega) h5 h6) h2⟩
theorem Sub.congr {A B : Nat → UInt64} : ∀ {d a s e : Nat}, A a = B a → (∀ i, s ≤ i → i < e → A i = B i) → Sub A d a s e → Sub B d a s e
  | 0, a, s, e, ha, h, hs => ⟨by rw [← ha]; exact hs.1, hs.2⟩
  | d + 1, a, s, e, ha, h, hs => by
    rcases hs with hs | ⟨c, h1, h2⟩
    · exact .inl ⟨by rw [← ha]; exact hs.1, hs.2⟩
    · have hle := Chain.le (fun q s e h => Sub.le h) h2
      refine .inr ⟨c, Piece.ok_congr ha (fun i a b => h i a (by omega)) h1, ?_⟩
      refine Chain.turn (fun q s e h => Sub.le h) (fun q s' e' hq l1 l2 h3 => ?_) h2
      have := (c.rise s).mem q hq
      exact Sub.congr (h q (by omega) (by omega)) (fun i a b => h i (by omega) (by omega)) h3
end Eng
end Go.Proofs.Ygcfab
