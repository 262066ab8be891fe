/-
  The canonical arena's maker, without Go: a machine with a stack, and what it makes.
-/
import Derived.Test.YgcfabCanF
set_option linter.unusedSimpArgs false
set_option linter.unusedVariables false
namespace Go.Proofs.Ygcfab
namespace Eng

def secF (A : Nat → UInt64) (len : Nat) (n : NodeL) : Nat → UInt64 := fun i => if i < len then A i else if i < len + n.nd then n.dat (i - len) else 0
def nn (L : List (Nat × Int16)) : List (Nat × Int16) := L.filter (fun x => decide (x.2 ≠ -1))
theorem nn_append (L R : List (Nat × Int16)) : nn (L ++ R) = nn L ++ nn R := List.filter_append ..
theorem nn_len (L : List (Nat × Int16)) : (nn L).length ≤ L.length := List.length_filter_le ..
def slotL (first : Nat) (n : NodeL) : List (Nat × Int16) := catF (fun j => [(first + j, n.kid j)]) 0 n.nk
theorem slotL_fst (first : Nat) (n : NodeL) : (slotL first n).map Prod.fst = catF (fun j => [first + j]) 0 n.nk := by
  unfold slotL; rw [catF_map]; rfl
theorem slotL_len (first : Nat) (n : NodeL) : (slotL first n).length = n.nk := by
  have := catF_len1 (g := fun j => [(first + j, n.kid j)]) (p := 1) n.nk 0 (fun j => rfl)
  unfold slotL; omega
structure CS where
  A : Nat → UInt64
  len : Nat
  stk : List (Nat × Int16)
def bitsC (n : NodeL) : Nat := 8 * 2 ^ (n.code.toNat - 2)
/-- the first k elements of a scalar list, packed -/
def scalT (A : Nat → UInt64) (len : Nat) (n : NodeL) : Nat → (Nat → UInt64) × Nat
  | 0 => (A, len)
  | k + 1 =>
    let X := scalT A len n k
    let Y := if k * bitsC n % 64 = 0 then (upd X.1 X.2 0, X.2 + 1) else X
    (upd Y.1 (Y.2 - 1) (Y.1 (Y.2 - 1) ||| shl64 (n.dat k) (k * bitsC n % 64)), Y.2)
def secsT (T : Nat → NodeL) (n : NodeL) (A : Nat → UInt64) (len : Nat) : Nat → (Nat → UInt64) × Nat
  | 0 => (A, len)
  | k + 1 =>
    let X := secsT T n A len k
    (secF X.1 X.2 (kidN T n k), X.2 + (kidN T n k).nd + (kidN T n k).nk)
def firD (T : Nat → NodeL) (n : NodeL) : Nat := if 0 < n.nk then (kidN T n 0).nd else 0
def firP (T : Nat → NodeL) (n : NodeL) : Nat := if 0 < n.nk then (kidN T n 0).nk else 0
def placeC (T : Nat → NodeL) (A : Nat → UInt64) (len : Nat) (stk : List (Nat × Int16)) (a : Nat) (n : NodeL) : CS :=
  if n.kind = 1 then
    ⟨secF (upd A a (makeStructL (UInt16.ofNat a) (UInt16.ofNat len) (UInt8.ofNat n.nd) (UInt8.ofNat n.nk))) len n, len + n.nd + n.nk, nn (slotL (len + n.nd) n) ++ stk⟩
  else if n.code = 6 then
    ⟨secF (upd A a (makeListL (UInt16.ofNat a) (UInt16.ofNat (if n.nk = 0 then a + 1 else len)) n.code (UInt32.ofNat n.nk))) len n, len + n.nd + n.nk, nn (slotL (len + n.nd) n) ++ stk⟩
  else if n.code = 7 then
    let X := secsT T n (upd (upd A a (makeListL (UInt16.ofNat a) (UInt16.ofNat len) n.code (UInt32.ofNat (n.nk * (firD T n + firP T n))))) len (makeTagL (UInt16.ofNat n.nk) (UInt8.ofNat (firD T n)) (UInt8.ofNat (firP T n)))) (len + 1) n.nk
    ⟨X.1, X.2, nn (catF (fun i => slotL (len + 1 + i * (firD T n + firP T n) + (kidN T n i).nd) (kidN T n i)) 0 n.nk) ++ stk⟩
  else
    let X := scalT (upd A a (makeListL (UInt16.ofNat a) (UInt16.ofNat (if n.nd = 0 then a + 1 else len)) n.code (UInt32.ofNat n.nd))) len n n.nd
    ⟨X.1, X.2, stk⟩
/-- all that the placing of a node needs -/
structure PlaceOK (T : Nat → NodeL) (cnt len a sl : Nat) (n : NodeL) : Prop where
  at_ : a < len
  shape : (n.kind = 1 ∧ n.nd ≤ 8 ∧ n.nk ≤ 8 ∧ len + (n.nd + n.nk) ≤ 256 ∧ sl + n.nk ≤ 512) ∨
    (n.kind ≠ 1 ∧ n.code = 6 ∧ n.nd = 0 ∧ n.nk ≤ 128 ∧ len + n.nk ≤ 256 ∧ sl + n.nk ≤ 512) ∨
    (n.kind ≠ 1 ∧ n.code = 7 ∧ n.nk ≤ 128 ∧ firD T n ≤ 8 ∧ firP T n ≤ 8 ∧ (∀ j, j < n.nk → 0 ≤ (n.kid j).toInt ∧ kidI n j < cnt ∧ (kidN T n j).nd = firD T n ∧ (kidN T n j).nk = firP T n) ∧
      len + (1 + n.nk * (firD T n + firP T n)) ≤ 256 ∧ sl + n.nk * firP T n ≤ 512) ∨
    (n.kind ≠ 1 ∧ 2 ≤ n.code.toNat ∧ n.code.toNat ≤ 5 ∧ n.nd ≤ 128 ∧ len + (n.nd * 2 ^ (n.code.toNat - 2) + 7) / 8 ≤ 256)
def ReachN (T : Nat → NodeL) (cnt : Nat) : Nat → CS → CS → Prop
  | 0, S, S' => S = S'
  | m + 1, S, S' => ∃ a k rest, S.stk = (a, k) :: rest ∧ 0 ≤ k.toInt ∧ k.toInt.toNat < cnt ∧ PlaceOK T cnt S.len a rest.length (T k.toInt.toNat) ∧ ReachN T cnt m (placeC T S.A S.len rest a (T k.toInt.toNat)) S'
theorem ReachN.trans {T : Nat → NodeL} {cnt : Nat} : ∀ {m m' : Nat} {S S' S'' : CS}, ReachN T cnt m S S' → ReachN T cnt m' S' S'' → ReachN T cnt (m + m') S S''
  | 0, m', S, S', S'', h, h' => by have : S = S' := h; subst this; rw [Nat.zero_add]; exact h'
  | m + 1, m', S, S', S'', ⟨a, k, rest, h1, h2, h3, h4, h5⟩, h' => by
    rw [Nat.succ_add]
    exact ⟨a, k, rest, h1, h2, h3, h4, ReachN.trans h5 h'⟩
def Reach (T : Nat → NodeL) (cnt : Nat) (S S' : CS) : Prop := ∃ m, ReachN T cnt m S S'
theorem Reach.trans {T : Nat → NodeL} {cnt : Nat} {S S' S'' : CS} (h : Reach T cnt S S') (h' : Reach T cnt S' S'') : Reach T cnt S S'' := by
  obtain ⟨m, h⟩ := h
  obtain ⟨m', h'⟩ := h'
  exact ⟨m + m', h.trans h'⟩

/-! the packing of scalars -/
theorem pow_split (a b : Nat) : (2 : Nat) ^ (a + b) = 2 ^ a * 2 ^ b := Nat.pow_add ..
theorem or_lt_pow {x y k : Nat} (hx : x < 2 ^ k) (hy : y < 2 ^ k) : x ||| y < 2 ^ k := Nat.or_lt_two_pow hx hy
structure ScalInv (A : Nat → UInt64) (len : Nat) (B k : Nat) (X : (Nat → UInt64) × Nat) : Prop where
  ln : X.2 = len + (k * B + 63) / 64
  old : ∀ i, i < len → X.1 i = A i
  last : k * B % 64 ≠ 0 → (X.1 (len + k * B / 64)).toNat < 2 ^ (k * B % 64)
theorem scal_inv (A : Nat → UInt64) (len : Nat) (n : NodeL) (hc : 2 ≤ n.code.toNat ∧ n.code.toNat ≤ 5) (hd : ∀ j, j < n.nd → (n.dat j).toNat < 2 ^ bitsC n) : ∀ k, k ≤ n.nd → ScalInv A len (bitsC n) k (scalT A len n k)
  | 0, _ => ⟨by simp [scalT], fun i _ => rfl, fun h => absurd (by simp) h⟩
  | k + 1, hk => by
    have ih := scal_inv A len n hc hd k (by omega)
    have hv := hd k (by omega)
    simp only [scalT]
    generalize scalT A len n k = X at *
    have hB : bitsC n = 8 ∨ bitsC n = 16 ∨ bitsC n = 32 ∨ bitsC n = 64 := by
      unfold bitsC
      rcases pow8 _ hc.1 hc.2 with h | h | h | h <;> rw [h] <;> omega
    generalize bitsC n = B at *
    have e1 : (k + 1) * B = k * B + B := Nat.succ_mul k B
    have hl := ih.ln
    have hsh : ∀ a, a + B ≤ 64 → (shl64 (n.dat k) a).toNat < 2 ^ (a + B) := by
      intro a ha
      rw [shl64_nat]
      have h1 : (n.dat k).toNat * 2 ^ a < 2 ^ B * 2 ^ a := (Nat.mul_lt_mul_right (Nat.pow_pos (by decide))).2 hv
      rw [← Nat.pow_add] at h1
      have h2 : (2 : Nat) ^ (B + a) ≤ 2 ^ 64 := Nat.pow_le_pow_right (by decide) (by omega)
      rw [Nat.mod_eq_of_lt (by omega), Nat.add_comm a B]
      exact h1
    by_cases h0 : k * B % 64 = 0
    · rw [if_pos h0]
      simp only []
      have hX : X.2 + 1 - 1 = X.2 := by omega
      have hX2 : X.2 = len + k * B / 64 := by omega
      rw [hX]
      refine ⟨?_, ?_, ?_⟩
      · simp only []; rw [e1]; rcases hB with h | h | h | h <;> subst h <;> omega
      · intro i hi
        simp only []
        rw [upd_ne _ _ _ _ (by omega), upd_ne _ _ _ _ (by omega)]
        exact ih.old i hi
      · intro hne
        simp only []
        have hB64 : B < 64 := by
          rcases hB with h | h | h | h
          · omega
          · omega
          · omega
          · exfalso; subst h; omega
        have e2 : (k + 1) * B % 64 = B := by rw [e1]; omega
        have e3 : len + (k + 1) * B / 64 = X.2 := by rw [e1, hX2]; omega
        rw [e2, e3, upd_same, upd_same, h0, UInt64.zero_or]
        have := hsh 0 (by omega)
        rw [Nat.zero_add] at this
        exact this
    · rw [if_neg h0]
      have hX2 : X.2 - 1 = len + k * B / 64 := by omega
      have hlast := ih.last h0
      rw [hX2]
      refine ⟨?_, ?_, ?_⟩
      · simp only []; rw [e1, hl]; rcases hB with h | h | h | h <;> subst h <;> omega
      · intro i hi
        simp only []
        rw [upd_ne _ _ _ _ (by omega)]
        exact ih.old i hi
      · intro hne
        simp only []
        have hB64 : k * B % 64 + B ≤ 64 := by rcases hB with h | h | h | h <;> subst h <;> omega
        have hne' : k * B % 64 + B ≠ 64 := by
          intro h
          apply hne
          rw [e1]; omega
        have e2 : (k + 1) * B % 64 = k * B % 64 + B := by rw [e1]; omega
        have e3 : len + (k + 1) * B / 64 = len + k * B / 64 := by rw [e1]; omega
        rw [e2, e3, upd_same, UInt64.toNat_or]
        apply or_lt_pow
        · exact Nat.lt_of_lt_of_le hlast (Nat.pow_le_pow_right (by decide) (by omega))
        · exact hsh _ hB64
theorem maskC_nat (c : UInt8) (h : 2 ≤ c.toNat ∧ c.toNat ≤ 5) : (maskC c).toNat < 2 ^ (8 * 2 ^ (c.toNat - 2)) := by
  have hc : c = 2 ∨ c = 3 ∨ c = 4 ∨ c = 5 := by
    have : c.toNat = 2 ∨ c.toNat = 3 ∨ c.toNat = 4 ∨ c.toNat = 5 := by omega
    rcases this with h | h | h | h
    · exact .inl (UInt8.toNat_inj.1 h)
    · exact .inr (.inl (UInt8.toNat_inj.1 h))
    · exact .inr (.inr (.inl (UInt8.toNat_inj.1 h)))
    · exact .inr (.inr (.inr (UInt8.toNat_inj.1 h)))
  rcases hc with rfl | rfl | rfl | rfl <;> decide

/-! the sections of a code 7 list's elements -/
structure SecsInv (A : Nat → UInt64) (len d p k : Nat) (X : (Nat → UInt64) × Nat) : Prop where
  ln : X.2 = len + k * (d + p)
  old : ∀ i, i < len → X.1 i = A i
  zero : ∀ i j, i < k → j < p → X.1 (len + i * (d + p) + d + j) = 0
theorem secs_inv (T : Nat → NodeL) (n : NodeL) (A : Nat → UInt64) (len d p : Nat) (h : ∀ j, j < n.nk → (kidN T n j).nd = d ∧ (kidN T n j).nk = p) : ∀ k, k ≤ n.nk → SecsInv A len d p k (secsT T n A len k)
  | 0, _ => ⟨by simp [secsT], fun i _ => rfl, fun i j hi => by omega⟩
  | k + 1, hk => by
    have ih := secs_inv T n A len d p h k (by omega)
    have hkk := h k (by omega)
    simp only [secsT]
    generalize secsT T n A len k = X at *
    rw [hkk.1, hkk.2]
    have hl := ih.ln
    refine ⟨?_, ?_, ?_⟩
    · simp only []; rw [hl, Nat.succ_mul]; omega
    · intro i hi
      simp only [secF]
      rw [if_pos (by omega)]
      exact ih.old i hi
    · intro i j hi hj
      simp only [secF]
      by_cases e : i = k
      · subst e
        rw [if_neg (by omega), hkk.1, if_neg (by omega)]
      · have h1 : i * (d + p) + (d + p) ≤ k * (d + p) := by rw [← Nat.succ_mul]; exact Nat.mul_le_mul_right _ (by omega)
        rw [if_pos (by omega)]
        exact ih.zero i j (by omega) hj

/-! trees that Norm makes, as Canon sees them -/
def kw (W : Nat → Nat) (n : NodeL) (j : Nat) : Nat := if n.kid j = -1 then 0 else W (kidI n j)
def KidO (cnt : Nat) (Ob : Nat → Prop) (Dp : Nat → Nat → Prop) (q : Nat) (k : Int16) : Prop :=
  Ob k.toInt.toNat ∧ q < k.toInt.toNat ∧ k.toInt.toNat < cnt ∧ 0 ≤ k.toInt ∧ ∀ dd, Dp q dd → dd + 1 ≤ 8 ∧ Dp k.toInt.toNat (dd + 1)
structure CT (T : Nat → NodeL) (cnt : Nat) (Ob : Nat → Prop) (W : Nat → Nat) (Dp : Nat → Nat → Prop) : Prop where
  shape : ∀ q, Ob q → q < cnt →
    ((T q).kind = 1 ∧ (T q).nd ≤ 8 ∧ (T q).nk ≤ 8 ∧ W q = (T q).nd + (T q).nk + sumK (kw W (T q)) (T q).nk ∧ ∀ j, j < (T q).nk → (T q).kid j ≠ -1 → KidO cnt Ob Dp q ((T q).kid j)) ∨
    ((T q).kind ≠ 1 ∧ (T q).code = 6 ∧ (T q).nd = 0 ∧ (T q).nk ≤ 128 ∧ W q = (T q).nk + sumK (kw W (T q)) (T q).nk ∧ ∀ j, j < (T q).nk → (T q).kid j ≠ -1 → KidO cnt Ob Dp q ((T q).kid j)) ∨
    ((T q).kind ≠ 1 ∧ (T q).code = 7 ∧ (T q).nk ≤ 128 ∧ firD T (T q) ≤ 8 ∧ firP T (T q) ≤ 8 ∧ (0 < (T q).nk → 0 < firD T (T q) + firP T (T q)) ∧
      (∀ j, j < (T q).nk → 0 ≤ ((T q).kid j).toInt ∧ kidI (T q) j < cnt ∧ (kidN T (T q) j).nd = firD T (T q) ∧ (kidN T (T q) j).nk = firP T (T q)) ∧
      W q = 1 + (T q).nk * (firD T (T q) + firP T (T q)) + sumK (fun i => sumK (kw W (kidN T (T q) i)) (kidN T (T q) i).nk) (T q).nk ∧
      ∀ i, i < (T q).nk → ∀ j, j < (kidN T (T q) i).nk → (kidN T (T q) i).kid j ≠ -1 → KidO cnt Ob Dp q ((kidN T (T q) i).kid j)) ∨
    ((T q).kind ≠ 1 ∧ 2 ≤ (T q).code.toNat ∧ (T q).code.toNat ≤ 5 ∧ (T q).nd ≤ 128 ∧ (∀ j, j < (T q).nd → (T q).dat j ≤ maskC (T q).code) ∧ W q = ((T q).nd * 2 ^ ((T q).code.toNat - 2) + 7) / 8)

def wL (W : Nat → Nat) : List (Nat × Int16) → Nat
  | [] => 0
  | x :: xs => (if x.2 = -1 then 0 else W x.2.toInt.toNat) + wL W xs
theorem wL_append (W : Nat → Nat) : ∀ L R, wL W (L ++ R) = wL W L + wL W R
  | [], R => by simp [wL]
  | x :: xs, R => by simp only [List.cons_append, wL, wL_append W xs R]; omega
theorem wL_cat (W : Nat → Nat) (g : Nat → List (Nat × Int16)) : ∀ m, wL W (catF g 0 m) = sumK (fun j => wL W (g j)) m
  | 0 => rfl
  | m + 1 => by rw [catF_snoc, wL_append, wL_cat W g m, sumK, Nat.zero_add]
theorem wL_slot (W : Nat → Nat) (first : Nat) (n : NodeL) : wL W (slotL first n) = sumK (kw W n) n.nk := by
  unfold slotL
  rw [wL_cat]
  apply sumK_congr
  intro j _
  simp only [wL, kw, kidI, Nat.add_zero]

/-- what the machine makes of one slot -/
def BigC (T : Nat → NodeL) (cnt : Nat) (W : Nat → Nat) (d : Nat) (k : Int16) : Prop :=
  ∀ (S : CS) (a : Nat) (rest : List (Nat × Int16)), S.stk = (a, k) :: rest → S.stk.length ≤ S.len → a < S.len → S.len + W k.toInt.toNat ≤ 256 →
    ∃ S', Reach T cnt S S' ∧ S'.stk = rest ∧ S'.len = S.len + W k.toInt.toNat ∧ (∀ i, i < S.len → i ≠ a → S'.A i = S.A i) ∧ Sub S'.A d a S.len S'.len
theorem Sub.null {A : Nat → UInt64} {d a s : Nat} (h : A a = 0) : Sub A d a s s := by
  cases d with
  | zero => exact ⟨h, rfl⟩
  | succ d => exact .inl ⟨h, rfl⟩
theorem chainC {T : Nat → NodeL} {cnt : Nat} {W : Nat → Nat} {d : Nat} : ∀ (L : List (Nat × Int16)) (lo : Nat) (S : CS) (rest : List (Nat × Int16)), (∀ x, x ∈ L → x.2 ≠ -1 → BigC T cnt W d x.2) → S.stk = nn L ++ rest → S.stk.length ≤ S.len →
    Rise (L.map Prod.fst) lo S.len → (∀ x, x ∈ L → S.A x.1 = 0) → S.len + wL W L ≤ 256 →
    ∃ S', Reach T cnt S S' ∧ S'.stk = rest ∧ S'.len = S.len + wL W L ∧ (∀ i, i < S.len → i ∉ L.map Prod.fst → S'.A i = S.A i) ∧ Chain (Sub S'.A d) (L.map Prod.fst) S.len S'.len
  | [], lo, S, rest, _, hs, hl, hr, hz, hw => ⟨S, ⟨0, rfl⟩, by simpa [nn] using hs, by simp [wL], fun _ _ _ => rfl, rfl⟩
  | x :: xs, lo, S, rest, hb, hs, hl, hr, hz, hw => by
    obtain ⟨hr1, hr2⟩ := hr
    have hx : x.1 < S.len := hr2.le
    simp only [wL] at hw ⊢
    by_cases hk : x.2 = -1
    · rw [if_pos hk, Nat.zero_add] at hw ⊢
      have hs' : S.stk = nn xs ++ rest := by rw [hs]; simp [nn, hk]
      obtain ⟨S', g1, g2, g3, g4, g5⟩ := chainC xs (x.1 + 1) S rest (fun y hy => hb y (by simp [hy])) hs' hl hr2 (fun y hy => hz y (by simp [hy])) hw
      refine ⟨S', g1, g2, g3, fun i hi hn => g4 i hi (fun h => hn (by simp at h ⊢; exact .inr h)), S.len, ?_, g5⟩
      have hnot : x.1 ∉ xs.map Prod.fst := fun h => by have := hr2.mem x.1 h; omega
      exact Sub.null (by rw [g4 x.1 hx hnot]; exact hz x (by simp))
    · rw [if_neg hk] at hw ⊢
      have hs' : S.stk = (x.1, x.2) :: (nn xs ++ rest) := by rw [hs]; simp [nn, hk]
      obtain ⟨S1, g1, g2, g3, g4, g5⟩ := hb x (by simp) hk S x.1 (nn xs ++ rest) hs' hl hx (by omega)
      have hlen1 : S1.stk.length ≤ S1.len := by
        rw [g2, g3]
        rw [hs'] at hl
        simp only [List.length_cons] at hl
        omega
      obtain ⟨S', k1, k2, k3, k4, k5⟩ := chainC xs (x.1 + 1) S1 rest (fun y hy => hb y (by simp [hy])) g2 hlen1 (hr2.mono (Nat.le_refl _) (by omega)) (fun y hy => by
        have hm := hr2.mem y.1 (List.mem_map_of_mem hy)
        rw [g4 y.1 (by omega) (by omega)]; exact hz y (by simp [hy])) (by omega)
      refine ⟨S', g1.trans k1, k2, by omega, ?_, S1.len, ?_, k5⟩
      · intro i hi hn
        simp only [List.map_cons, List.mem_cons, not_or] at hn
        rw [k4 i (by omega) hn.2, g4 i hi hn.1]
      · have hnot : ∀ i, (i = x.1 ∨ S.len ≤ i) → i ∉ xs.map Prod.fst := fun i hi h => by have := hr2.mem i h; omega
        exact Sub.congr (k4 x.1 (by omega) (hnot x.1 (.inl rfl))).symm (fun i h1 h2 => (k4 i h2 (hnot i (.inr h1))).symm) g5
theorem bigC {T : Nat → NodeL} {cnt : Nat} {Ob : Nat → Prop} {W : Nat → Nat} {Dp : Nat → Nat → Prop} (hT : CT T cnt Ob W Dp) : ∀ (f : Nat) (k : Int16) (dd : Nat), Ob k.toInt.toNat → k.toInt.toNat < cnt → 0 ≤ k.toInt → cnt - k.toInt.toNat ≤ f → Dp k.toInt.toNat dd → dd ≤ 8 → BigC T cnt W (9 - dd) k := by
  intro f
  induction f with
  | zero => intro k dd _ h _ h2; omega
  | succ f ih =>
    intro k dd hOb hk hk0 hf hDp hdd S a rest hs hl ha hw
    have hlr : rest.length + 1 ≤ S.len := by rw [hs] at hl; simpa using hl
    have e9 : 9 - dd = (8 - dd) + 1 := by omega
    have hkid : ∀ k' : Int16, KidO cnt Ob Dp k.toInt.toNat k' → BigC T cnt W (8 - dd) k' := by
      rintro k' ⟨h1, h2, h3, h4, h5⟩
      have h6 := h5 dd hDp
      have := ih k' (dd + 1) h1 h3 h4 (by omega) h6.2 h6.1
      rw [show 9 - (dd + 1) = 8 - dd by omega] at this
      exact this
    generalize hq : k.toInt.toNat = q at *
    have one : ∀ (S1 S' : CS), PlaceOK T cnt S.len a rest.length (T q) → placeC T S.A S.len rest a (T q) = S1 → Reach T cnt S1 S' → Reach T cnt S S' := by
      rintro S1 S' h1 rfl ⟨m, h2⟩
      exact ⟨m + 1, a, k, rest, hs, hk0, by rw [hq]; exact hk, by rw [hq]; exact h1, by rw [hq]; exact h2⟩
    rcases hT.shape q hOb hk with ⟨c1, c2, c3, c4, c5⟩ | ⟨c0, c1, c2, c3, c4, c5⟩ | ⟨c0, c1, c2, c3, c4, c5, c6, c7, c8⟩ | ⟨c0, c1, c2, c3, c4, c5⟩
    · have hp : placeC T S.A S.len rest a (T q) = ⟨secF (upd S.A a (makeStructL (UInt16.ofNat a) (UInt16.ofNat S.len) (UInt8.ofNat (T q).nd) (UInt8.ofNat (T q).nk))) S.len (T q), S.len + (T q).nd + (T q).nk, nn (slotL (S.len + (T q).nd) (T q)) ++ rest⟩ := by
        unfold placeC; rw [if_pos c1]
      generalize hA : secF (upd S.A a (makeStructL (UInt16.ofNat a) (UInt16.ofNat S.len) (UInt8.ofNat (T q).nd) (UInt8.ofNat (T q).nk))) S.len (T q) = A1 at hp
      have hA1 : ∀ i, i < S.len → i ≠ a → A1 i = S.A i := by
        intro i hi hne; rw [← hA]; simp only [secF]; rw [if_pos hi, upd_ne _ _ _ _ hne]
      have hAa : A1 a = makeStructL (UInt16.ofNat a) (UInt16.ofNat S.len) (UInt8.ofNat (T q).nd) (UInt8.ofNat (T q).nk) := by
        rw [← hA]; simp only [secF]; rw [if_pos ha, upd_same]
      have hri : Rise ((slotL (S.len + (T q).nd) (T q)).map Prod.fst) (S.len + (T q).nd) (S.len + (T q).nd + (T q).nk) := by rw [slotL_fst]; exact rise_one _ _
      have hnl := nn_len (slotL (S.len + (T q).nd) (T q))
      rw [slotL_len] at hnl
      have hwl := wL_slot W (S.len + (T q).nd) (T q)
      obtain ⟨S', g1, g2, g3, g4, g5⟩ := chainC (T := T) (cnt := cnt) (W := W) (d := 8 - dd) (slotL (S.len + (T q).nd) (T q)) (S.len + (T q).nd) ⟨A1, S.len + (T q).nd + (T q).nk, nn (slotL (S.len + (T q).nd) (T q)) ++ rest⟩ rest
        (fun x hx hne => by
          obtain ⟨j, _, hj, hm⟩ := mem_catF _ _ hx
          simp only [List.mem_singleton] at hm
          subst hm
          exact hkid _ (c5 j (by omega) hne)) rfl (by simp only [List.length_append]; omega) hri
        (fun x hx => by
          have := hri.mem x.1 (List.mem_map_of_mem hx)
          show A1 x.1 = 0
          rw [← hA]; simp only [secF]; rw [if_neg (by omega), if_neg (by omega)]) (by show _ + _ + _ + _ ≤ _; omega)
      refine ⟨S', one _ S' ⟨ha, .inl ⟨c1, c2, c3, by omega, by omega⟩⟩ hp g1, g2, by rw [g3]; show _ + _ + _ + _ = _; omega, ?_, ?_⟩
      · intro i hi hne
        rw [g4 i (by show _ < _ + _ + _; omega) (fun h => by have := hri.mem i h; omega)]
        exact hA1 i hi hne
      · rw [e9]
        refine .inr ⟨.st (T q).nd (T q).nk, ⟨c2, c3, ?_⟩, ?_⟩
        · rw [g4 a (by show _ < _ + _ + _; omega) (fun h => by have := hri.mem a h; omega)]; exact hAa
        · rw [slotL_fst] at g5
          simp only [Piece.slots, Piece.words, ← Nat.add_assoc]
          exact g5
    · have h1 : ¬ (T q).kind = 1 := c0
      have hp : placeC T S.A S.len rest a (T q) = ⟨secF (upd S.A a (makeListL (UInt16.ofNat a) (UInt16.ofNat (if (T q).nk = 0 then a + 1 else S.len)) (T q).code (UInt32.ofNat (T q).nk))) S.len (T q), S.len + (T q).nd + (T q).nk, nn (slotL (S.len + (T q).nd) (T q)) ++ rest⟩ := by
        unfold placeC; rw [if_neg h1, if_pos c1]
      generalize hA : secF (upd S.A a (makeListL (UInt16.ofNat a) (UInt16.ofNat (if (T q).nk = 0 then a + 1 else S.len)) (T q).code (UInt32.ofNat (T q).nk))) S.len (T q) = A1 at hp
      have hA1 : ∀ i, i < S.len → i ≠ a → A1 i = S.A i := by
        intro i hi hne; rw [← hA]; simp only [secF]; rw [if_pos hi, upd_ne _ _ _ _ hne]
      have hAa : A1 a = makeListL (UInt16.ofNat a) (UInt16.ofNat (if (T q).nk = 0 then a + 1 else S.len)) (UInt8.ofNat 6) (UInt32.ofNat (T q).nk) := by
        rw [← hA]; simp only [secF]; rw [if_pos ha, upd_same, c1]; rfl
      rw [c2, Nat.add_zero] at hp
      have hri : Rise ((slotL S.len (T q)).map Prod.fst) S.len (S.len + (T q).nk) := by rw [slotL_fst]; exact rise_one _ _
      have hnl := nn_len (slotL S.len (T q))
      rw [slotL_len] at hnl
      have hwl := wL_slot W S.len (T q)
      obtain ⟨S', g1, g2, g3, g4, g5⟩ := chainC (T := T) (cnt := cnt) (W := W) (d := 8 - dd) (slotL S.len (T q)) S.len ⟨A1, S.len + (T q).nk, nn (slotL S.len (T q)) ++ rest⟩ rest
        (fun x hx hne => by
          obtain ⟨j, _, hj, hm⟩ := mem_catF _ _ hx
          simp only [List.mem_singleton] at hm
          subst hm
          exact hkid _ (c5 j (by omega) hne)) rfl (by simp only [List.length_append]; omega) hri
        (fun x hx => by
          have := hri.mem x.1 (List.mem_map_of_mem hx)
          show A1 x.1 = 0
          rw [← hA]; simp only [secF]; rw [if_neg (by omega), if_neg (by omega)]) (by show _ + _ + _ ≤ _; omega)
      refine ⟨S', one _ S' ⟨ha, .inr (.inl ⟨c0, c1, c2, c3, by omega, by omega⟩)⟩ hp g1, g2, by rw [g3]; show _ + _ + _ = _; omega, ?_, ?_⟩
      · intro i hi hne
        rw [g4 i (by show _ < _ + _; omega) (fun h => by have := hri.mem i h; omega)]
        exact hA1 i hi hne
      · rw [e9]
        refine .inr ⟨.li 6 (T q).nk, ⟨by omega, by omega, c3, ?_, fun h => by omega⟩, ?_⟩
        · rw [g4 a (by show _ < _ + _; omega) (fun h => by have := hri.mem a h; omega)]; exact hAa
        · rw [slotL_fst] at g5
          simp only [Piece.slots, Piece.words, if_true]
          exact g5
    · have h1 : ¬ (T q).kind = 1 := c0
      have h6 : ¬ (T q).code = 6 := by rw [c1]; decide
      generalize hd : firD T (T q) = d at *
      generalize hpp : firP T (T q) = p at *
      generalize hB : upd (upd S.A a (makeListL (UInt16.ofNat a) (UInt16.ofNat S.len) (T q).code (UInt32.ofNat ((T q).nk * (d + p))))) S.len (makeTagL (UInt16.ofNat (T q).nk) (UInt8.ofNat d) (UInt8.ofNat p)) = B
      generalize hX : secsT T (T q) B (S.len + 1) (T q).nk = X
      generalize hLs : catF (fun i => slotL (S.len + 1 + i * (d + p) + (kidN T (T q) i).nd) (kidN T (T q) i)) 0 (T q).nk = Ls
      have hp : placeC T S.A S.len rest a (T q) = ⟨X.1, X.2, nn Ls ++ rest⟩ := by
        unfold placeC; rw [if_neg h1, if_neg h6, if_pos c1]
        simp only []
        rw [hd, hpp, hB, hX, hLs]
      have hinv := secs_inv T (T q) B (S.len + 1) d p (fun j hj => ⟨(c6 j hj).2.2.1, (c6 j hj).2.2.2⟩) (T q).nk (Nat.le_refl _)
      rw [hX] at hinv
      have hB1 : ∀ i, i < S.len → i ≠ a → B i = S.A i := by
        intro i hi hne; rw [← hB, upd_ne _ _ _ _ (by omega), upd_ne _ _ _ _ hne]
      have hBa : B a = makeListL (UInt16.ofNat a) (UInt16.ofNat S.len) 7 (UInt32.ofNat ((T q).nk * (d + p))) := by
        rw [← hB, upd_ne _ _ _ _ (by omega), upd_same, c1]
      have hBt : B S.len = makeTagL (UInt16.ofNat (T q).nk) (UInt8.ofNat d) (UInt8.ofNat p) := by rw [← hB, upd_same]
      have hfst : Ls.map Prod.fst = (Piece.ss (T q).nk d p).slots S.len := by
        rw [← hLs, catF_map]
        simp only [Piece.slots]
        apply catF_congr
        intro j h1 h2
        rw [slotL_fst, (c6 j (by omega)).2.2.1, (c6 j (by omega)).2.2.2]
      have hri : Rise (Ls.map Prod.fst) (S.len + 1) X.2 := by
        rw [hfst, hinv.ln]
        simp only [Piece.slots]
        have := rise_catF (g := fun i => catF (fun j => [S.len + 1 + i * (d + p) + d + j]) 0 p) (lo := fun i => S.len + 1 + i * (d + p)) (T q).nk 0 (fun i _ _ => by
          refine (rise_one (S.len + 1 + i * (d + p) + d) p).mono (by omega) ?_
          simp only [Nat.add_mul, Nat.one_mul]; omega) (fun _ => trivial) (by simp only [Nat.zero_mul]; omega)
        refine this.mono (by omega) ?_
        simp only [Nat.zero_add]; omega
      have hlenL := hri.len
      have hpm : (T q).nk * p ≤ (T q).nk * (d + p) := Nat.mul_le_mul_left _ (by omega)
      have hLl : Ls.length = (T q).nk * p := by
        have h1 : (Ls.map Prod.fst).length = (T q).nk * p := by
          rw [hfst]
          simp only [Piece.slots]
          exact catF_len1 _ _ (fun i => by
            have := catF_len1 (g := fun j => [S.len + 1 + i * (d + p) + d + j]) (p := 1) p 0 (fun j => rfl)
            omega)
        rw [List.length_map] at h1; exact h1
      have hnl := nn_len Ls
      have hwl : wL W Ls = sumK (fun i => sumK (kw W (kidN T (T q) i)) (kidN T (T q) i).nk) (T q).nk := by
        rw [← hLs, wL_cat]
        apply sumK_congr
        intro j hj
        exact wL_slot _ _ _
      have hXl := hinv.ln
      have hmem : ∀ x, x ∈ Ls → ∃ i j, i < (T q).nk ∧ j < p ∧ x = (S.len + 1 + i * (d + p) + d + j, (kidN T (T q) i).kid j) := by
        intro x hx
        rw [← hLs] at hx
        obtain ⟨i, _, hi, hm⟩ := mem_catF _ _ hx
        obtain ⟨j, _, hj, hm'⟩ := mem_catF _ _ hm
        simp only [List.mem_singleton] at hm'
        refine ⟨i, j, by omega, ?_, ?_⟩
        · rw [(c6 i (by omega)).2.2.2] at hj; omega
        · rw [hm', (c6 i (by omega)).2.2.1]
      obtain ⟨S', g1, g2, g3, g4, g5⟩ := chainC (T := T) (cnt := cnt) (W := W) (d := 8 - dd) Ls (S.len + 1) ⟨X.1, X.2, nn Ls ++ rest⟩ rest
        (fun x hx hne => by
          obtain ⟨i, j, hi, hj, rfl⟩ := hmem x hx
          exact hkid _ (c8 i hi j (by rw [(c6 i hi).2.2.2]; exact hj) hne)) rfl (by simp only [List.length_append]; omega) hri
        (fun x hx => by
          obtain ⟨i, j, hi, hj, rfl⟩ := hmem x hx
          exact hinv.zero i j hi hj) (by show X.2 + _ ≤ _; omega)
      refine ⟨S', one _ S' ⟨ha, .inr (.inr (.inl ⟨c0, c1, c2, by rw [hd]; exact c3, by rw [hpp]; exact c4, by rw [hd, hpp]; exact c6, by rw [hd, hpp]; omega, by rw [hpp]; omega⟩))⟩ hp g1, g2, by rw [g3]; show X.2 + _ = _; omega, ?_, ?_⟩
      · intro i hi hne
        rw [g4 i (by show _ < X.2; omega) (fun h => by have := hri.mem i h; omega)]
        show X.1 i = _
        rw [hinv.old i (by omega)]
        exact hB1 i hi hne
      · rw [e9]
        have hz : (T q).nk = 0 → d = 0 ∧ p = 0 := by
          intro h0
          rw [← hd, ← hpp]
          unfold firD firP
          rw [if_neg (by omega), if_neg (by omega)]; exact ⟨rfl, rfl⟩
        refine .inr ⟨.ss (T q).nk d p, ⟨c2, c3, c4, hz, c5, by omega, ?_, ?_⟩, ?_⟩
        · rw [g4 a (by show _ < X.2; omega) (fun h => by have := hri.mem a h; omega)]
          show X.1 a = _
          rw [hinv.old a (by omega)]; exact hBa
        · rw [g4 S.len (by show _ < X.2; omega) (fun h => by have := hri.mem S.len h; omega)]
          show X.1 S.len = _
          rw [hinv.old S.len (by omega)]; exact hBt
        · rw [hfst] at g5
          have e : S.len + (Piece.ss (T q).nk d p).words = X.2 := by simp only [Piece.words]; omega
          rw [e]
          exact g5
    · have h1 : ¬ (T q).kind = 1 := c0
      have h6 : ¬ (T q).code = 6 := by intro h; rw [h] at c2; exact absurd c2 (by decide)
      have h7 : ¬ (T q).code = 7 := by intro h; rw [h] at c2; exact absurd c2 (by decide)
      generalize hB : upd S.A a (makeListL (UInt16.ofNat a) (UInt16.ofNat (if (T q).nd = 0 then a + 1 else S.len)) (T q).code (UInt32.ofNat (T q).nd)) = B
      generalize hX : scalT B S.len (T q) (T q).nd = X
      have hp : placeC T S.A S.len rest a (T q) = ⟨X.1, X.2, rest⟩ := by
        unfold placeC; rw [if_neg h1, if_neg h6, if_neg h7]
        simp only []
        rw [hB, hX]
      have hinv := scal_inv B S.len (T q) ⟨c1, c2⟩ (fun j hj => by
        have h1 := c4 j hj
        rw [UInt64.le_iff_toNat_le] at h1
        have h2 := maskC_nat (T q).code ⟨c1, c2⟩
        unfold bitsC
        omega) (T q).nd (Nat.le_refl _)
      rw [hX] at hinv
      have hXl := hinv.ln
      have hbt : (T q).nd * bitsC (T q) = 8 * ((T q).nd * 2 ^ ((T q).code.toNat - 2)) := by
        unfold bitsC
        rw [Nat.mul_left_comm]
      have hlast := hinv.last
      rw [hbt] at hXl hlast
      generalize hm : (T q).nd * 2 ^ ((T q).code.toNat - 2) = M at *
      refine ⟨⟨X.1, X.2, rest⟩, one _ _ ⟨ha, .inr (.inr (.inr ⟨c0, c1, c2, c3, by rw [hm]; omega⟩))⟩ hp ⟨0, rfl⟩, rfl, by show X.2 = _; omega, ?_, ?_⟩
      · intro i hi hne
        show X.1 i = _
        rw [hinv.old i hi, ← hB, upd_ne _ _ _ _ hne]
      · rw [e9]
        have hcode : UInt8.ofNat (T q).code.toNat = (T q).code := UInt8.ofNat_toNat
        refine .inr ⟨.li (T q).code.toNat (T q).nd, ⟨c1, by omega, c3, ?_, fun h5 hne => ?_⟩, ?_⟩
        · show X.1 a = _
          rw [hinv.old a ha, ← hB, upd_same, hcode]
        · show shr64 (X.1 _) _ = 0
          rw [hm] at hne ⊢
          have e1 : S.len + M / 8 = S.len + 8 * M / 64 := by omega
          have e2 : M % 8 * 8 = 8 * M % 64 := by omega
          have h3 := hlast (by omega)
          rw [e1, e2]
          apply UInt64.toNat_inj.1
          rw [shr64_nat]
          exact Nat.div_eq_of_lt h3
        · simp only [Piece.slots, Piece.words]
          rw [if_neg (by omega), if_neg (by omega)]
          show _ = X.2
          rw [hm]; omega
end Eng
end Go.Proofs.Ygcfab
