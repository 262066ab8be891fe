/-
  The engine of this seat's walks, part two: blocks as functions, typed values, what each kind of operation asks.
-/
import Derived.Test.YgcfabEng
set_option linter.unusedSimpArgs false
set_option linter.unusedVariables false
namespace Go.Proofs.Ygcfab
namespace Eng

/-! ### Blocks as functions -/
def fcells (n : Nat) (f : Nat → Value) : Array Value := Array.ofFn (fun i : Fin n => f i)
def fblk (n : Nat) (f : Nat → Value) (e : TypeId) : Obj := .cells (fcells n f) e (0, 0)
def lget : List Value → Nat → Value
  | [], _ => undef
  | a :: _, 0 => a
  | _ :: l, i + 1 => lget l i
theorem lget_nil (i : Nat) : lget [] i = undef := rfl
theorem lget_zero (a : Value) (l : List Value) : lget (a :: l) 0 = a := rfl
theorem lget_succ (a : Value) (l : List Value) (i : Nat) : lget (a :: l) (i + 1) = lget l i := rfl
theorem lget_eq (l : List Value) (i : Nat) : lget l i = l.getD i undef := by
  induction l generalizing i with
  | nil => rfl
  | cons a l ih => cases i with
    | zero => rfl
    | succ i => simpa [lget] using ih i

theorem size_fcells (n : Nat) (f : Nat → Value) : (fcells n f).size = n := by simp [fcells]
theorem fcells_get (n : Nat) (f : Nat → Value) (i : Nat) : (fcells n f)[i]? = if i < n then some (f i) else none := by
  unfold fcells
  by_cases h : i < n
  · simp [h]
  · simp [h]
theorem fcells_set (n : Nat) (f : Nat → Value) (i : Nat) (v : Value) : (fcells n f).setIfInBounds i v = fcells n (upd f i v) := by
  apply Array.ext_getElem?
  intro j
  rw [fcells_get, Array.getElem?_setIfInBounds, fcells_get, size_fcells]
  by_cases h : i = j
  · subst h; rw [if_pos rfl, upd_same]
  · rw [if_neg h, upd_ne _ _ _ _ (fun e => h e.symm)]
theorem fcells_congr (n : Nat) (f g : Nat → Value) (h : ∀ i, i < n → f i = g i) : fcells n f = fcells n g := by
  unfold fcells
  congr 1
  funext i
  exact h i i.2
theorem fblk_congr {n : Nat} {f g : Nat → Value} {e : TypeId} (h : ∀ i, i < n → f i = g i) : fblk n f e = fblk n g e := by
  unfold fblk; rw [fcells_congr n f g h]
theorem fcells_of_list (l : List Value) : l.toArray = fcells l.length (lget l) := by
  apply Array.ext
  · simp [fcells]
  · intro i h1 h2
    simp at h1
    simp [fcells, lget_eq, h1]
theorem fcells_of (c : Array Value) : c = fcells c.size (lget c.toList) := by
  have := fcells_of_list c.toList
  simpa using this
theorem cells_of_list (l : List Value) (e : TypeId) : Obj.cells l.toArray e (0, 0) = fblk l.length (lget l) e := by
  unfold fblk; rw [← fcells_of_list]

/-! ### Reading and writing -/
def rd (H : Heap) (b o : Nat) : Option Value := hcell H ⟨b, o, none⟩
def rdO (x : Option Obj) (o : Nat) : Option Value :=
  match x with
  | some (.cells c _ _) => c[o]?
  | _ => none
theorem rd_eq (H : Heap) (b o : Nat) : rd H b o = rdO (H b) o := by
  unfold rd hcell rdO
  cases H b with
  | none => rfl
  | some x => cases x <;> rfl
theorem rdO_fblk (n : Nat) (f : Nat → Value) (e : TypeId) (o : Nat) : rdO (some (fblk n f e)) o = if o < n then some (f o) else none := by
  simp only [rdO, fblk, fcells_get]
theorem rd_fblk {H : Heap} {b n o : Nat} {f : Nat → Value} {e : TypeId} (h : H b = some (fblk n f e)) (ho : o < n) : rd H b o = some (f o) := by
  rw [rd_eq, h, rdO_fblk, if_pos ho]
def rdK (x : Option Value) (k : Value → Prop) : Prop :=
  match x with
  | some v => k v
  | none => False
theorem rdK_some (v : Value) (k : Value → Prop) : rdK (some v) k = k v := rfl
theorem rdK_none (k : Value → Prop) : rdK none k = False := rfl

/-- may cell 'o' of block 'b' be written? -/
def wrOk (x : Option Obj) (o : Nat) : Prop :=
  match x with
  | some (.cells c _ (lo, hi)) => o < c.size ∧ (decide (lo ≤ o) && decide (o < hi)) = false
  | _ => False
def wrO (x : Option Obj) (o : Nat) (v : Value) : Option Obj :=
  match x with
  | some (.cells c e f) => some (.cells (c.setIfInBounds o v) e f)
  | x => x
theorem wrOk_fblk (n : Nat) (f : Nat → Value) (e : TypeId) (o : Nat) : wrOk (some (fblk n f e)) o = (o < n) := by
  simp [wrOk, fblk, size_fcells]
theorem wrO_fblk (n : Nat) (f : Nat → Value) (e : TypeId) (o : Nat) (v : Value) : wrO (some (fblk n f e)) o v = some (fblk n (upd f o v) e) := by
  simp [wrO, fblk, fcells_set]

section
variable {P : Program}

theorem runH_load (b o : Nat) (m : Mode) (H : Heap) (k : Value → Heap → Prop) : runH P (load ⟨b, o, none⟩ m) H k = rdK (rd H b o) (fun v => k v H) := by
  simp only [load, runH, rd, rdK]
  cases hcell H ⟨b, o, none⟩ <;> rfl

theorem runH_store (b o : Nat) (v : Value) (m : Mode) (hv : v.oneCell' = true) (H : Heap) (k : Unit → Heap → Prop) :
    runH P (store ⟨b, o, none⟩ v m) H k = (wrOk (H b) o ∧ k () (upd H b (wrO (H b) o v))) := by
  simp only [store, runH, hv, true_and, hcell, hfrozen, hset, eq_iff_iff]
  cases hb : H b with
  | none => simp [wrOk]
  | some x =>
    cases x <;> simp [wrOk]
    rename_i c e f
    obtain ⟨lo, hi⟩ := f
    simp only [wrO]
    constructor
    · rintro ⟨h1, h2, h3⟩; exact ⟨⟨h1, h2⟩, h3⟩
    · rintro ⟨⟨h1, h2⟩, h3⟩; exact ⟨h1, h2, h3⟩

theorem addr_add (b o n : Nat) : (⟨b, o, none⟩ : Addr).add n = ⟨b, o + n, none⟩ := by
  unfold Addr.add
  split
  · rename_i h; subst h; rfl
  · rfl

/-- reading 'n' cells one behind the other -/
def rdsK (H : Heap) (b : Nat) : Nat → Nat → List Value → (List Value → Prop) → Prop
  | _, 0, acc, k => k acc.reverse
  | o, n + 1, acc, k => rdK (rd H b o) (fun v => rdsK H b (o + 1) n (v :: acc) k)

theorem runH_loadCells_aux (b o : Nat) (H : Heap) : ∀ (n i : Nat) (acc : Array Value) (k : Array Value → Heap → Prop),
    runH P (loadCellsFrom ⟨b, o, none⟩ i n acc) H k = rdsK H b (o + i) n acc.toList.reverse (fun vs => k vs.toArray H) := by
  intro n
  induction n with
  | zero => intro i acc k; simp [loadCellsFrom, runH_pure, rdsK]
  | succ n ih =>
    intro i acc k
    simp only [loadCellsFrom, runH_bind, addr_add, runH_load, rdsK]
    congr 1
    funext v
    rw [ih]
    simp [Nat.add_assoc]
theorem runH_loadCells (b o n : Nat) (H : Heap) (k : Array Value → Heap → Prop) :
    runH P (loadCells ⟨b, o, none⟩ n) H k = rdsK H b o n [] (fun vs => k vs.toArray H) := by
  unfold loadCells; rw [runH_loadCells_aux]; rfl

/-- writing one behind the other -/
def wrsK (b : Nat) : Nat → List Value → Heap → (Heap → Prop) → Prop
  | _, [], H, k => k H
  | o, v :: l, H, k => wrOk (H b) o ∧ wrsK b (o + 1) l (upd H b (wrO (H b) o v)) k

theorem runH_storeCells_aux (b o : Nat) : ∀ (l : List Value) (i : Nat) (H : Heap) (k : Unit → Heap → Prop), (∀ v ∈ l, v.oneCell' = true) →
    runH P (storeCells ⟨b, o, none⟩ l i) H k = wrsK b (o + i) l H (fun H' => k () H') := by
  intro l
  induction l with
  | nil => intro i H k _; rfl
  | cons v l ih =>
    intro i H k hl
    simp only [storeCells, runH_bind, addr_add, wrsK]
    rw [runH_store _ _ _ _ (hl v List.mem_cons_self)]
    congr 1
    rw [ih _ _ _ (fun u hu => hl u (List.mem_cons_of_mem _ hu))]
    simp [Nat.add_assoc]
theorem runH_storeCells (b o : Nat) (l : List Value) (H : Heap) (k : Unit → Heap → Prop) (hl : ∀ v ∈ l, v.oneCell' = true) :
    runH P (storeCells ⟨b, o, none⟩ l) H k = wrsK b o l H (fun H' => k () H') := runH_storeCells_aux b o l 0 H k hl

/-! what is read of a block of ours, and what is written -/
theorem rdsK_fblk {H : Heap} {b n : Nat} {f : Nat → Value} {e : TypeId} (h : H b = some (fblk n f e)) : ∀ (m o : Nat) (acc : List Value) (k : List Value → Prop), o + m ≤ n →
    rdsK H b o m acc k = k (acc.reverse ++ (List.range m).map (fun i => f (o + i))) := by
  intro m
  induction m with
  | zero => intro o acc k _; simp [rdsK]
  | succ m ih =>
    intro o acc k hm
    simp only [rdsK, rd_fblk h (show o < n by omega), rdK]
    rw [ih _ _ _ (by omega)]
    simp only [List.reverse_cons, List.append_assoc, List.range_succ_eq_map, List.map_cons, List.map_map, Nat.add_zero, List.singleton_append]
    congr 3
    apply List.map_congr_left
    intro i _
    simp only [Function.comp]
    congr 1
    omega

/-- the cells that a run of writes leaves -/
def upds (f : Nat → Value) (o : Nat) : List Value → (Nat → Value)
  | [] => f
  | v :: l => upds (upd f o v) (o + 1) l
theorem upds_nil (f : Nat → Value) (o : Nat) : upds f o [] = f := rfl
theorem upds_cons (f : Nat → Value) (o : Nat) (v : Value) (l : List Value) : upds f o (v :: l) = upds (upd f o v) (o + 1) l := rfl
theorem wrsK_fblk {b n : Nat} {e : TypeId} : ∀ (l : List Value) (o : Nat) (H : Heap) (f : Nat → Value) (k : Heap → Prop), H b = some (fblk n f e) → o + l.length ≤ n →
    k (if l = [] then H else upd H b (some (fblk n (upds f o l) e))) → wrsK b o l H k := by
  intro l
  induction l with
  | nil => intro o H f k _ _ h; exact h
  | cons v l ih =>
    intro o H f k hb hl h
    simp only [List.length_cons] at hl
    refine ⟨by rw [hb, wrOk_fblk]; omega, ?_⟩
    rw [hb, wrO_fblk]
    refine ih (o + 1) _ (upd f o v) k (upd_same _ _ _) (by omega) ?_
    simp only [upd_upd]
    split
    · rename_i hl0; subst hl0; simpa [upds] using h
    · simpa [upds] using h
theorem upds_get (f : Nat → Value) : ∀ (l : List Value) (o i : Nat), upds f o l i = if o ≤ i ∧ i < o + l.length then lget l (i - o) else f i := by
  intro l
  induction l generalizing f with
  | nil => intro o i; simp [upds]; omega
  | cons v l ih =>
    intro o i
    simp only [upds, ih, List.length_cons]
    by_cases h1 : o + 1 ≤ i ∧ i < o + 1 + l.length
    · rw [if_pos h1, if_pos ⟨by omega, by omega⟩]
      have : i - o = (i - (o + 1)) + 1 := by omega
      rw [this]; rfl
    · rw [if_neg h1]
      by_cases h2 : i = o
      · subst h2
        rw [upd_same, if_pos ⟨by omega, by omega⟩]
        simp [lget]
      · rw [upd_ne _ _ _ _ h2, if_neg (by omega)]

/-- may 'm' cells from 'o' on be written? -/
def wrsOk (x : Option Obj) (o m : Nat) : Prop := ∀ i, i < m → wrOk x (o + i)
def wrsO (x : Option Obj) (o : Nat) : List Value → Option Obj
  | [] => x
  | v :: l => wrsO (wrO x o v) (o + 1) l
theorem wrOk_wrO (x : Option Obj) (o i : Nat) (v : Value) : wrOk (wrO x o v) i = wrOk x i := by
  cases x with
  | none => rfl
  | some y => cases y <;> simp [wrO, wrOk]
theorem wrsK_eq (b : Nat) : ∀ (l : List Value) (o : Nat) (H : Heap) (k : Heap → Prop), wrsK b o l H k = (wrsOk (H b) o l.length ∧ k (if l = [] then H else upd H b (wrsO (H b) o l))) := by
  intro l
  induction l with
  | nil => intro o H k; simp [wrsK, wrsOk]
  | cons v l ih =>
    intro o H k
    simp only [wrsK]
    rw [ih]
    have e1 : (if l = [] then upd H b (wrO (H b) o v) else upd (upd H b (wrO (H b) o v)) b (wrsO (upd H b (wrO (H b) o v) b) (o + 1) l)) = upd H b (wrsO (H b) o (v :: l)) := by
      split
      · rename_i h; subst h; rfl
      · rw [upd_same, upd_upd]; rfl
    rw [e1]
    simp only [if_false, reduceCtorEq, upd_same, List.length_cons, wrsOk, wrOk_wrO, eq_iff_iff]
    constructor
    · rintro ⟨h1, h2, h3⟩
      refine ⟨fun i hi => ?_, h3⟩
      cases i with
      | zero => exact h1
      | succ i => have := h2 i (by omega); rwa [Nat.add_assoc, Nat.add_comm 1] at this
    · rintro ⟨h1, h3⟩
      refine ⟨h1 0 (by omega), fun i hi => ?_, h3⟩
      have := h1 (i + 1) (by omega)
      rwa [Nat.add_assoc, Nat.add_comm 1]
theorem wrsOk_fblk (n : Nat) (f : Nat → Value) (e : TypeId) (o m : Nat) (hm : 0 < m) : wrsOk (some (fblk n f e)) o m = (o + m ≤ n) := by
  simp only [wrsOk, wrOk_fblk, eq_iff_iff]
  constructor
  · intro h; have := h (m - 1) (by omega); omega
  · intro h i hi; omega
theorem wrsO_fblk (n : Nat) (e : TypeId) : ∀ (l : List Value) (f : Nat → Value) (o : Nat), wrsO (some (fblk n f e)) o l = some (fblk n (upds f o l) e)
  | [], _, _ => rfl
  | v :: l, f, o => by
    simp only [wrsO, wrO_fblk, upds]
    exact wrsO_fblk n e l _ _
theorem fblk_all (n : Nat) (f : Nat → Value) (e : TypeId) (l : List Value) (h : l.length = n) : fblk n (upds f 0 l) e = fblk n (lget l) e := by
  apply fblk_congr
  intro i hi
  rw [upds_get, if_pos (by omega)]
  simp
end
end Eng
end Go.Proofs.Ygcfab
