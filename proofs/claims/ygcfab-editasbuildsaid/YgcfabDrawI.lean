/-
  Regions that draw their order: an invariant over the operations done.
-/
import Derived.Test.YgcfabNorm2
set_option linter.unusedSimpArgs false
set_option linter.unusedVariables false
namespace Go.Proofs.Ygcfab
namespace Eng
section
variable {P : Program} {n : Nat} {ops : Array Oper}
def pastB : List Oper → Nat → Bool
  | [], _ => true
  | o :: l, i => o.after.all (fun e => !Region.binds .any e || decide (e.on < i)) && pastB l (i + 1)
theorem pastB_spec : ∀ (l : List Oper) (i : Nat), pastB l i = true → ∀ (j : Nat) (o : Oper), l[j]? = some o → ∀ e ∈ o.after, Region.binds .any e = true → e.on < i + j
  | [], _, _, j, o, h, _, _, _ => by simp at h
  | x :: l, i, h, j, o, hj, e, he, hb => by
    simp only [pastB, Bool.and_eq_true] at h
    cases j with
    | zero =>
      simp only [List.getElem?_cons_zero, Option.some.injEq] at hj
      subst hj
      have := Array.all_eq_true_iff_forall_mem.1 h.1 e he
      simp only [hb, Bool.not_true, Bool.false_or, decide_eq_true_eq] at this
      omega
    | succ j =>
      rw [List.getElem?_cons_succ] at hj
      have := pastB_spec l (i + 1) h.2 j o hj e he hb
      omega
def StepI (P : Program) (n : Nat) (ops : Array Oper) (Inv : (Nat → Bool) → Env → Heap → Prop) : Prop :=
  ∀ (i : Nat) (o : Oper) (L : Nat → Bool) (T : Env) (H : Heap), ops[i]? = some o → L i = false → (∀ e ∈ o.after, Region.binds .any e = true → L e.on = true) → Inv L T H →
    dOk n o.dst ∧ if gd ops o T then vc P o T H (fun v H' => Inv (upd L i true) (put T o.dst v) H') else Inv (upd L i true) (put T o.dst undef) H
theorem VI_any (hsel : ∀ (j : Nat) (o : Oper) cs b, ops[j]? = some o → o.op ≠ .select cs b) (hpast : ∀ (j : Nat) (o : Oper), ops[j]? = some o → ∀ e ∈ o.after, Region.binds .any e = true → e.on < j)
    {Inv : (Nat → Bool) → Env → Heap → Prop} (step : StepI P n ops Inv) {Q' : Exit → Act → World → Prop} (H0 : Heap) (w0 : World)
    (hQ : ∀ L a T w H, (∀ i, i < ops.size → L i = true) → Inv L T H → Mt n a T → Rel H0 w0 H w → Q' .normal a w) :
    ∀ (k : Nat) (listed : Array Bool) (T : Env) (H : Heap) (a : Act) (w : World), listed.size = ops.size → sumK (fun i => if listed.getD i false then 0 else 1) ops.size ≤ k → Mt n a T → Rel H0 w0 H w → Inv (fun i => listed.getD i false) T H → wpAny P .any ops Q' k listed a w := by
  intro k
  have htf : ∀ (listed : Array Bool) (j : Nat), listed.getD j true = false ↔ j < listed.size ∧ listed.getD j false = false := by
    intro listed j
    by_cases h : j < listed.size
    · simp [h]
    · simp [h]
  have hall : ∀ (listed : Array Bool), listed.size = ops.size → Region.ready .any ops listed = [] → ∀ i, i < ops.size → listed.getD i false = true := by
    intro listed hsz hr i
    induction i using Nat.strongRecOn with
    | ind i ih =>
      intro hi
      refine Decidable.byContradiction fun hne => ?_
      have : i ∈ Region.ready .any ops listed := by
        rw [mem_ready]
        refine ⟨(htf listed i).2 ⟨by omega, by simpa using hne⟩, ops[i], Array.getElem?_eq_getElem hi, fun e he hb => ?_⟩
        have := hpast i _ (Array.getElem?_eq_getElem hi) e he hb
        exact ih e.on this (by omega)
      rw [hr] at this
      cases this
  induction k with
  | zero =>
    intro listed T H a w hsz hk hm hr hI
    have hl : ∀ i, i < ops.size → listed.getD i false = true := by
      intro i hi
      have := sumK_le_of (g := fun i => if listed.getD i false then 0 else 1) ops.size i hi
      refine Decidable.byContradiction fun hne => ?_
      have h1 : (if listed.getD i false = true then 0 else 1) = 1 := if_neg hne
      simp only [h1] at this
      omega
    refine ⟨?_, hQ _ a T w H hl hI hm hr⟩
    cases hrd : Region.ready .any ops listed with
    | nil => rfl
    | cons j js =>
      exfalso
      have hj : j ∈ Region.ready .any ops listed := by rw [hrd]; exact List.mem_cons_self
      obtain ⟨hu, _⟩ := mem_ready.1 hj
      have h2 := (htf listed j).1 hu
      rw [hl j (by omega)] at h2
      exact absurd h2.2 (by simp)
  | succ k ih =>
    intro listed T H a w hsz hk hm hr hI
    refine ⟨fun hrd => hQ _ a T w H (hall listed hsz hrd) hI hm hr, fun i hi => ?_⟩
    obtain ⟨hu, o, ho, hpre⟩ := mem_ready.1 hi
    have h2 := (htf listed i).1 hu
    obtain ⟨hd, hs⟩ := step i o _ T H ho h2.2 hpre hI
    have hset : (fun j => (listed.setIfInBounds i true).getD j false) = upd (fun j => listed.getD j false) i true := by
      funext j
      by_cases e : j = i
      · subst e; rw [upd_same]; simp [h2.1]
      · rw [upd_ne _ _ _ _ e, getD_set_ne false (fun h => e h.symm)]
    have hcount : sumK (fun j => if (listed.setIfInBounds i true).getD j false then 0 else 1) ops.size ≤ k := by
      have h3 := sumK_upd (fun j => if listed.getD j false then 0 else 1) i 0 ops.size (by omega)
      rw [sumK_congr ops.size (g := upd (fun j => if listed.getD j false then 0 else 1) i 0) (h := fun j => if (listed.setIfInBounds i true).getD j false then 0 else 1)] at h3
      · have h1 : (if listed.getD i false = true then 0 else 1) = 1 := if_neg (by rw [h2.2]; simp)
        simp only [h1] at h3
        omega
      · intro j hj
        have : (listed.setIfInBounds i true).getD j false = upd (fun j => listed.getD j false) i true j := congrFun hset j
        rw [this]
        by_cases e : j = i
        · subst e; rw [upd_same, upd_same]; rfl
        · rw [upd_ne _ _ _ _ e, upd_ne _ _ _ _ e]
    unfold wpOp
    simp only [ho]
    rw [hm.wanted]
    split
    · rename_i hg
      rw [if_pos hg] at hs
      left
      exact vc_sound hr.sat hm hs fun v w' H' hrel hV => ih _ _ H' _ _ (by simp [hsz]) hcount (hm.put hd _) (hr.trans hrel) (by rw [hset]; exact hV)
    · rename_i hg
      rw [if_neg hg] at hs
      exact ih _ _ H _ _ (by simp [hsz]) hcount (hm.put hd _) hr (by rw [hset]; exact hs)
/-- A REGION THAT DRAWS ITS ORDER: what each operation keeps, whichever stand before it. -/
theorem W_drawI {id : Nat} {l : List Oper} {Q : Exit → Env → Heap → Prop} {T : Env} {H : Heap} (hm : P.follows .mixedOrders = true) (hsel : Region.noSelect l.toArray = true) (hpast : pastB l 0 = true)
    (Inv : (Nat → Bool) → Env → Heap → Prop) (h0 : Inv (fun _ => false) T H) (step : StepI P n l.toArray Inv) (fin : ∀ L T H, (∀ i, i < l.length → L i = true) → Inv L T H → Q .normal T H) : W P n (.region id l.toArray true) Q T H := by
  refine ⟨fun a w hmt hs => ?_⟩
  refine wp_region_any hm ?_
  have hrel := rel_drew hs
  refine VI_any (Region.noSelect_spec hsel) (fun j o hj e he hb => ?_) step H w (fun L a' T' w' H' hL hI a1 a2 => ⟨T', H', a1, a2, fin L T' H' (fun i hi => hL i (by simpa using hi)) hI⟩) l.toArray.size _ T H a _ (by simp) ?_ hmt hrel ?_
  · have := pastB_spec l 0 hpast j o (by simpa using hj) e he hb
    omega
  · have : ∀ k g, (∀ i, g i ≤ 1) → sumK g k ≤ k := by
      intro k g hg
      induction k with
      | zero => exact Nat.le_refl _
      | succ k ih => simp only [sumK]; have := hg k; omega
    exact this _ _ (fun i => by split <;> omega)
  · have e : (fun i => (Array.replicate l.toArray.size false).getD i false) = fun _ => false := by
      funext i
      by_cases h : i < l.length <;> simp [h]
    rw [e]; exact h0
def PreA (L : Nat → Bool) : List Edge → Prop
  | [] => True
  | e :: l => (Region.binds .any e = true → L e.on = true) ∧ PreA L l
theorem PreA_of {L : Nat → Bool} : ∀ (l : List Edge), (∀ e ∈ l, Region.binds .any e = true → L e.on = true) → PreA L l
  | [], _ => trivial
  | e :: l, h => ⟨h e (by simp), PreA_of l (fun e he => h e (by simp [he]))⟩
def KI (Inv : (Nat → Bool) → Env → Heap → Prop) (L : Nat → Bool) (i : Nat) (T : Env) (d : Option Tmp) : Value → Heap → Prop := fun v H' => Inv (upd L i true) (put T d v) H'
theorem KI_eq (Inv : (Nat → Bool) → Env → Heap → Prop) (L : Nat → Bool) (i : Nat) (T : Env) (d : Option Tmp) (v : Value) (H : Heap) : KI Inv L i T d v H = Inv (upd L i true) (put T d v) H := rfl
def StepA (P : Program) (n : Nat) (ops : Array Oper) (Inv : (Nat → Bool) → Env → Heap → Prop) : List Oper → Nat → Prop
  | [], _ => True
  | o :: l, i => (∀ L T H, L i = false → PreA L o.after.toList → Inv L T H → dOk n o.dst ∧ if gd ops o T = true then vc P o T H (KI Inv L i T o.dst) else KI Inv L i T o.dst undef H) ∧ StepA P n ops Inv l (i + 1)
theorem StepA_spec {Inv : (Nat → Bool) → Env → Heap → Prop} : ∀ (l : List Oper) (i : Nat), StepA P n ops Inv l i → ∀ (j : Nat) (o : Oper), l[j]? = some o → ∀ L T H, L (i + j) = false → (∀ e ∈ o.after, Region.binds .any e = true → L e.on = true) → Inv L T H →
    dOk n o.dst ∧ if gd ops o T = true then vc P o T H (fun v H' => Inv (upd L (i + j) true) (put T o.dst v) H') else Inv (upd L (i + j) true) (put T o.dst undef) H
  | [], _, _, j, o, h, _, _, _, _, _, _ => by simp at h
  | x :: l, i, h, j, o, hj, L, T, H, hL, hp, hI => by
    cases j with
    | zero =>
      simp only [List.getElem?_cons_zero, Option.some.injEq] at hj
      subst hj
      exact h.1 L T H hL (PreA_of _ (fun e he => hp e (by simpa using he))) hI
    | succ j =>
      rw [List.getElem?_cons_succ] at hj
      have e : i + (j + 1) = i + 1 + j := by omega
      rw [e] at hL ⊢
      exact StepA_spec l (i + 1) h.2 j o hj L T H hL hp hI
/-- A REGION THAT DRAWS ITS ORDER: what each operation keeps, one after the other. -/
theorem W_drawA {id : Nat} {l : List Oper} {Q : Exit → Env → Heap → Prop} {T : Env} {H : Heap} (hm : P.follows .mixedOrders = true) (hsel : Region.noSelect l.toArray = true) (hpast : pastB l 0 = true)
    (Inv : (Nat → Bool) → Env → Heap → Prop) (h0 : Inv (fun _ => false) T H) (step : StepA P n l.toArray Inv l 0) (fin : ∀ L T H, (∀ i, i < l.length → L i = true) → Inv L T H → Q .normal T H) : W P n (.region id l.toArray true) Q T H := by
  refine W_drawI hm hsel hpast Inv h0 ?_ fin
  intro i o L T H ho hL hp hI
  have := StepA_spec l 0 step i o (by simpa using ho) L T H (by rw [Nat.zero_add]; exact hL) hp hI
  rw [Nat.zero_add] at this
  exact this
end
end Eng
end Go.Proofs.Ygcfab
