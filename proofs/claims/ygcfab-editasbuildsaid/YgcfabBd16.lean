/-
  A region that draws its order, under a relation between heaps of one's own.
-/
import Derived.Test.YgcfabBd15
set_option linter.unusedSimpArgs false
set_option linter.unusedVariables false
namespace Go.Proofs.Ygcfab
namespace Eng
theorem Fn.shrink {P : Program} {f : FuncId} {args : Array Value} {H : Heap} {R R' : Value → Heap → Prop} (h : Fn P f args H R) (hr : ∀ v H', R v H' → ∃ H'', Le H'' H' ∧ R' v H'') : Fn P f args H R' :=
  ⟨fun w hs => (h.run w hs).mono fun _ _ ⟨v, H', he, hrel, hk⟩ => by
    obtain ⟨H'', l, h2⟩ := hr v H' hk
    exact ⟨v, H'', he, hrel.weaken l, h2⟩⟩
section
variable {P : Program} {n : Nat} {ops : Array Oper} {C : Heap → Heap → Prop} {Q : Env → Heap → Prop}
def pickO : Option Oper → Stp → List (Oper × Stp) → List (Oper × Stp)
  | some o, s, l => (o, s) :: l
  | none, _, l => l
theorem pickX_nil : pick ops [] = [] := rfl
theorem pickX_cons (i m : Nat) (st : List Stp) : pick ops (⟨i, m⟩ :: st) = pickO ops[i]? ⟨i, m⟩ (pick ops st) := by
  rw [pick]
  cases ops[i]? <;> rfl
theorem pickO_some (o : Oper) (s : Stp) (l : List (Oper × Stp)) : pickO (some o) s l = (o, s) :: l := rfl
def KX (P : Program) (n : Nat) (ops : Array Oper) (C : Heap → Heap → Prop) (Q : Env → Heap → Prop) (l : List (Oper × Stp)) (T : Env) (d : Option Tmp) : Value → Heap → Prop := fun v H => VD P n ops C Q l (put T d v) H
structure GrdX (P : Program) (n : Nat) (ops : Array Oper) (C : Heap → Heap → Prop) (Q : Env → Heap → Prop) (g : Bool) (m : Nat) (o : Oper) (l : List (Oper × Stp)) (T : Env) (H : Heap) : Prop where
  run : if g = true then vcm P C m o T H (KX P n ops C Q l T o.dst) else KX P n ops C Q l T o.dst undef H
theorem KX_eq (l : List (Oper × Stp)) (T : Env) (d : Option Tmp) (v : Value) (H : Heap) : KX P n ops C Q l T d v H = VD P n ops C Q l (put T d v) H := rfl
theorem VX_nil (T : Env) (H : Heap) : VD P n ops C Q [] T H = Q T H := rfl
theorem VX_cons (o : Oper) (i m : Nat) (l : List (Oper × Stp)) (T : Env) (H : Heap) : VD P n ops C Q ((o, ⟨i, m⟩) :: l) T H = (dOk n o.dst ∧ GrdX P n ops C Q (gd ops o T) m o l T H) :=
  propext ⟨fun h => ⟨h.1, ⟨h.2⟩⟩, fun h => ⟨h.1, h.2.run⟩⟩
theorem GrdX_true (m : Nat) (o : Oper) (l : List (Oper × Stp)) (T : Env) (H : Heap) : GrdX P n ops C Q true m o l T H = vcm P C m o T H (KX P n ops C Q l T o.dst) := propext ⟨fun h => by simpa using h.run, fun h => ⟨by simpa using h⟩⟩
theorem GrdX_false (m : Nat) (o : Oper) (l : List (Oper × Stp)) (T : Env) (H : Heap) : GrdX P n ops C Q false m o l T H = KX P n ops C Q l T o.dst undef H := propext ⟨fun h => by simpa using h.run, fun h => ⟨by simpa using h⟩⟩
structure QX (C : Heap → Heap → Prop) (H : Heap) (p : Heap → Prop) : Prop where
  run : ∀ G, C H G → p G
def monoX (C : Heap → Heap → Prop) (H : Heap) (k : Value → Heap → Prop) : Value → Heap → Prop := fun v H' => C H H' ∧ k v H'
theorem monoX_eq (H H' : Heap) (k : Value → Heap → Prop) (v : Value) : monoX C H k v H' = (C H H' ∧ k v H') := rfl
theorem vcmX_zero (o : Oper) (T : Env) (H : Heap) (k : Value → Heap → Prop) : vcm P C 0 o T H k = Ex1 (fun v => QX C H (fun G => vc P o T G (isV v G))) k H :=
  propext ⟨fun ⟨v, h1, h2⟩ => ⟨v, ⟨h1⟩, h2⟩, fun ⟨v, h1, h2⟩ => ⟨v, h1.run, h2⟩⟩
theorem vcmX_one (o : Oper) (T : Env) (H : Heap) (k : Value → Heap → Prop) : vcm P C 1 o T H k = vc P o T H (monoX C H k) := rfl
theorem vcmX_two (o : Oper) (T : Env) (H : Heap) (k : Value → Heap → Prop) : vcm P C 2 o T H k = vc P o T H k := rfl
end
/-- two heaps that are the same, or in which block b holds X -/
def C6 (b : Nat) (X : Obj) (A B : Heap) : Prop := A = B ∨ (A b = some X ∧ B b = some X)
section
variable {b : Nat} {X : Obj}
theorem C6_refl (A : Heap) : C6 b X A A := .inl rfl
theorem C6_trans (A B D : Heap) (h1 : C6 b X A B) (h2 : C6 b X B D) : C6 b X A D := by
  rcases h1 with rfl | h1
  · exact h2
  · rcases h2 with rfl | h2
    · exact .inr h1
    · exact .inr ⟨h1.1, h2.2⟩
theorem QX_const (H : Heap) (p : Prop) : QX (C6 b X) H (fun _ => p) = p := propext ⟨fun h => h.run H (C6_refl H), fun h => ⟨fun _ _ => h⟩⟩
theorem QX_and (H : Heap) (A : Prop) (p : Heap → Prop) : QX (C6 b X) H (fun G => A ∧ p G) = (A ∧ QX (C6 b X) H p) :=
  propext ⟨fun h => ⟨(h.run H (C6_refl H)).1, ⟨fun G hG => (h.run G hG).2⟩⟩, fun h => ⟨fun G hG => ⟨h.1, h.2.run G hG⟩⟩⟩
/-- the block X itself -/
theorem QX_rd (H : Heap) (o : Nat) (p : Value → Heap → Prop) : QX (C6 b X) H (fun G => rdK (rd G b o) (fun v => p v G)) = rdK (rd H b o) (fun v => QX (C6 b X) H (fun G => p v G)) := by
  have e : ∀ G, C6 b X H G → rd G b o = rd H b o := by
    rintro G (rfl | h)
    · rfl
    · rw [rd_eq, rd_eq, h.1, h.2]
  cases hv : rd H b o with
  | none =>
    refine propext ⟨fun hq => ?_, fun h => h.elim⟩
    have := hq.run H (C6_refl H)
    rw [hv] at this
    exact this
  | some v =>
    refine propext ⟨fun hq => ⟨fun G hG => ?_⟩, fun hq => ⟨fun G hG => ?_⟩⟩
    · have := hq.run G hG
      rw [e G hG, hv] at this
      exact this
    · rw [e G hG, hv]
      exact hq.run G hG
/-- where the block is gone, the heaps are the same -/
theorem QX_none (H : Heap) (h : H b = none) (p : Heap → Prop) : QX (C6 b X) H p = p H := by
  refine propext ⟨fun hq => hq.run H (C6_refl H), fun hp => ⟨?_⟩⟩
  rintro G (rfl | hG)
  · exact hp
  · rw [h] at hG; cases hG.1
end
end Eng
end Go.Proofs.Ygcfab
