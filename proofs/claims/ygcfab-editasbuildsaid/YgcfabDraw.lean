/-
  Regions that draw their order, where a store to a block stands beside loads from others.
-/
import Derived.Test.YgcfabNorm1
set_option linter.unusedSimpArgs false
set_option linter.unusedVariables false
namespace Go.Proofs.Ygcfab
namespace Eng
variable {P : Program} {n : Nat}
/-- two heaps that differ in one block at most -/
def CB (b : Nat) (A B : Heap) : Prop := ∀ c, c ≠ b → A c = B c
def VC (P : Program) (n : Nat) (ops : Array Oper) (b : Nat) (Q : Env → Heap → Prop) : List Oper → List Nat → Env → Heap → Prop
  | [], _, T, H => Q T H
  | o :: l, ms, T, H => dOk n o.dst ∧ if gd ops o T then vcm P (CB b) (ms.headD 0) o T H (fun v H' => VC P n ops b Q l ms.tail (put T o.dst v) H') else VC P n ops b Q l ms.tail (put T o.dst undef) H
theorem VC_VD {ops : Array Oper} {b : Nat} {Q : Env → Heap → Prop} : ∀ (l : List Oper) (ms : List Nat) (i : Nat) (T : Env) (H : Heap), (∀ j, l[j]? = ops[i + j]?) → VC P n ops b Q l ms T H → VD P n ops (CB b) Q (pick ops (mkStps l.length ms i)) T H
  | [], _, _, _, _, _, h => h
  | o :: l, ms, i, T, H, hl, h => by
    have h0 : ops[i]? = some o := by simpa using (hl 0).symm
    have hl' : ∀ j, l[j]? = ops[i + 1 + j]? := fun j => by
      have := hl (j + 1)
      rw [List.getElem?_cons_succ] at this
      rw [this]; congr 1; omega
    simp only [List.length_cons, mkStps, pick, h0]
    rw [VD_cons]
    refine ⟨h.1, ?_⟩
    have h2 := h.2
    simp only []
    split
    · rename_i hg
      rw [if_pos hg] at h2
      exact vcm_mono (fun v G b => VC_VD l ms.tail (i + 1) _ _ hl' b) h2
    · rename_i hg
      rw [if_neg hg] at h2
      exact VC_VD l ms.tail (i + 1) _ _ hl' h2
theorem W_drawC (b : Nat) {id : Nat} {l : List Oper} {Q : Exit → Env → Heap → Prop} {T : Env} {H : Heap} (hm : P.follows .mixedOrders = true)
    (ms : List Nat) (hok : drawOk l.toArray (mkStps l.length ms 0) = true) (h : VC P n l.toArray b (Q .normal) l ms T H) : W P n (.region id l.toArray true) Q T H :=
  W_draw (C := CB b) (fun _ _ _ => rfl) (fun A B D h1 h2 c hc => (h1 c hc).trans (h2 c hc)) hm _ hok (VC_VD l ms 0 T H (fun j => by simp) h)
def KC (P : Program) (n : Nat) (ops : Array Oper) (b : Nat) (Q : Env → Heap → Prop) (l : List Oper) (ms : List Nat) (T : Env) (d : Option Tmp) : Value → Heap → Prop := fun v H => VC P n ops b Q l ms (put T d v) H
structure GrdC (P : Program) (n : Nat) (ops : Array Oper) (b : Nat) (Q : Env → Heap → Prop) (g : Bool) (m : Nat) (o : Oper) (l : List Oper) (ms : List Nat) (T : Env) (H : Heap) : Prop where
  run : if g = true then vcm P (CB b) m o T H (KC P n ops b Q l ms T o.dst) else KC P n ops b Q l ms T o.dst undef H
theorem KC_eq (P : Program) (n : Nat) (ops : Array Oper) (b : Nat) (Q : Env → Heap → Prop) (l : List Oper) (ms : List Nat) (T : Env) (d : Option Tmp) (v : Value) (H : Heap) : KC P n ops b Q l ms T d v H = VC P n ops b Q l ms (put T d v) H := rfl
theorem VC_nil (ops : Array Oper) (b : Nat) (Q : Env → Heap → Prop) (ms : List Nat) (T : Env) (H : Heap) : VC P n ops b Q [] ms T H = Q T H := rfl
theorem VC_cons (ops : Array Oper) (b : Nat) (Q : Env → Heap → Prop) (o : Oper) (l : List Oper) (m : Nat) (ms : List Nat) (T : Env) (H : Heap) : VC P n ops b Q (o :: l) (m :: ms) T H =
    (dOk n o.dst ∧ GrdC P n ops b Q (gd ops o T) m o l ms T H) := propext ⟨fun h => ⟨h.1, ⟨h.2⟩⟩, fun h => ⟨h.1, h.2.run⟩⟩
theorem GrdC_true (ops : Array Oper) (b : Nat) (Q : Env → Heap → Prop) (m : Nat) (o : Oper) (l : List Oper) (ms : List Nat) (T : Env) (H : Heap) : GrdC P n ops b Q true m o l ms T H = vcm P (CB b) m o T H (KC P n ops b Q l ms T o.dst) := propext ⟨fun h => by simpa using h.run, fun h => ⟨by simpa using h⟩⟩
structure QC (b : Nat) (H : Heap) (p : Heap → Prop) : Prop where
  run : ∀ G, CB b H G → p G
theorem vcmC_zero (b : Nat) (o : Oper) (T : Env) (H : Heap) (k : Value → Heap → Prop) : vcm P (CB b) 0 o T H k = Ex1 (fun v => QC b H (fun G => vc P o T G (isV v G))) k H :=
  propext ⟨fun ⟨v, h1, h2⟩ => ⟨v, ⟨h1⟩, h2⟩, fun ⟨v, h1, h2⟩ => ⟨v, h1.run, h2⟩⟩
def monoC (b : Nat) (H : Heap) (k : Value → Heap → Prop) : Value → Heap → Prop := fun v H' => CB b H H' ∧ k v H'
theorem monoC_eq (b : Nat) (H H' : Heap) (k : Value → Heap → Prop) (v : Value) : monoC b H k v H' = (CB b H H' ∧ k v H') := rfl
theorem vcmC_one (b : Nat) (o : Oper) (T : Env) (H : Heap) (k : Value → Heap → Prop) : vcm P (CB b) 1 o T H k = vc P o T H (monoC b H k) := rfl
theorem vcmC_two (b : Nat) (o : Oper) (T : Env) (H : Heap) (k : Value → Heap → Prop) : vcm P (CB b) 2 o T H k = vc P o T H k := rfl
theorem QC_const (b : Nat) (H : Heap) (p : Prop) : QC b H (fun _ => p) = p := propext ⟨fun h => h.run H (fun _ _ => rfl), fun h => ⟨fun _ _ => h⟩⟩
theorem QC_and (b : Nat) (H : Heap) (A : Prop) (p : Heap → Prop) : QC b H (fun G => A ∧ p G) = (A ∧ QC b H p) :=
  propext ⟨fun h => ⟨(h.run H (fun _ _ => rfl)).1, ⟨fun G hG => (h.run G hG).2⟩⟩, fun h => ⟨fun G hG => ⟨h.1, h.2.run G hG⟩⟩⟩
theorem QC_rd (b b' o : Nat) (H : Heap) (k : Value → Prop) (h : b' ≠ b) : QC b H (fun G => rdK (rd G b' o) k) = rdK (rd H b' o) k := by
  have e : ∀ G, CB b H G → rd G b' o = rd H b' o := fun G hG => by rw [rd_eq, rd_eq, hG b' h]
  exact propext ⟨fun hq => hq.run H (fun _ _ => rfl), fun hr => ⟨fun G hG => by rw [e G hG]; exact hr⟩⟩
theorem CB_upd (b : Nat) (H : Heap) (x : Option Obj) : CB b H (upd H b x) = True := eq_true fun c hc => (upd_ne _ _ _ _ hc).symm
end Eng
end Go.Proofs.Ygcfab
