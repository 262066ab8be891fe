/-
  Structs compared: pointers taken apart, objects.
-/
import Derived.Test.YgcfabEd3
set_option linter.unusedSimpArgs false
set_option linter.unusedVariables false
set_option maxRecDepth 100000
namespace Go.Proofs.Ygcfab
namespace Eng
variable {H : Heap}
theorem eqi_u8 (d : Nat) (a b : UInt8) (k : Bool → Heap → Prop) : runH Fabg.prog (Op.equalIn (d + 1) 5 (u8 a) (u8 b)) H k = k (a == b) H := by
  have key : runH Fabg.prog (Op.equalIn (d + 1) 5 (u8 a) (u8 b)) H k = k ((a.toNat : Int) == (b.toNat : Int)) H := by kernel_rfl
  have e : ((a.toNat : Int) == (b.toNat : Int)) = (a == b) := by rw [Bool.eq_iff_iff]; simp only [beq_iff_eq, ← UInt8.toNat_inj]; omega
  rw [key, e]
theorem eqi_u16 (d : Nat) (a b : UInt16) (k : Bool → Heap → Prop) : runH Fabg.prog (Op.equalIn (d + 1) 50 (u16 a) (u16 b)) H k = k (a == b) H := by
  have key : runH Fabg.prog (Op.equalIn (d + 1) 50 (u16 a) (u16 b)) H k = k ((a.toNat : Int) == (b.toNat : Int)) H := by kernel_rfl
  have e : ((a.toNat : Int) == (b.toNat : Int)) = (a == b) := by rw [Bool.eq_iff_iff]; simp only [beq_iff_eq, ← UInt16.toNat_inj]; omega
  rw [key, e]
theorem eqi_i16 (d : Nat) (a b : Int16) (k : Bool → Heap → Prop) : runH Fabg.prog (Op.equalIn (d + 1) 23 (i16 a) (i16 b)) H k = k (a == b) H := by
  have key : runH Fabg.prog (Op.equalIn (d + 1) 23 (i16 a) (i16 b)) H k = k (a.toInt == b.toInt) H := by kernel_rfl
  have e : (a.toInt == b.toInt) = (a == b) := by rw [Bool.eq_iff_iff]; simp only [beq_iff_eq, Int16.toInt_inj]
  rw [key, e]
theorem eqi_bool (d : Nat) (a b : Bool) (k : Bool → Heap → Prop) : runH Fabg.prog (Op.equalIn (d + 1) 4 (.bool a) (.bool b)) H k = k (a == b) H := by kernel_rfl
theorem pt6_0 (a b c d e f : Value) (k : Value → Heap → Prop) : runH Fabg.prog (part 5 #[a, b, c, d, e, f] 0) H k = k a H := by kernel_rfl
theorem pt6_1 (a b c d e f : Value) (k : Value → Heap → Prop) : runH Fabg.prog (part 50 #[a, b, c, d, e, f] 1) H k = k b H := by kernel_rfl
theorem pt6_2 (a b c d e f : Value) (k : Value → Heap → Prop) : runH Fabg.prog (part 5 #[a, b, c, d, e, f] 2) H k = k c H := by kernel_rfl
theorem pt6_3 (a b c d e f : Value) (k : Value → Heap → Prop) : runH Fabg.prog (part 5 #[a, b, c, d, e, f] 3) H k = k d H := by kernel_rfl
theorem pt6_4 (a b c d e f : Value) (k : Value → Heap → Prop) : runH Fabg.prog (part 5 #[a, b, c, d, e, f] 4) H k = k e H := by kernel_rfl
theorem pt6_5 (a b c d e f : Value) (k : Value → Heap → Prop) : runH Fabg.prog (part 50 #[a, b, c, d, e, f] 5) H k = k f H := by kernel_rfl
theorem eqi_60 (d : Nat) (p q : Ptr) (k : Bool → Heap → Prop) : runH Fabg.prog (Op.equalIn (d + 2) 60 (pv p) (pv q)) H k = k (p.beq q) H := by
  have hst : Fabg.prog.stoodInHeld 60 = false := by kernel_rfl
  have n0 : ("Kind" ≠ "_") = True := eq_true (by decide)
  have n1 : ("At" ≠ "_") = True := eq_true (by decide)
  have n2 : ("Data" ≠ "_") = True := eq_true (by decide)
  have n3 : ("Ptrs" ≠ "_") = True := eq_true (by decide)
  have n4 : ("Code" ≠ "_") = True := eq_true (by decide)
  have n5 : ("Count" ≠ "_") = True := eq_true (by decide)
  rw [Op.equalIn]
  simp only [runH_bind, runH_und Fabg.underlying60, pv, pl, program, runH, hst, Bool.false_eq_true, if_false, if_true, runH_pure, List.forIn_toArray, List.forIn_cons, List.forIn_nil, n0, n1, n2, n3, n4, n5, pt6_0, pt6_1, pt6_2, pt6_3, pt6_4, pt6_5, eqi_u8, eqi_u16, Ptr.beq]
  cases p.kind == q.kind <;> simp only [Bool.not_false, Bool.not_true, if_true, if_false, Bool.false_eq_true, runH_pure, runH_bind, Bool.false_and, Bool.true_and, pt6_0, pt6_1, pt6_2, pt6_3, pt6_4, pt6_5, eqi_u8, eqi_u16]
  cases p.at_ == q.at_ <;> simp only [Bool.not_false, Bool.not_true, if_true, if_false, Bool.false_eq_true, runH_pure, runH_bind, Bool.false_and, Bool.true_and, pt6_0, pt6_1, pt6_2, pt6_3, pt6_4, pt6_5, eqi_u8, eqi_u16]
  cases p.data == q.data <;> simp only [Bool.not_false, Bool.not_true, if_true, if_false, Bool.false_eq_true, runH_pure, runH_bind, Bool.false_and, Bool.true_and, pt6_0, pt6_1, pt6_2, pt6_3, pt6_4, pt6_5, eqi_u8, eqi_u16]
  cases p.ptrs == q.ptrs <;> simp only [Bool.not_false, Bool.not_true, if_true, if_false, Bool.false_eq_true, runH_pure, runH_bind, Bool.false_and, Bool.true_and, pt6_0, pt6_1, pt6_2, pt6_3, pt6_4, pt6_5, eqi_u8, eqi_u16]
  cases p.code == q.code <;> simp only [Bool.not_false, Bool.not_true, if_true, if_false, Bool.false_eq_true, runH_pure, runH_bind, Bool.false_and, Bool.true_and, pt6_0, pt6_1, pt6_2, pt6_3, pt6_4, pt6_5, eqi_u8, eqi_u16]
  cases p.count == q.count <;> simp only [Bool.not_false, Bool.not_true, if_true, if_false, Bool.false_eq_true, runH_pure, runH_bind, Bool.false_and, Bool.true_and, pt6_0, pt6_1, pt6_2, pt6_3, pt6_4, pt6_5, eqi_u8, eqi_u16]
def Ob.beq (x y : Ob) : Bool := Ptr.beq x.p y.p && x.up == y.up && x.via == y.via && x.elem == y.elem && x.dead == y.dead
theorem Ob.beq_iff (x y : Ob) : x.beq y = true ↔ x = y := by
  cases x; cases y
  simp [Ob.beq, Ptr.beq_iff, and_assoc]
theorem pt10_0 (x : Ob) (k : Value → Heap → Prop) : runH Fabg.prog (part 60 (ol x).toArray 0) H k = k (pv x.p) H := by kernel_rfl
theorem pt10_1 (x : Ob) (k : Value → Heap → Prop) : runH Fabg.prog (part 23 (ol x).toArray 6) H k = k (i16 x.up) H := by kernel_rfl
theorem pt10_2 (x : Ob) (k : Value → Heap → Prop) : runH Fabg.prog (part 5 (ol x).toArray 7) H k = k (u8 x.via) H := by kernel_rfl
theorem pt10_3 (x : Ob) (k : Value → Heap → Prop) : runH Fabg.prog (part 4 (ol x).toArray 8) H k = k (.bool x.elem) H := by kernel_rfl
theorem pt10_4 (x : Ob) (k : Value → Heap → Prop) : runH Fabg.prog (part 4 (ol x).toArray 9) H k = k (.bool x.dead) H := by kernel_rfl
theorem eqi_62 (d : Nat) (x y : Ob) (k : Bool → Heap → Prop) : runH Fabg.prog (Op.equalIn (d + 3) 62 (ov x) (ov y)) H k = k (x.beq y) H := by
  have hst : Fabg.prog.stoodInHeld 62 = false := by kernel_rfl
  have n0 : ("P" ≠ "_") = True := eq_true (by decide)
  have n1 : ("Up" ≠ "_") = True := eq_true (by decide)
  have n2 : ("Via" ≠ "_") = True := eq_true (by decide)
  have n3 : ("Elem" ≠ "_") = True := eq_true (by decide)
  have n4 : ("Dead" ≠ "_") = True := eq_true (by decide)
  rw [Op.equalIn]
  simp only [runH_bind, runH_und Fabg.underlying62, ov, program, runH, hst, Bool.false_eq_true, if_false, if_true, runH_pure, List.forIn_toArray, List.forIn_cons, List.forIn_nil, n0, n1, n2, n3, n4, pt10_0, pt10_1, pt10_2, pt10_3, pt10_4, eqi_u8, eqi_i16, eqi_60, eqi_bool, Ob.beq]
  cases Ptr.beq x.p y.p <;> simp only [Bool.not_false, Bool.not_true, if_true, if_false, Bool.false_eq_true, runH_pure, runH_bind, Bool.false_and, Bool.true_and, pt10_0, pt10_1, pt10_2, pt10_3, pt10_4, eqi_u8, eqi_i16, eqi_bool]
  cases x.up == y.up <;> simp only [Bool.not_false, Bool.not_true, if_true, if_false, Bool.false_eq_true, runH_pure, runH_bind, Bool.false_and, Bool.true_and, pt10_0, pt10_1, pt10_2, pt10_3, pt10_4, eqi_u8, eqi_i16, eqi_bool]
  cases x.via == y.via <;> simp only [Bool.not_false, Bool.not_true, if_true, if_false, Bool.false_eq_true, runH_pure, runH_bind, Bool.false_and, Bool.true_and, pt10_0, pt10_1, pt10_2, pt10_3, pt10_4, eqi_u8, eqi_i16, eqi_bool]
  cases x.elem == y.elem <;> simp only [Bool.not_false, Bool.not_true, if_true, if_false, Bool.false_eq_true, runH_pure, runH_bind, Bool.false_and, Bool.true_and, pt10_0, pt10_1, pt10_2, pt10_3, pt10_4, eqi_u8, eqi_i16, eqi_bool]
  cases x.dead == y.dead <;> simp only [Bool.not_false, Bool.not_true, if_true, if_false, Bool.false_eq_true, runH_pure, runH_bind, Bool.false_and, Bool.true_and, pt10_0, pt10_1, pt10_2, pt10_3, pt10_4, eqi_u8, eqi_i16, eqi_bool]
theorem gd_60 (x y : Operand) (p q : Ptr) (k : Unit → Heap → Prop) : runH Fabg.prog (eqGuard .eql 60 x y (pv p) (pv q)) H k = k () H := by kernel_rfl
theorem gn_60 (x y : Operand) (p q : Ptr) (k : Unit → Heap → Prop) : runH Fabg.prog (eqGuard .neq 60 x y (pv p) (pv q)) H k = k () H := by kernel_rfl
theorem gn_62 (x y : Operand) (p q : Ob) (k : Unit → Heap → Prop) : runH Fabg.prog (eqGuard .neq 62 x y (ov p) (ov q)) H k = k () H := by kernel_rfl
theorem max_60 (p q : Ptr) : Op.equal 60 (pv p) (pv q) = Op.equalIn (9998 + 2) 60 (pv p) (pv q) := by kernel_rfl
theorem max_62 (p q : Ob) : Op.equal 62 (ov p) (ov q) = Op.equalIn (9997 + 3) 62 (ov p) (ov q) := by kernel_rfl
theorem bo_60 (p q : Ptr) : binOp .eql 60 (pv p) (pv q) = (do pure (.bool (← Op.equal 60 (pv p) (pv q)))) := by kernel_rfl
theorem bn_60 (p q : Ptr) : binOp .neq 60 (pv p) (pv q) = (do pure (.bool (!(← Op.equal 60 (pv p) (pv q))))) := by kernel_rfl
theorem bn_62 (p q : Ob) : binOp .neq 62 (ov p) (ov q) = (do pure (.bool (!(← Op.equal 62 (ov p) (ov q))))) := by kernel_rfl
theorem eql_60 (x y : Operand) (p q : Ptr) (k : Value → Heap → Prop) : runH Fabg.prog (binS .eql 60 x y (pv p) (pv q)) H k = k (.bool (p.beq q)) H := by
  unfold binS
  rw [runH_bind, gd_60, bo_60, runH_bind, max_60, eqi_60, runH_pure]
theorem neq_60 (x y : Operand) (p q : Ptr) (k : Value → Heap → Prop) : runH Fabg.prog (binS .neq 60 x y (pv p) (pv q)) H k = k (.bool (!p.beq q)) H := by
  unfold binS
  rw [runH_bind, gn_60, bn_60, runH_bind, max_60, eqi_60, runH_pure]
theorem neq_62 (x y : Operand) (p q : Ob) (k : Value → Heap → Prop) : runH Fabg.prog (binS .neq 62 x y (ov p) (ov q)) H k = k (.bool (!p.beq q)) H := by
  unfold binS
  rw [runH_bind, gn_62, bn_62, runH_bind, max_62, eqi_62, runH_pure]
end Eng
end Go.Proofs.Ygcfab
