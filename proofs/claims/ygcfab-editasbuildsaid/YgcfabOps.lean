/-
  The engine of this seat's walks, part three: what each kind of operation asks, at typed values.
-/
import Derived.Test.YgcfabMem
import Derived.KernelRfl
set_option linter.unusedSimpArgs false
set_option linter.unusedVariables false
namespace Go.Proofs.Ygcfab
namespace Eng

/-! ### Code as one condition -/
def condP (v : Value) (X Y : Prop) : Prop :=
  match v with
  | .bool b => (b = true → X) ∧ (b = false → Y)
  | _ => False

def WV (P : Program) (n : Nat) : Code → (Exit → Env → Heap → Prop) → Env → Heap → Prop
  | .seq a b, Q, T, H => WV P n a (thenQ (WV P n b Q) Q) T H
  | .cond c a b, Q, T, H => condP (ev T c) (WV P n a Q T H) (WV P n b Q T H)
  | .block id c, Q, T, H => WV P n c (blockQ id Q) T H
  | .skip, Q, T, H => Q .normal T H
  | .ret, Q, T, H => Q .ret T H
  | .exit id, Q, T, H => Q (.exit id) T H
  | .region id ops false, Q, T, H => V P n ops (Q .normal) ops.toList T H
  | .region id ops true, Q, T, H => W P n (.region id ops true) Q T H
  | .loop c, Q, T, H => W P n (.loop c) Q T H
  | _, _, _, _ => False


/-- what stands behind an operation of a list -/
def KV (P : Program) (n : Nat) (ops : Array Oper) (Q : Env → Heap → Prop) (l : List Oper) (T : Env) (d : Option Tmp) : Value → Heap → Prop := fun v H => V P n ops Q l (put T d v) H
def KL (P : Program) (n : Nat) (ops : Array Oper) (Q : Env → Heap → Prop) (l : List Oper) (ms : List Nat) (T : Env) (d : Option Tmp) : Value → Heap → Prop := fun v H => VL P n ops Q l ms (put T d v) H
structure CondW (P : Program) (n : Nat) (v : Value) (a b : Code) (Q : Exit → Env → Heap → Prop) (T : Env) (H : Heap) : Prop where
  run : condP v (WV P n a Q T H) (WV P n b Q T H)
/-- an operation under a guard -/
structure GrdV (P : Program) (n : Nat) (ops : Array Oper) (Q : Env → Heap → Prop) (g : Bool) (o : Oper) (l : List Oper) (T : Env) (H : Heap) : Prop where
  run : if g = true then vc P o T H (KV P n ops Q l T o.dst) else KV P n ops Q l T o.dst undef H
structure GrdL (P : Program) (n : Nat) (ops : Array Oper) (Q : Env → Heap → Prop) (g : Bool) (m : Nat) (o : Oper) (l : List Oper) (ms : List Nat) (T : Env) (H : Heap) : Prop where
  run : if g = true then vcl P m o T H (KL P n ops Q l ms T o.dst) else KL P n ops Q l ms T o.dst undef H
structure Ex1 (p : Value → Prop) (k : Value → Heap → Prop) (H : Heap) : Prop where
  run : ∃ v, p v ∧ k v H
theorem Ex1_eq (x : Value) (k : Value → Heap → Prop) (H : Heap) : Ex1 (fun v => x = v) k H = k x H := propext ⟨fun ⟨v, e, h⟩ => by rw [e]; exact h, fun h => ⟨x, rfl, h⟩⟩
theorem Ex1_and (A : Prop) (p : Value → Prop) (k : Value → Heap → Prop) (H : Heap) : Ex1 (fun v => A ∧ p v) k H = (A ∧ Ex1 p k H) := propext ⟨fun ⟨v, ⟨a, e⟩, h⟩ => ⟨a, v, e, h⟩, fun ⟨a, v, e, h⟩ => ⟨v, ⟨a, e⟩, h⟩⟩
def isV (v : Value) (H : Heap) : Value → Heap → Prop := fun v' H' => v' = v ∧ Le H H'
def monoK (H : Heap) (k : Value → Heap → Prop) : Value → Heap → Prop := fun v H' => Le H H' ∧ k v H'
theorem KV_eq (P : Program) (n : Nat) (ops : Array Oper) (Q : Env → Heap → Prop) (l : List Oper) (T : Env) (d : Option Tmp) (v : Value) (H : Heap) : KV P n ops Q l T d v H = V P n ops Q l (put T d v) H := rfl
theorem KL_eq (P : Program) (n : Nat) (ops : Array Oper) (Q : Env → Heap → Prop) (l : List Oper) (ms : List Nat) (T : Env) (d : Option Tmp) (v : Value) (H : Heap) : KL P n ops Q l ms T d v H = VL P n ops Q l ms (put T d v) H := rfl
theorem isV_eq (v v' : Value) (H H' : Heap) : isV v H v' H' = (v' = v ∧ Le H H') := rfl
theorem isV_same (v v' : Value) (H : Heap) : isV v H v' H = (v' = v) := by simp [isV, Le.refl]
theorem monoK_eq (H H' : Heap) (k : Value → Heap → Prop) (v : Value) : monoK H k v H' = (Le H H' ∧ k v H') := rfl

section
variable {P : Program} {n : Nat}
theorem WV_seq (a b : Code) (Q : Exit → Env → Heap → Prop) (T : Env) (H : Heap) : WV P n (.seq a b) Q T H = WV P n a (thenQ (WV P n b Q) Q) T H := rfl
theorem WV_cond (c : Operand) (a b : Code) (Q : Exit → Env → Heap → Prop) (T : Env) (H : Heap) : WV P n (.cond c a b) Q T H = CondW P n (ev T c) a b Q T H := propext ⟨fun h => ⟨h⟩, fun h => h.run⟩
theorem CondW_true (a b : Code) (Q : Exit → Env → Heap → Prop) (T : Env) (H : Heap) : CondW P n (.bool true) a b Q T H = WV P n a Q T H := propext ⟨fun h => h.run.1 rfl, fun h => ⟨fun _ => h, fun e => by cases e⟩⟩
theorem CondW_false (a b : Code) (Q : Exit → Env → Heap → Prop) (T : Env) (H : Heap) : CondW P n (.bool false) a b Q T H = WV P n b Q T H := propext ⟨fun h => h.run.2 rfl, fun h => ⟨fun e => (by cases e), fun _ => h⟩⟩
theorem CondW_intro {c : Bool} {a b : Code} {Q : Exit → Env → Heap → Prop} {T : Env} {H : Heap} (h1 : c = true → WV P n a Q T H) (h2 : c = false → WV P n b Q T H) : CondW P n (.bool c) a b Q T H := ⟨h1, h2⟩
theorem WV_block (id : Nat) (c : Code) (Q : Exit → Env → Heap → Prop) (T : Env) (H : Heap) : WV P n (.block id c) Q T H = WV P n c (blockQ id Q) T H := rfl
theorem WV_skip (Q : Exit → Env → Heap → Prop) (T : Env) (H : Heap) : WV P n .skip Q T H = Q .normal T H := rfl
theorem WV_ret (Q : Exit → Env → Heap → Prop) (T : Env) (H : Heap) : WV P n .ret Q T H = Q .ret T H := rfl
theorem WV_exit (id : Nat) (Q : Exit → Env → Heap → Prop) (T : Env) (H : Heap) : WV P n (.exit id) Q T H = Q (.exit id) T H := rfl
theorem WV_region (id : Nat) (l : List Oper) (Q : Exit → Env → Heap → Prop) (T : Env) (H : Heap) : WV P n (.region id l.toArray false) Q T H = V P n l.toArray (Q .normal) l T H := rfl
theorem WV_draw (id : Nat) (ops : Array Oper) (Q : Exit → Env → Heap → Prop) (T : Env) (H : Heap) : WV P n (.region id ops true) Q T H = W P n (.region id ops true) Q T H := rfl
theorem WV_loop (c : Code) (Q : Exit → Env → Heap → Prop) (T : Env) (H : Heap) : WV P n (.loop c) Q T H = W P n (.loop c) Q T H := rfl
theorem thenQ_normal (k : Env → Heap → Prop) (Q : Exit → Env → Heap → Prop) (T : Env) (H : Heap) : thenQ k Q .normal T H = k T H := rfl
theorem thenQ_ret (k : Env → Heap → Prop) (Q : Exit → Env → Heap → Prop) (T : Env) (H : Heap) : thenQ k Q .ret T H = Q .ret T H := rfl
theorem thenQ_exit (k : Env → Heap → Prop) (Q : Exit → Env → Heap → Prop) (id : Nat) (T : Env) (H : Heap) : thenQ k Q (.exit id) T H = Q (.exit id) T H := rfl
theorem blockQ_normal (id : Nat) (Q : Exit → Env → Heap → Prop) (T : Env) (H : Heap) : blockQ id Q .normal T H = Q .normal T H := rfl
theorem blockQ_ret (id : Nat) (Q : Exit → Env → Heap → Prop) (T : Env) (H : Heap) : blockQ id Q .ret T H = Q .ret T H := rfl
theorem blockQ_exit (id id' : Nat) (Q : Exit → Env → Heap → Prop) (T : Env) (H : Heap) : blockQ id Q (.exit id') T H = if id' = id then Q .normal T H else Q (.exit id') T H := rfl
theorem V_nil (ops : Array Oper) (Q : Env → Heap → Prop) (T : Env) (H : Heap) : V P n ops Q [] T H = Q T H := rfl
theorem V_cons (ops : Array Oper) (Q : Env → Heap → Prop) (o : Oper) (l : List Oper) (T : Env) (H : Heap) : V P n ops Q (o :: l) T H =
    (dOk n o.dst ∧ GrdV P n ops Q (gd ops o T) o l T H) := propext ⟨fun h => ⟨h.1, ⟨h.2⟩⟩, fun h => ⟨h.1, h.2.run⟩⟩
theorem GrdV_true (ops : Array Oper) (Q : Env → Heap → Prop) (o : Oper) (l : List Oper) (T : Env) (H : Heap) : GrdV P n ops Q true o l T H = vc P o T H (KV P n ops Q l T o.dst) := propext ⟨fun h => by simpa using h.run, fun h => ⟨by simpa using h⟩⟩
theorem GrdV_false (ops : Array Oper) (Q : Env → Heap → Prop) (o : Oper) (l : List Oper) (T : Env) (H : Heap) : GrdV P n ops Q false o l T H = KV P n ops Q l T o.dst undef H := propext ⟨fun h => by simpa using h.run, fun h => ⟨by simpa using h⟩⟩
theorem GrdV_intro {ops : Array Oper} {Q : Env → Heap → Prop} {g : Bool} {o : Oper} {l : List Oper} {T : Env} {H : Heap} (h1 : g = true → vc P o T H (KV P n ops Q l T o.dst)) (h2 : g = false → KV P n ops Q l T o.dst undef H) : GrdV P n ops Q g o l T H := by
  cases g
  · rw [GrdV_false]; exact h2 rfl
  · rw [GrdV_true]; exact h1 rfl
theorem VL_nil (ops : Array Oper) (Q : Env → Heap → Prop) (ms : List Nat) (T : Env) (H : Heap) : VL P n ops Q [] ms T H = Q T H := rfl
theorem VL_cons (ops : Array Oper) (Q : Env → Heap → Prop) (o : Oper) (l : List Oper) (m : Nat) (ms : List Nat) (T : Env) (H : Heap) : VL P n ops Q (o :: l) (m :: ms) T H =
    (dOk n o.dst ∧ GrdL P n ops Q (gd ops o T) m o l ms T H) := propext ⟨fun h => ⟨h.1, ⟨h.2⟩⟩, fun h => ⟨h.1, h.2.run⟩⟩
theorem GrdL_true (ops : Array Oper) (Q : Env → Heap → Prop) (m : Nat) (o : Oper) (l : List Oper) (ms : List Nat) (T : Env) (H : Heap) : GrdL P n ops Q true m o l ms T H = vcl P m o T H (KL P n ops Q l ms T o.dst) := propext ⟨fun h => by simpa using h.run, fun h => ⟨by simpa using h⟩⟩
theorem GrdL_false (ops : Array Oper) (Q : Env → Heap → Prop) (m : Nat) (o : Oper) (l : List Oper) (ms : List Nat) (T : Env) (H : Heap) : GrdL P n ops Q false m o l ms T H = KL P n ops Q l ms T o.dst undef H := propext ⟨fun h => by simpa using h.run, fun h => ⟨by simpa using h⟩⟩
theorem GrdL_intro {ops : Array Oper} {Q : Env → Heap → Prop} {g : Bool} {m : Nat} {o : Oper} {l : List Oper} {ms : List Nat} {T : Env} {H : Heap} (h1 : g = true → vcl P m o T H (KL P n ops Q l ms T o.dst)) (h2 : g = false → KL P n ops Q l ms T o.dst undef H) : GrdL P n ops Q g m o l ms T H := by
  cases g
  · rw [GrdL_false]; exact h2 rfl
  · rw [GrdL_true]; exact h1 rfl
theorem vcl_zero (o : Oper) (T : Env) (H : Heap) (k : Value → Heap → Prop) : vcl P 0 o T H k = Ex1 (fun v => vc P o T H (isV v H)) k H := propext ⟨fun h => ⟨h⟩, fun h => h.run⟩
theorem vcl_one (o : Oper) (T : Env) (H : Heap) (k : Value → Heap → Prop) : vcl P 1 o T H k = vc P o T H (monoK H k) := rfl
theorem vcl_two (o : Oper) (T : Env) (H : Heap) (k : Value → Heap → Prop) : vcl P 2 o T H k = vc P o T H k := rfl
end

theorem WV_sound {P : Program} {n : Nat} : ∀ (c : Code) (Q : Exit → Env → Heap → Prop) (T : Env) (H : Heap), WV P n c Q T H → W P n c Q T H := by
  intro c
  induction c with
  | seq a b iha ihb =>
    intro Q T H h
    refine W_seq (W_mono ?_ (iha _ T H h))
    intro e T' H' hq
    cases e with
    | normal => exact ihb Q T' H' hq
    | _ => exact hq
  | cond c a b iha ihb =>
    intro Q T H h
    simp only [WV] at h
    unfold condP at h
    split at h
    · rename_i b hb; exact W_cond hb (fun hb => iha Q T H (h.1 hb)) (fun hb => ihb Q T H (h.2 hb))
    · exact h.elim
  | block id c ih => intro Q T H h; exact W_block (ih _ T H h)
  | skip => intro Q T H h; exact W_skip h
  | ret => intro Q T H h; exact W_ret h
  | exit id => intro Q T H h; exact W_exit h
  | region id ops draw =>
    intro Q T H h
    cases draw with
    | true => exact h
    | false =>
      have : ops = ops.toList.toArray := by simp
      rw [this]
      refine W_region ?_
      simp only [WV] at h
      simpa using h
  | loop c ih => intro Q T H h; exact h
  | _ => intro Q T H h; exact h.elim

/-! ### Typed values -/
def u8 (x : UInt8) : Value := .int .u8 (x.toNat : Int)
def u16 (x : UInt16) : Value := .int .u16 (x.toNat : Int)
def u32 (x : UInt32) : Value := .int .u32 (x.toNat : Int)
def u64 (x : UInt64) : Value := .int .u64 (x.toNat : Int)
def ptr (b o : Nat) : Value := .pointer (some ⟨b, o, none⟩)
def sl (b o len cap : Nat) : Value := .slice (some ⟨b, o, none⟩) len cap
def w64 (x : Int) : Int := IntKind.i64.wrap x
def w32 (x : Int) : Int := IntKind.i32.wrap x
def w16 (x : Int) : Int := IntKind.i16.wrap x
def toU8 (x : Int) : UInt8 := UInt8.ofNat (x % 256).toNat
def toU16 (x : Int) : UInt16 := UInt16.ofNat (x % 65536).toNat
def toU32 (x : Int) : UInt32 := UInt32.ofNat (x % 4294967296).toNat
def toU64 (x : Int) : UInt64 := UInt64.ofNat (x % 18446744073709551616).toNat
def shl8 (x : UInt8) (n : Nat) : UInt8 := UInt8.ofNat (x.toNat * 2 ^ n)
def shl32 (x : UInt32) (n : Nat) : UInt32 := UInt32.ofNat (x.toNat * 2 ^ n)
def shl64 (x : UInt64) (n : Nat) : UInt64 := UInt64.ofNat (x.toNat * 2 ^ n)
def shr8 (x : UInt8) (n : Nat) : UInt8 := UInt8.ofNat (x.toNat / 2 ^ n)
def shr64 (x : UInt64) (n : Nat) : UInt64 := UInt64.ofNat (x.toNat / 2 ^ n)

/-! wraps -/
theorem wrap_u8 (x : Int) : IntKind.u8.wrap x = x % 256 := by
  simp [IntKind.wrap, IntKind.bits, IntKind.signed]
theorem u8_of (x : Int) : Value.int .u8 (IntKind.u8.wrap x) = u8 (toU8 x) := by
  unfold u8 toU8
  rw [wrap_u8]
  congr 1
  have h0 : 0 ≤ x % 256 := Int.emod_nonneg _ (by decide)
  have h1 : x % 256 < 256 := Int.emod_lt_of_pos _ (by decide)
  have h2 : (x % 256).toNat < 256 := by omega
  rw [UInt8.toNat_ofNat', Nat.mod_eq_of_lt h2]
  omega
theorem toU8_nat (n : Nat) : toU8 (n : Int) = UInt8.ofNat n := by
  unfold toU8
  apply UInt8.toNat_inj.1
  rw [UInt8.toNat_ofNat', UInt8.toNat_ofNat']
  omega
theorem toNat_toU8 (x : Int) : ((toU8 x).toNat : Int) = x % 256 := by
  unfold toU8
  have h0 : 0 ≤ x % 256 := Int.emod_nonneg _ (by decide)
  have h1 : x % 256 < 256 := Int.emod_lt_of_pos _ (by decide)
  rw [UInt8.toNat_ofNat']
  omega
theorem wrap_u16 (x : Int) : IntKind.u16.wrap x = x % 65536 := by
  simp [IntKind.wrap, IntKind.bits, IntKind.signed]
theorem u16_of (x : Int) : Value.int .u16 (IntKind.u16.wrap x) = u16 (toU16 x) := by
  unfold u16 toU16
  rw [wrap_u16]
  congr 1
  have h0 : 0 ≤ x % 65536 := Int.emod_nonneg _ (by decide)
  have h1 : x % 65536 < 65536 := Int.emod_lt_of_pos _ (by decide)
  have h2 : (x % 65536).toNat < 65536 := by omega
  rw [UInt16.toNat_ofNat', Nat.mod_eq_of_lt h2]
  omega
theorem toU16_nat (n : Nat) : toU16 (n : Int) = UInt16.ofNat n := by
  unfold toU16
  apply UInt16.toNat_inj.1
  rw [UInt16.toNat_ofNat', UInt16.toNat_ofNat']
  omega
theorem toNat_toU16 (x : Int) : ((toU16 x).toNat : Int) = x % 65536 := by
  unfold toU16
  have h0 : 0 ≤ x % 65536 := Int.emod_nonneg _ (by decide)
  have h1 : x % 65536 < 65536 := Int.emod_lt_of_pos _ (by decide)
  rw [UInt16.toNat_ofNat']
  omega
theorem wrap_u32 (x : Int) : IntKind.u32.wrap x = x % 4294967296 := by
  simp [IntKind.wrap, IntKind.bits, IntKind.signed]
theorem u32_of (x : Int) : Value.int .u32 (IntKind.u32.wrap x) = u32 (toU32 x) := by
  unfold u32 toU32
  rw [wrap_u32]
  congr 1
  have h0 : 0 ≤ x % 4294967296 := Int.emod_nonneg _ (by decide)
  have h1 : x % 4294967296 < 4294967296 := Int.emod_lt_of_pos _ (by decide)
  have h2 : (x % 4294967296).toNat < 4294967296 := by omega
  rw [UInt32.toNat_ofNat', Nat.mod_eq_of_lt h2]
  omega
theorem toU32_nat (n : Nat) : toU32 (n : Int) = UInt32.ofNat n := by
  unfold toU32
  apply UInt32.toNat_inj.1
  rw [UInt32.toNat_ofNat', UInt32.toNat_ofNat']
  omega
theorem toNat_toU32 (x : Int) : ((toU32 x).toNat : Int) = x % 4294967296 := by
  unfold toU32
  have h0 : 0 ≤ x % 4294967296 := Int.emod_nonneg _ (by decide)
  have h1 : x % 4294967296 < 4294967296 := Int.emod_lt_of_pos _ (by decide)
  rw [UInt32.toNat_ofNat']
  omega
theorem wrap_u64 (x : Int) : IntKind.u64.wrap x = x % 18446744073709551616 := by
  simp [IntKind.wrap, IntKind.bits, IntKind.signed]
theorem u64_of (x : Int) : Value.int .u64 (IntKind.u64.wrap x) = u64 (toU64 x) := by
  unfold u64 toU64
  rw [wrap_u64]
  congr 1
  have h0 : 0 ≤ x % 18446744073709551616 := Int.emod_nonneg _ (by decide)
  have h1 : x % 18446744073709551616 < 18446744073709551616 := Int.emod_lt_of_pos _ (by decide)
  have h2 : (x % 18446744073709551616).toNat < 18446744073709551616 := by omega
  rw [UInt64.toNat_ofNat', Nat.mod_eq_of_lt h2]
  omega
theorem toU64_nat (n : Nat) : toU64 (n : Int) = UInt64.ofNat n := by
  unfold toU64
  apply UInt64.toNat_inj.1
  rw [UInt64.toNat_ofNat', UInt64.toNat_ofNat']
  omega
theorem toNat_toU64 (x : Int) : ((toU64 x).toNat : Int) = x % 18446744073709551616 := by
  unfold toU64
  have h0 : 0 ≤ x % 18446744073709551616 := Int.emod_nonneg _ (by decide)
  have h1 : x % 18446744073709551616 < 18446744073709551616 := Int.emod_lt_of_pos _ (by decide)
  rw [UInt64.toNat_ofNat']
  omega
theorem w16_eq (x : Int) : w16 x = if 32768 ≤ x % 65536 then x % 65536 - 65536 else x % 65536 := by
  simp [w16, IntKind.wrap, IntKind.bits, IntKind.signed]
theorem w16_id {x : Int} (h0 : -32768 ≤ x) (h1 : x < 32768) : w16 x = x := by
  rw [w16_eq]
  split <;> omega
theorem w16_range (x : Int) : -32768 ≤ w16 x ∧ w16 x < 32768 := by
  rw [w16_eq]
  split <;> omega
theorem w32_eq (x : Int) : w32 x = if 2147483648 ≤ x % 4294967296 then x % 4294967296 - 4294967296 else x % 4294967296 := by
  simp [w32, IntKind.wrap, IntKind.bits, IntKind.signed]
theorem w32_id {x : Int} (h0 : -2147483648 ≤ x) (h1 : x < 2147483648) : w32 x = x := by
  rw [w32_eq]
  split <;> omega
theorem w32_range (x : Int) : -2147483648 ≤ w32 x ∧ w32 x < 2147483648 := by
  rw [w32_eq]
  split <;> omega
theorem w64_eq (x : Int) : w64 x = if 9223372036854775808 ≤ x % 18446744073709551616 then x % 18446744073709551616 - 18446744073709551616 else x % 18446744073709551616 := by
  simp [w64, IntKind.wrap, IntKind.bits, IntKind.signed]
theorem w64_id {x : Int} (h0 : -9223372036854775808 ≤ x) (h1 : x < 9223372036854775808) : w64 x = x := by
  rw [w64_eq]
  split <;> omega
theorem w64_range (x : Int) : -9223372036854775808 ≤ w64 x ∧ w64 x < 9223372036854775808 := by
  rw [w64_eq]
  split <;> omega

/-! ### What each kind of operation asks -/
section
variable {P : Program} {d : Option Tmp} {ty : TypeId} {pos : String} {af : Array Edge} {g : Option (Nat × Bool)} {T : Env} {H : Heap} {k : Value → Heap → Prop}

def stK (k : Value → Heap → Prop) : Unit → Heap → Prop := fun _ H => k undef H
theorem stK_eq (u : Unit) : stK k u H = k undef H := rfl

theorem vc_move (x : Operand) : vc P ⟨d, .move x, ty, pos, af, g⟩ T H k = k (ev T x) H := rfl
theorem vc_assign (x : Operand) : vc P ⟨d, .assign x, ty, pos, af, g⟩ T H k = k (ev T x) H := rfl
theorem vc_val (s : Sem Value) : runH P (do pure (Next.value (← s))) H (nextK P k) = runH P s H k := by
  rw [runH_bind]; rfl
theorem vc_unit (s : Sem Unit) : runH P (do s; pure Next.skip) H (nextK P k) = runH P s H (stK k) := by
  rw [runH_bind]; rfl
theorem vc_load (t : TypeId) (a : Operand) : vc P ⟨d, .load t a, ty, pos, af, g⟩ T H k = runH P (Instr.loadAt t (ev T a)) H k := vc_val _
theorem vc_store (t : TypeId) (a x : Operand) : vc P ⟨d, .store t a x, ty, pos, af, g⟩ T H k = runH P (Instr.storeAt t (ev T a) (ev T x)) H (stK k) := vc_unit _
theorem vc_field (t : TypeId) (x : Operand) (f : Nat) : vc P ⟨d, .fieldAddr t x f, ty, pos, af, g⟩ T H k = runH P (Instr.fieldAt t (ev T x) f) H k := vc_val _
theorem vc_indexAddr (t : TypeId) (x i : Operand) : vc P ⟨d, .indexAddr t x i, ty, pos, af, g⟩ T H k = runH P (Instr.indexAt t (ev T x) (ev T i)) H k := vc_val _
theorem vc_index (t : TypeId) (x i : Operand) : vc P ⟨d, .index t x i, ty, pos, af, g⟩ T H k = runH P (Instr.index t (ev T x) (ev T i)) H k := vc_val _
theorem vc_box (t : TypeId) (x : Operand) : vc P ⟨d, .box t x, ty, pos, af, g⟩ T H k = runH P (Instr.box t (ev T x)) H k := vc_val _
theorem vc_alloc (t : TypeId) : vc P ⟨d, .alloc t, ty, pos, af, g⟩ T H k = runH P (Instr.alloc t true (.tuple #[])) H k := vc_val _
theorem vc_build (t : TypeId) (ps : Array (Nat × Operand)) : vc P ⟨d, .build t ps, ty, pos, af, g⟩ T H k = runH P (Instr.build t (ps.map fun (i, x) => (i, ev T x))) H k := vc_val _
theorem vc_buildSlice (t : TypeId) (n : Nat) (ps : Array (Nat × Operand)) : vc P ⟨d, .buildSlice t n ps, ty, pos, af, g⟩ T H k = runH P (Instr.buildSlice t n (ps.map fun (i, x) => (i, ev T x))) H k := vc_val _
theorem vc_makeSlice (t : TypeId) (l c : Operand) : vc P ⟨d, .makeSlice t l c, ty, pos, af, g⟩ T H k = runH P (Instr.makeSlice t (ev T l) (ev T c)) H k := vc_val _
theorem vc_slice (t : TypeId) (x : Operand) (lo hi mx : Option Operand) : vc P ⟨d, .slice t x lo hi mx, ty, pos, af, g⟩ T H k = runH P (Instr.sliceAt t (ev T x) (lo.map (ev T)) (hi.map (ev T)) (mx.map (ev T))) H k := vc_val _
theorem vc_extract (x : Operand) (i : Nat) : vc P ⟨d, .extract x i, ty, pos, af, g⟩ T H k = runH P (Instr.extract (ev T x) i) H k := vc_val _
theorem vc_unOp (op : UnOp) (t : TypeId) (x : Operand) : vc P ⟨d, .unOp op t x, ty, pos, af, g⟩ T H k = runH P (Op.unary op (ev T x)) H k := vc_val _
theorem vc_convert (s t : TypeId) (x : Operand) : vc P ⟨d, .convert s t x, ty, pos, af, g⟩ T H k = runH P (convert s t (ev T x)) H k := vc_val _
def binS (op : BinOp) (t : TypeId) (x y : Operand) (a b : Value) : Sem Value := do eqGuard op t x y a b; binOp op t a b
theorem vc_bin (op : BinOp) (t t' : TypeId) (x y : Operand) : vc P ⟨d, .binOp op t x y t', ty, pos, af, g⟩ T H k = runH P (binS op t x y (ev T x) (ev T y)) H k := vc_val _
def nilK (P : Program) (v : Value) (H : Heap) (k : Value → Heap → Prop) : Prop := vc P ⟨none, .nilCheck (.const v), 0, "", #[], none⟩ (fun _ => undef) H k
theorem vc_nil (x : Operand) : vc P ⟨d, .nilCheck x, ty, pos, af, g⟩ T H k = nilK P (ev T x) H k := rfl
theorem nilK_ptr (b o : Nat) : nilK P (ptr b o) H k = k (ptr b o) H := rfl
theorem vc_nilCheck (x : Operand) (b o : Nat) (hx : ev T x = ptr b o) : vc P ⟨d, .nilCheck x, ty, pos, af, g⟩ T H k = k (ptr b o) H := by
  unfold vc execOp
  simp only [hx, ptr]
  rfl
def pickK (c a b : Value) (H : Heap) (k : Value → Heap → Prop) : Prop :=
  match c with
  | .bool c => k (if c then a else b) H
  | _ => False
theorem vc_pick (c a b : Operand) : vc P ⟨d, .pick c a b, ty, pos, af, g⟩ T H k = pickK (ev T c) (ev T a) (ev T b) H k := by
  unfold vc execOp pickK
  simp only [runH_bind]
  cases ev T c <;> rfl
theorem pickK_true (a b : Value) : pickK (.bool true) a b H k = k a H := rfl
theorem pickK_false (a b : Value) : pickK (.bool false) a b H k = k b H := rfl
theorem vc_call (f : FuncId) (as : Array Operand) (ts : Array TypeId) : vc P ⟨d, .call ⟨.value (.func f), as, ts⟩, ty, pos, af, g⟩ T H k = runH P (callFunc f (as.map (ev T))) H (nextK P k) := by
  unfold vc execOp
  simp only [resolve, ev, Deferred.ofValue, invoke, runH_bind, runH_pure, Array.empty_append, Array.append_empty]
theorem vc_append (as : Array Operand) (ts : Array TypeId) : vc P ⟨d, .call ⟨.builtin .append, as, ts⟩, ty, pos, af, g⟩ T H k = runH P (Builtin.append_ ts ty (as.map (ev T))) H k := by
  unfold vc execOp
  simp only [resolve, invoke, builtin, runH_bind, runH_pure]
  rfl
theorem vc_len (as : Array Operand) (ts : Array TypeId) : vc P ⟨d, .call ⟨.builtin .len, as, ts⟩, ty, pos, af, g⟩ T H k = runH P (Builtin.len_ ts ty (as.map (ev T))) H k := by
  unfold vc execOp
  simp only [resolve, invoke, builtin, runH_bind, runH_pure]
  rfl
theorem vc_min (as : Array Operand) (ts : Array TypeId) : vc P ⟨d, .call ⟨.builtin .min, as, ts⟩, ty, pos, af, g⟩ T H k = runH P (Builtin.min_ ts ty (as.map (ev T))) H k := by
  unfold vc execOp
  simp only [resolve, invoke, builtin, runH_bind, runH_pure]
  rfl
theorem vc_max (as : Array Operand) (ts : Array TypeId) : vc P ⟨d, .call ⟨.builtin .max, as, ts⟩, ty, pos, af, g⟩ T H k = runH P (Builtin.max_ ts ty (as.map (ev T))) H k := by
  unfold vc execOp
  simp only [resolve, invoke, builtin, runH_bind, runH_pure]
  rfl
theorem vc_copy (as : Array Operand) (ts : Array TypeId) : vc P ⟨d, .call ⟨.builtin .copy, as, ts⟩, ty, pos, af, g⟩ T H k = runH P (Builtin.copy_ ts ty (as.map (ev T))) H k := by
  unfold vc execOp
  simp only [resolve, invoke, builtin, runH_bind, runH_pure]
  rfl
theorem vc_clear (as : Array Operand) (ts : Array TypeId) : vc P ⟨d, .call ⟨.builtin .clear, as, ts⟩, ty, pos, af, g⟩ T H k = runH P (Builtin.clear_ ts ty (as.map (ev T))) H k := by
  unfold vc execOp
  simp only [resolve, invoke, builtin, runH_bind, runH_pure]
  rfl

theorem upd_get {α : Type} (f : Nat → α) (i : Nat) (v : α) (j : Nat) : upd f i v j = if j = i then v else f j := rfl
theorem gd_none (ops : Array Oper) (op : Op) : gd ops ⟨d, op, ty, pos, af, none⟩ T = true := rfl
def gdB (v : Value) (want : Bool) : Bool :=
  match v with
  | .bool b => b == want
  | _ => false
def gdv (x : Option Tmp) (want : Bool) (T : Env) : Bool :=
  match x with
  | some d => gdB (T d) want
  | none => false
def gdst (ops : Array Oper) (j : Nat) : Option Tmp := (ops[j]?).bind (fun o => o.dst)
theorem gd_some (ops : Array Oper) (op : Op) (j : Nat) (want : Bool) : gd ops ⟨d, op, ty, pos, af, some (j, want)⟩ T = gdv (gdst ops j) want T := rfl
theorem gdst_eq (l : List Oper) (j : Nat) : gdst l.toArray j = (l[j]?).bind (fun o => o.dst) := by simp [gdst]
theorem gdv_some (t : Tmp) (want : Bool) : gdv (some t) want T = gdB (T t) want := rfl
theorem gdB_true (b : Bool) : gdB (.bool b) true = b := by cases b <;> rfl
theorem gdB_false (b : Bool) : gdB (.bool b) false = !b := by cases b <;> rfl
theorem fold64 (x : Int) : IntKind.i64.wrap x = w64 x := rfl
theorem fold32 (x : Int) : IntKind.i32.wrap x = w32 x := rfl
theorem gdB_undef (want : Bool) : gdB undef want = false := rfl

/-- a constant of the text -/
def lit (v : Value) : Value := v
theorem ev_const (v : Value) : ev T (.const v) = lit v := rfl
theorem ev_tmp (t : Tmp) : ev T (.tmp t) = T t := rfl
theorem lit_i64 (n : Int) : lit (.int .i64 n) = .int .i64 n := rfl
theorem lit_i32 (n : Int) : lit (.int .i32 n) = .int .i32 n := rfl
theorem lit_bool (b : Bool) : lit (.bool b) = .bool b := rfl
theorem lit_pointer (a : Option Addr) : lit (.pointer a) = .pointer a := rfl
theorem lit_slice (a : Option Addr) (n c : Nat) : lit (.slice a n c) = .slice a n c := rfl
theorem lit_string (s : ByteArray) : lit (.string s) = .string s := rfl

/-! arithmetic at any kind -/
theorem eqGuard_int (op : BinOp) (t : TypeId) (x y : Operand) (k1 k2 : IntKind) (a b : Int) : eqGuard op t x y (.int k1 a) (.int k2 b) = pure () := by
  unfold eqGuard
  cases op <;> rfl
theorem bin_int (op : BinOp) (t : TypeId) (x y : Operand) (k1 k2 : IntKind) (a b : Int) : runH P (binS op t x y (.int k1 a) (.int k2 b)) H k = runH P (binOp op t (.int k1 a) (.int k2 b)) H k := by
  unfold binS
  rw [eqGuard_int, runH_bind]
  rfl
theorem int_add (t : TypeId) (x y : Operand) (kd : IntKind) (a b : Int) : runH P (binS .add t x y (.int kd a) (.int kd b)) H k = k (.int kd (kd.wrap (a + b))) H := by
  rw [bin_int]; simp [binOp, Op.intArith, runH_pure]
theorem int_sub (t : TypeId) (x y : Operand) (kd : IntKind) (a b : Int) : runH P (binS .sub t x y (.int kd a) (.int kd b)) H k = k (.int kd (kd.wrap (a - b))) H := by
  rw [bin_int]; simp [binOp, Op.intArith, runH_pure]
theorem int_mul (t : TypeId) (x y : Operand) (kd : IntKind) (a b : Int) : runH P (binS .mul t x y (.int kd a) (.int kd b)) H k = k (.int kd (kd.wrap (a * b))) H := by
  rw [bin_int]; simp [binOp, Op.intArith, runH_pure]
theorem int_eql (t : TypeId) (x y : Operand) (kd : IntKind) (a b : Int) : runH P (binS .eql t x y (.int kd a) (.int kd b)) H k = k (.bool (a == b)) H := by
  rw [bin_int]; simp [binOp, Op.intCmp, runH_pure]
theorem int_neq (t : TypeId) (x y : Operand) (kd : IntKind) (a b : Int) : runH P (binS .neq t x y (.int kd a) (.int kd b)) H k = k (.bool (a != b)) H := by
  rw [bin_int]; simp [binOp, Op.intCmp, runH_pure]
theorem int_lss (t : TypeId) (x y : Operand) (kd : IntKind) (a b : Int) : runH P (binS .lss t x y (.int kd a) (.int kd b)) H k = k (.bool (decide (a < b))) H := by
  rw [bin_int]; simp [binOp, Op.intCmp, runH_pure]
theorem int_leq (t : TypeId) (x y : Operand) (kd : IntKind) (a b : Int) : runH P (binS .leq t x y (.int kd a) (.int kd b)) H k = k (.bool (decide (a ≤ b))) H := by
  rw [bin_int]; simp [binOp, Op.intCmp, runH_pure]
theorem int_gtr (t : TypeId) (x y : Operand) (kd : IntKind) (a b : Int) : runH P (binS .gtr t x y (.int kd a) (.int kd b)) H k = k (.bool (decide (a > b))) H := by
  rw [bin_int]; simp [binOp, Op.intCmp, runH_pure]
theorem int_geq (t : TypeId) (x y : Operand) (kd : IntKind) (a b : Int) : runH P (binS .geq t x y (.int kd a) (.int kd b)) H k = k (.bool (decide (a ≥ b))) H := by
  rw [bin_int]; simp [binOp, Op.intCmp, runH_pure]
theorem int_quo (t : TypeId) (x y : Operand) (kd : IntKind) (a b : Int) (hb : b ≠ 0) : runH P (binS .quo t x y (.int kd a) (.int kd b)) H k = k (.int kd (kd.wrap (a.tdiv b))) H := by
  rw [bin_int]; simp [binOp, Op.intDiv, runH_pure, hb]
theorem int_rem (t : TypeId) (x y : Operand) (kd : IntKind) (a b : Int) (hb : b ≠ 0) : runH P (binS .rem t x y (.int kd a) (.int kd b)) H k = k (.int kd (a.tmod b)) H := by
  rw [bin_int]; simp [binOp, Op.intDiv, runH_pure, hb]
theorem int_shl (t : TypeId) (x y : Operand) (kd ky : IntKind) (a b : Int) (hb : 0 ≤ b) : runH P (binS .shl t x y (.int kd a) (.int ky b)) H k = k (.int kd (kd.wrap (a * 2 ^ (min b.toNat kd.bits)))) H := by
  rw [bin_int]; simp [binOp, Op.shift, runH_pure, Int.not_lt.2 hb]
theorem int_shr (t : TypeId) (x y : Operand) (kd ky : IntKind) (a b : Int) (hb : 0 ≤ b) : runH P (binS .shr t x y (.int kd a) (.int ky b)) H k = k (.int kd (a.fdiv (2 ^ (min b.toNat kd.bits)))) H := by
  rw [bin_int]; simp [binOp, Op.shift, runH_pure, Int.not_lt.2 hb]

/-! arithmetic, typed -/
theorem u8_add (t : TypeId) (x y : Operand) (a b : UInt8) : runH P (binS .add t x y (u8 a) (u8 b)) H k = k (u8 (a + b)) H := by
  have e : Value.int .u8 (IntKind.u8.wrap ((a.toNat : Int) + (b.toNat : Int))) = u8 (a + b) := by
    rw [u8_of]
    congr 1
    apply UInt8.toNat_inj.1
    have h1 := toNat_toU8 ((a.toNat : Int) + (b.toNat : Int))
    have h2 := UInt8.toNat_add a b
    omega
  rw [← e]
  exact int_add t x y .u8 _ _
theorem u8_sub (t : TypeId) (x y : Operand) (a b : UInt8) : runH P (binS .sub t x y (u8 a) (u8 b)) H k = k (u8 (a - b)) H := by
  have e : Value.int .u8 (IntKind.u8.wrap ((a.toNat : Int) - (b.toNat : Int))) = u8 (a - b) := by
    rw [u8_of]
    congr 1
    apply UInt8.toNat_inj.1
    have h1 := toNat_toU8 ((a.toNat : Int) - (b.toNat : Int))
    have h2 := UInt8.toNat_sub a b
    have h3 := a.toNat_lt
    have h4 := b.toNat_lt
    omega
  rw [← e]
  exact int_sub t x y .u8 _ _
theorem u8_mul (t : TypeId) (x y : Operand) (a b : UInt8) : runH P (binS .mul t x y (u8 a) (u8 b)) H k = k (u8 (a * b)) H := by
  have e : Value.int .u8 (IntKind.u8.wrap ((a.toNat : Int) * (b.toNat : Int))) = u8 (a * b) := by
    rw [u8_of]
    congr 1
    apply UInt8.toNat_inj.1
    have h1 : ((toU8 ((a.toNat : Int) * (b.toNat : Int))).toNat : Int) = ((a.toNat * b.toNat : Nat) : Int) % 256 := by rw [toNat_toU8, Int.natCast_mul]
    have h2 := UInt8.toNat_mul a b
    omega
  rw [← e]
  exact int_mul t x y .u8 _ _
theorem u8_eql (t : TypeId) (x y : Operand) (a b : UInt8) : runH P (binS .eql t x y (u8 a) (u8 b)) H k = k (.bool (a == b)) H := by
  have e : ((a.toNat : Int) == (b.toNat : Int)) = (a == b) := by rw [Bool.eq_iff_iff]; simp only [beq_iff_eq, bne_iff_ne, ne_eq, ← UInt8.toNat_inj]; omega
  rw [← e]
  exact int_eql t x y .u8 _ _
theorem u8_neq (t : TypeId) (x y : Operand) (a b : UInt8) : runH P (binS .neq t x y (u8 a) (u8 b)) H k = k (.bool (a != b)) H := by
  have e : ((a.toNat : Int) != (b.toNat : Int)) = (a != b) := by rw [Bool.eq_iff_iff]; simp only [beq_iff_eq, bne_iff_ne, ne_eq, ← UInt8.toNat_inj]; omega
  rw [← e]
  exact int_neq t x y .u8 _ _
theorem u8_lss (t : TypeId) (x y : Operand) (a b : UInt8) : runH P (binS .lss t x y (u8 a) (u8 b)) H k = k (.bool (decide (a < b))) H := by
  have e : (decide ((a.toNat : Int) < (b.toNat : Int))) = (decide (a < b)) := by rw [Bool.eq_iff_iff]; simp [UInt8.lt_iff_toNat_lt, UInt8.le_iff_toNat_le]
  rw [← e]
  exact int_lss t x y .u8 _ _
theorem u8_leq (t : TypeId) (x y : Operand) (a b : UInt8) : runH P (binS .leq t x y (u8 a) (u8 b)) H k = k (.bool (decide (a ≤ b))) H := by
  have e : (decide ((a.toNat : Int) ≤ (b.toNat : Int))) = (decide (a ≤ b)) := by rw [Bool.eq_iff_iff]; simp [UInt8.lt_iff_toNat_lt, UInt8.le_iff_toNat_le]
  rw [← e]
  exact int_leq t x y .u8 _ _
theorem u8_gtr (t : TypeId) (x y : Operand) (a b : UInt8) : runH P (binS .gtr t x y (u8 a) (u8 b)) H k = k (.bool (decide (a > b))) H := by
  have e : (decide ((a.toNat : Int) > (b.toNat : Int))) = (decide (a > b)) := by rw [Bool.eq_iff_iff]; simp [UInt8.lt_iff_toNat_lt, UInt8.le_iff_toNat_le]
  rw [← e]
  exact int_gtr t x y .u8 _ _
theorem u8_geq (t : TypeId) (x y : Operand) (a b : UInt8) : runH P (binS .geq t x y (u8 a) (u8 b)) H k = k (.bool (decide (a ≥ b))) H := by
  have e : (decide ((a.toNat : Int) ≥ (b.toNat : Int))) = (decide (a ≥ b)) := by rw [Bool.eq_iff_iff]; simp [UInt8.lt_iff_toNat_lt, UInt8.le_iff_toNat_le]
  rw [← e]
  exact int_geq t x y .u8 _ _
theorem u8_quo (t : TypeId) (x y : Operand) (a b : UInt8) (hb : b ≠ 0) : runH P (binS .quo t x y (u8 a) (u8 b)) H k = k (u8 (a / b)) H := by
  have hb' : (b.toNat : Int) ≠ 0 := fun h => hb (UInt8.toNat_inj.1 (by simpa using h))
  have e : Value.int .u8 (IntKind.u8.wrap ((a.toNat : Int).tdiv (b.toNat : Int))) = u8 (a / b) := by
    rw [u8_of]
    congr 1
    apply UInt8.toNat_inj.1
    have h1 : ((toU8 ((a.toNat : Int).tdiv (b.toNat : Int))).toNat : Int) = ((a.toNat / b.toNat : Nat) : Int) % 256 := by rw [toNat_toU8, Int.tdiv_eq_ediv_of_nonneg (by omega), Int.natCast_ediv]
    rw [UInt8.toNat_div]
    have h3 := a.toNat_lt
    have h4 : a.toNat / b.toNat ≤ a.toNat := Nat.div_le_self _ _
    generalize a.toNat / b.toNat = q at *
    omega
  rw [← e]
  exact int_quo t x y .u8 _ _ hb'
theorem u8_rem (t : TypeId) (x y : Operand) (a b : UInt8) (hb : b ≠ 0) : runH P (binS .rem t x y (u8 a) (u8 b)) H k = k (u8 (a % b)) H := by
  have hb' : (b.toNat : Int) ≠ 0 := fun h => hb (UInt8.toNat_inj.1 (by simpa using h))
  have e : Value.int .u8 ((a.toNat : Int).tmod (b.toNat : Int)) = u8 (a % b) := by
    unfold u8
    rw [UInt8.toNat_mod, Int.tmod_eq_emod_of_nonneg (by omega), Int.natCast_emod]
  rw [← e]
  exact int_rem t x y .u8 _ _ hb'
theorem u16_add (t : TypeId) (x y : Operand) (a b : UInt16) : runH P (binS .add t x y (u16 a) (u16 b)) H k = k (u16 (a + b)) H := by
  have e : Value.int .u16 (IntKind.u16.wrap ((a.toNat : Int) + (b.toNat : Int))) = u16 (a + b) := by
    rw [u16_of]
    congr 1
    apply UInt16.toNat_inj.1
    have h1 := toNat_toU16 ((a.toNat : Int) + (b.toNat : Int))
    have h2 := UInt16.toNat_add a b
    omega
  rw [← e]
  exact int_add t x y .u16 _ _
theorem u16_sub (t : TypeId) (x y : Operand) (a b : UInt16) : runH P (binS .sub t x y (u16 a) (u16 b)) H k = k (u16 (a - b)) H := by
  have e : Value.int .u16 (IntKind.u16.wrap ((a.toNat : Int) - (b.toNat : Int))) = u16 (a - b) := by
    rw [u16_of]
    congr 1
    apply UInt16.toNat_inj.1
    have h1 := toNat_toU16 ((a.toNat : Int) - (b.toNat : Int))
    have h2 := UInt16.toNat_sub a b
    have h3 := a.toNat_lt
    have h4 := b.toNat_lt
    omega
  rw [← e]
  exact int_sub t x y .u16 _ _
theorem u16_mul (t : TypeId) (x y : Operand) (a b : UInt16) : runH P (binS .mul t x y (u16 a) (u16 b)) H k = k (u16 (a * b)) H := by
  have e : Value.int .u16 (IntKind.u16.wrap ((a.toNat : Int) * (b.toNat : Int))) = u16 (a * b) := by
    rw [u16_of]
    congr 1
    apply UInt16.toNat_inj.1
    have h1 : ((toU16 ((a.toNat : Int) * (b.toNat : Int))).toNat : Int) = ((a.toNat * b.toNat : Nat) : Int) % 65536 := by rw [toNat_toU16, Int.natCast_mul]
    have h2 := UInt16.toNat_mul a b
    omega
  rw [← e]
  exact int_mul t x y .u16 _ _
theorem u16_eql (t : TypeId) (x y : Operand) (a b : UInt16) : runH P (binS .eql t x y (u16 a) (u16 b)) H k = k (.bool (a == b)) H := by
  have e : ((a.toNat : Int) == (b.toNat : Int)) = (a == b) := by rw [Bool.eq_iff_iff]; simp only [beq_iff_eq, bne_iff_ne, ne_eq, ← UInt16.toNat_inj]; omega
  rw [← e]
  exact int_eql t x y .u16 _ _
theorem u16_neq (t : TypeId) (x y : Operand) (a b : UInt16) : runH P (binS .neq t x y (u16 a) (u16 b)) H k = k (.bool (a != b)) H := by
  have e : ((a.toNat : Int) != (b.toNat : Int)) = (a != b) := by rw [Bool.eq_iff_iff]; simp only [beq_iff_eq, bne_iff_ne, ne_eq, ← UInt16.toNat_inj]; omega
  rw [← e]
  exact int_neq t x y .u16 _ _
theorem u16_lss (t : TypeId) (x y : Operand) (a b : UInt16) : runH P (binS .lss t x y (u16 a) (u16 b)) H k = k (.bool (decide (a < b))) H := by
  have e : (decide ((a.toNat : Int) < (b.toNat : Int))) = (decide (a < b)) := by rw [Bool.eq_iff_iff]; simp [UInt16.lt_iff_toNat_lt, UInt16.le_iff_toNat_le]
  rw [← e]
  exact int_lss t x y .u16 _ _
theorem u16_leq (t : TypeId) (x y : Operand) (a b : UInt16) : runH P (binS .leq t x y (u16 a) (u16 b)) H k = k (.bool (decide (a ≤ b))) H := by
  have e : (decide ((a.toNat : Int) ≤ (b.toNat : Int))) = (decide (a ≤ b)) := by rw [Bool.eq_iff_iff]; simp [UInt16.lt_iff_toNat_lt, UInt16.le_iff_toNat_le]
  rw [← e]
  exact int_leq t x y .u16 _ _
theorem u16_gtr (t : TypeId) (x y : Operand) (a b : UInt16) : runH P (binS .gtr t x y (u16 a) (u16 b)) H k = k (.bool (decide (a > b))) H := by
  have e : (decide ((a.toNat : Int) > (b.toNat : Int))) = (decide (a > b)) := by rw [Bool.eq_iff_iff]; simp [UInt16.lt_iff_toNat_lt, UInt16.le_iff_toNat_le]
  rw [← e]
  exact int_gtr t x y .u16 _ _
theorem u16_geq (t : TypeId) (x y : Operand) (a b : UInt16) : runH P (binS .geq t x y (u16 a) (u16 b)) H k = k (.bool (decide (a ≥ b))) H := by
  have e : (decide ((a.toNat : Int) ≥ (b.toNat : Int))) = (decide (a ≥ b)) := by rw [Bool.eq_iff_iff]; simp [UInt16.lt_iff_toNat_lt, UInt16.le_iff_toNat_le]
  rw [← e]
  exact int_geq t x y .u16 _ _
theorem u16_quo (t : TypeId) (x y : Operand) (a b : UInt16) (hb : b ≠ 0) : runH P (binS .quo t x y (u16 a) (u16 b)) H k = k (u16 (a / b)) H := by
  have hb' : (b.toNat : Int) ≠ 0 := fun h => hb (UInt16.toNat_inj.1 (by simpa using h))
  have e : Value.int .u16 (IntKind.u16.wrap ((a.toNat : Int).tdiv (b.toNat : Int))) = u16 (a / b) := by
    rw [u16_of]
    congr 1
    apply UInt16.toNat_inj.1
    have h1 : ((toU16 ((a.toNat : Int).tdiv (b.toNat : Int))).toNat : Int) = ((a.toNat / b.toNat : Nat) : Int) % 65536 := by rw [toNat_toU16, Int.tdiv_eq_ediv_of_nonneg (by omega), Int.natCast_ediv]
    rw [UInt16.toNat_div]
    have h3 := a.toNat_lt
    have h4 : a.toNat / b.toNat ≤ a.toNat := Nat.div_le_self _ _
    generalize a.toNat / b.toNat = q at *
    omega
  rw [← e]
  exact int_quo t x y .u16 _ _ hb'
theorem u16_rem (t : TypeId) (x y : Operand) (a b : UInt16) (hb : b ≠ 0) : runH P (binS .rem t x y (u16 a) (u16 b)) H k = k (u16 (a % b)) H := by
  have hb' : (b.toNat : Int) ≠ 0 := fun h => hb (UInt16.toNat_inj.1 (by simpa using h))
  have e : Value.int .u16 ((a.toNat : Int).tmod (b.toNat : Int)) = u16 (a % b) := by
    unfold u16
    rw [UInt16.toNat_mod, Int.tmod_eq_emod_of_nonneg (by omega), Int.natCast_emod]
  rw [← e]
  exact int_rem t x y .u16 _ _ hb'
theorem u32_add (t : TypeId) (x y : Operand) (a b : UInt32) : runH P (binS .add t x y (u32 a) (u32 b)) H k = k (u32 (a + b)) H := by
  have e : Value.int .u32 (IntKind.u32.wrap ((a.toNat : Int) + (b.toNat : Int))) = u32 (a + b) := by
    rw [u32_of]
    congr 1
    apply UInt32.toNat_inj.1
    have h1 := toNat_toU32 ((a.toNat : Int) + (b.toNat : Int))
    have h2 := UInt32.toNat_add a b
    omega
  rw [← e]
  exact int_add t x y .u32 _ _
theorem u32_sub (t : TypeId) (x y : Operand) (a b : UInt32) : runH P (binS .sub t x y (u32 a) (u32 b)) H k = k (u32 (a - b)) H := by
  have e : Value.int .u32 (IntKind.u32.wrap ((a.toNat : Int) - (b.toNat : Int))) = u32 (a - b) := by
    rw [u32_of]
    congr 1
    apply UInt32.toNat_inj.1
    have h1 := toNat_toU32 ((a.toNat : Int) - (b.toNat : Int))
    have h2 := UInt32.toNat_sub a b
    have h3 := a.toNat_lt
    have h4 := b.toNat_lt
    omega
  rw [← e]
  exact int_sub t x y .u32 _ _
theorem u32_mul (t : TypeId) (x y : Operand) (a b : UInt32) : runH P (binS .mul t x y (u32 a) (u32 b)) H k = k (u32 (a * b)) H := by
  have e : Value.int .u32 (IntKind.u32.wrap ((a.toNat : Int) * (b.toNat : Int))) = u32 (a * b) := by
    rw [u32_of]
    congr 1
    apply UInt32.toNat_inj.1
    have h1 : ((toU32 ((a.toNat : Int) * (b.toNat : Int))).toNat : Int) = ((a.toNat * b.toNat : Nat) : Int) % 4294967296 := by rw [toNat_toU32, Int.natCast_mul]
    have h2 := UInt32.toNat_mul a b
    omega
  rw [← e]
  exact int_mul t x y .u32 _ _
theorem u32_eql (t : TypeId) (x y : Operand) (a b : UInt32) : runH P (binS .eql t x y (u32 a) (u32 b)) H k = k (.bool (a == b)) H := by
  have e : ((a.toNat : Int) == (b.toNat : Int)) = (a == b) := by rw [Bool.eq_iff_iff]; simp only [beq_iff_eq, bne_iff_ne, ne_eq, ← UInt32.toNat_inj]; omega
  rw [← e]
  exact int_eql t x y .u32 _ _
theorem u32_neq (t : TypeId) (x y : Operand) (a b : UInt32) : runH P (binS .neq t x y (u32 a) (u32 b)) H k = k (.bool (a != b)) H := by
  have e : ((a.toNat : Int) != (b.toNat : Int)) = (a != b) := by rw [Bool.eq_iff_iff]; simp only [beq_iff_eq, bne_iff_ne, ne_eq, ← UInt32.toNat_inj]; omega
  rw [← e]
  exact int_neq t x y .u32 _ _
theorem u32_lss (t : TypeId) (x y : Operand) (a b : UInt32) : runH P (binS .lss t x y (u32 a) (u32 b)) H k = k (.bool (decide (a < b))) H := by
  have e : (decide ((a.toNat : Int) < (b.toNat : Int))) = (decide (a < b)) := by rw [Bool.eq_iff_iff]; simp [UInt32.lt_iff_toNat_lt, UInt32.le_iff_toNat_le]
  rw [← e]
  exact int_lss t x y .u32 _ _
theorem u32_leq (t : TypeId) (x y : Operand) (a b : UInt32) : runH P (binS .leq t x y (u32 a) (u32 b)) H k = k (.bool (decide (a ≤ b))) H := by
  have e : (decide ((a.toNat : Int) ≤ (b.toNat : Int))) = (decide (a ≤ b)) := by rw [Bool.eq_iff_iff]; simp [UInt32.lt_iff_toNat_lt, UInt32.le_iff_toNat_le]
  rw [← e]
  exact int_leq t x y .u32 _ _
theorem u32_gtr (t : TypeId) (x y : Operand) (a b : UInt32) : runH P (binS .gtr t x y (u32 a) (u32 b)) H k = k (.bool (decide (a > b))) H := by
  have e : (decide ((a.toNat : Int) > (b.toNat : Int))) = (decide (a > b)) := by rw [Bool.eq_iff_iff]; simp [UInt32.lt_iff_toNat_lt, UInt32.le_iff_toNat_le]
  rw [← e]
  exact int_gtr t x y .u32 _ _
theorem u32_geq (t : TypeId) (x y : Operand) (a b : UInt32) : runH P (binS .geq t x y (u32 a) (u32 b)) H k = k (.bool (decide (a ≥ b))) H := by
  have e : (decide ((a.toNat : Int) ≥ (b.toNat : Int))) = (decide (a ≥ b)) := by rw [Bool.eq_iff_iff]; simp [UInt32.lt_iff_toNat_lt, UInt32.le_iff_toNat_le]
  rw [← e]
  exact int_geq t x y .u32 _ _
theorem u32_quo (t : TypeId) (x y : Operand) (a b : UInt32) (hb : b ≠ 0) : runH P (binS .quo t x y (u32 a) (u32 b)) H k = k (u32 (a / b)) H := by
  have hb' : (b.toNat : Int) ≠ 0 := fun h => hb (UInt32.toNat_inj.1 (by simpa using h))
  have e : Value.int .u32 (IntKind.u32.wrap ((a.toNat : Int).tdiv (b.toNat : Int))) = u32 (a / b) := by
    rw [u32_of]
    congr 1
    apply UInt32.toNat_inj.1
    have h1 : ((toU32 ((a.toNat : Int).tdiv (b.toNat : Int))).toNat : Int) = ((a.toNat / b.toNat : Nat) : Int) % 4294967296 := by rw [toNat_toU32, Int.tdiv_eq_ediv_of_nonneg (by omega), Int.natCast_ediv]
    rw [UInt32.toNat_div]
    have h3 := a.toNat_lt
    have h4 : a.toNat / b.toNat ≤ a.toNat := Nat.div_le_self _ _
    generalize a.toNat / b.toNat = q at *
    omega
  rw [← e]
  exact int_quo t x y .u32 _ _ hb'
theorem u32_rem (t : TypeId) (x y : Operand) (a b : UInt32) (hb : b ≠ 0) : runH P (binS .rem t x y (u32 a) (u32 b)) H k = k (u32 (a % b)) H := by
  have hb' : (b.toNat : Int) ≠ 0 := fun h => hb (UInt32.toNat_inj.1 (by simpa using h))
  have e : Value.int .u32 ((a.toNat : Int).tmod (b.toNat : Int)) = u32 (a % b) := by
    unfold u32
    rw [UInt32.toNat_mod, Int.tmod_eq_emod_of_nonneg (by omega), Int.natCast_emod]
  rw [← e]
  exact int_rem t x y .u32 _ _ hb'
theorem u64_add (t : TypeId) (x y : Operand) (a b : UInt64) : runH P (binS .add t x y (u64 a) (u64 b)) H k = k (u64 (a + b)) H := by
  have e : Value.int .u64 (IntKind.u64.wrap ((a.toNat : Int) + (b.toNat : Int))) = u64 (a + b) := by
    rw [u64_of]
    congr 1
    apply UInt64.toNat_inj.1
    have h1 := toNat_toU64 ((a.toNat : Int) + (b.toNat : Int))
    have h2 := UInt64.toNat_add a b
    omega
  rw [← e]
  exact int_add t x y .u64 _ _
theorem u64_sub (t : TypeId) (x y : Operand) (a b : UInt64) : runH P (binS .sub t x y (u64 a) (u64 b)) H k = k (u64 (a - b)) H := by
  have e : Value.int .u64 (IntKind.u64.wrap ((a.toNat : Int) - (b.toNat : Int))) = u64 (a - b) := by
    rw [u64_of]
    congr 1
    apply UInt64.toNat_inj.1
    have h1 := toNat_toU64 ((a.toNat : Int) - (b.toNat : Int))
    have h2 := UInt64.toNat_sub a b
    have h3 := a.toNat_lt
    have h4 := b.toNat_lt
    omega
  rw [← e]
  exact int_sub t x y .u64 _ _
theorem u64_mul (t : TypeId) (x y : Operand) (a b : UInt64) : runH P (binS .mul t x y (u64 a) (u64 b)) H k = k (u64 (a * b)) H := by
  have e : Value.int .u64 (IntKind.u64.wrap ((a.toNat : Int) * (b.toNat : Int))) = u64 (a * b) := by
    rw [u64_of]
    congr 1
    apply UInt64.toNat_inj.1
    have h1 : ((toU64 ((a.toNat : Int) * (b.toNat : Int))).toNat : Int) = ((a.toNat * b.toNat : Nat) : Int) % 18446744073709551616 := by rw [toNat_toU64, Int.natCast_mul]
    have h2 := UInt64.toNat_mul a b
    omega
  rw [← e]
  exact int_mul t x y .u64 _ _
theorem u64_eql (t : TypeId) (x y : Operand) (a b : UInt64) : runH P (binS .eql t x y (u64 a) (u64 b)) H k = k (.bool (a == b)) H := by
  have e : ((a.toNat : Int) == (b.toNat : Int)) = (a == b) := by rw [Bool.eq_iff_iff]; simp only [beq_iff_eq, bne_iff_ne, ne_eq, ← UInt64.toNat_inj]; omega
  rw [← e]
  exact int_eql t x y .u64 _ _
theorem u64_neq (t : TypeId) (x y : Operand) (a b : UInt64) : runH P (binS .neq t x y (u64 a) (u64 b)) H k = k (.bool (a != b)) H := by
  have e : ((a.toNat : Int) != (b.toNat : Int)) = (a != b) := by rw [Bool.eq_iff_iff]; simp only [beq_iff_eq, bne_iff_ne, ne_eq, ← UInt64.toNat_inj]; omega
  rw [← e]
  exact int_neq t x y .u64 _ _
theorem u64_lss (t : TypeId) (x y : Operand) (a b : UInt64) : runH P (binS .lss t x y (u64 a) (u64 b)) H k = k (.bool (decide (a < b))) H := by
  have e : (decide ((a.toNat : Int) < (b.toNat : Int))) = (decide (a < b)) := by rw [Bool.eq_iff_iff]; simp [UInt64.lt_iff_toNat_lt, UInt64.le_iff_toNat_le]
  rw [← e]
  exact int_lss t x y .u64 _ _
theorem u64_leq (t : TypeId) (x y : Operand) (a b : UInt64) : runH P (binS .leq t x y (u64 a) (u64 b)) H k = k (.bool (decide (a ≤ b))) H := by
  have e : (decide ((a.toNat : Int) ≤ (b.toNat : Int))) = (decide (a ≤ b)) := by rw [Bool.eq_iff_iff]; simp [UInt64.lt_iff_toNat_lt, UInt64.le_iff_toNat_le]
  rw [← e]
  exact int_leq t x y .u64 _ _
theorem u64_gtr (t : TypeId) (x y : Operand) (a b : UInt64) : runH P (binS .gtr t x y (u64 a) (u64 b)) H k = k (.bool (decide (a > b))) H := by
  have e : (decide ((a.toNat : Int) > (b.toNat : Int))) = (decide (a > b)) := by rw [Bool.eq_iff_iff]; simp [UInt64.lt_iff_toNat_lt, UInt64.le_iff_toNat_le]
  rw [← e]
  exact int_gtr t x y .u64 _ _
theorem u64_geq (t : TypeId) (x y : Operand) (a b : UInt64) : runH P (binS .geq t x y (u64 a) (u64 b)) H k = k (.bool (decide (a ≥ b))) H := by
  have e : (decide ((a.toNat : Int) ≥ (b.toNat : Int))) = (decide (a ≥ b)) := by rw [Bool.eq_iff_iff]; simp [UInt64.lt_iff_toNat_lt, UInt64.le_iff_toNat_le]
  rw [← e]
  exact int_geq t x y .u64 _ _
theorem u64_quo (t : TypeId) (x y : Operand) (a b : UInt64) (hb : b ≠ 0) : runH P (binS .quo t x y (u64 a) (u64 b)) H k = k (u64 (a / b)) H := by
  have hb' : (b.toNat : Int) ≠ 0 := fun h => hb (UInt64.toNat_inj.1 (by simpa using h))
  have e : Value.int .u64 (IntKind.u64.wrap ((a.toNat : Int).tdiv (b.toNat : Int))) = u64 (a / b) := by
    rw [u64_of]
    congr 1
    apply UInt64.toNat_inj.1
    have h1 : ((toU64 ((a.toNat : Int).tdiv (b.toNat : Int))).toNat : Int) = ((a.toNat / b.toNat : Nat) : Int) % 18446744073709551616 := by rw [toNat_toU64, Int.tdiv_eq_ediv_of_nonneg (by omega), Int.natCast_ediv]
    rw [UInt64.toNat_div]
    have h3 := a.toNat_lt
    have h4 : a.toNat / b.toNat ≤ a.toNat := Nat.div_le_self _ _
    generalize a.toNat / b.toNat = q at *
    omega
  rw [← e]
  exact int_quo t x y .u64 _ _ hb'
theorem u64_rem (t : TypeId) (x y : Operand) (a b : UInt64) (hb : b ≠ 0) : runH P (binS .rem t x y (u64 a) (u64 b)) H k = k (u64 (a % b)) H := by
  have hb' : (b.toNat : Int) ≠ 0 := fun h => hb (UInt64.toNat_inj.1 (by simpa using h))
  have e : Value.int .u64 ((a.toNat : Int).tmod (b.toNat : Int)) = u64 (a % b) := by
    unfold u64
    rw [UInt64.toNat_mod, Int.tmod_eq_emod_of_nonneg (by omega), Int.natCast_emod]
  rw [← e]
  exact int_rem t x y .u64 _ _ hb'

/-! bits -/
theorem bv_nat (w n : Nat) (h : n < 2 ^ w) : (BitVec.ofInt w (n : Int)).toNat = n := by
  rw [BitVec.toNat_ofInt, Int.emod_eq_of_lt (by omega) (by exact_mod_cast h)]
  omega
theorem u8_and (t : TypeId) (x y : Operand) (a b : UInt8) : runH P (binS .and t x y (u8 a) (u8 b)) H k = k (u8 (a &&& b)) H := by
  have e : Value.int .u8 (IntKind.u8.wrap ((BitVec.ofInt 8 (a.toNat : Int) &&& BitVec.ofInt 8 (b.toNat : Int)).toNat : Int)) = u8 (a &&& b) := by
    rw [u8_of, toU8_nat]
    congr 1
    apply UInt8.toNat_inj.1
    rw [UInt8.toNat_ofNat', BitVec.toNat_and, bv_nat _ _ a.toNat_lt, bv_nat _ _ b.toNat_lt, UInt8.toNat_and]
    exact Nat.mod_eq_of_lt (by
      have := (a &&& b).toNat_lt
      rw [UInt8.toNat_and] at this
      exact this)
  rw [← e]
  unfold u8
  rw [bin_int]
  rfl
theorem u8_or (t : TypeId) (x y : Operand) (a b : UInt8) : runH P (binS .or t x y (u8 a) (u8 b)) H k = k (u8 (a ||| b)) H := by
  have e : Value.int .u8 (IntKind.u8.wrap ((BitVec.ofInt 8 (a.toNat : Int) ||| BitVec.ofInt 8 (b.toNat : Int)).toNat : Int)) = u8 (a ||| b) := by
    rw [u8_of, toU8_nat]
    congr 1
    apply UInt8.toNat_inj.1
    rw [UInt8.toNat_ofNat', BitVec.toNat_or, bv_nat _ _ a.toNat_lt, bv_nat _ _ b.toNat_lt, UInt8.toNat_or]
    exact Nat.mod_eq_of_lt (by
      have := (a ||| b).toNat_lt
      rw [UInt8.toNat_or] at this
      exact this)
  rw [← e]
  unfold u8
  rw [bin_int]
  rfl
theorem u8_xor (t : TypeId) (x y : Operand) (a b : UInt8) : runH P (binS .xor t x y (u8 a) (u8 b)) H k = k (u8 (a ^^^ b)) H := by
  have e : Value.int .u8 (IntKind.u8.wrap ((BitVec.ofInt 8 (a.toNat : Int) ^^^ BitVec.ofInt 8 (b.toNat : Int)).toNat : Int)) = u8 (a ^^^ b) := by
    rw [u8_of, toU8_nat]
    congr 1
    apply UInt8.toNat_inj.1
    rw [UInt8.toNat_ofNat', BitVec.toNat_xor, bv_nat _ _ a.toNat_lt, bv_nat _ _ b.toNat_lt, UInt8.toNat_xor]
    exact Nat.mod_eq_of_lt (by
      have := (a ^^^ b).toNat_lt
      rw [UInt8.toNat_xor] at this
      exact this)
  rw [← e]
  unfold u8
  rw [bin_int]
  rfl
theorem u8_andNot (t : TypeId) (x y : Operand) (a b : UInt8) : runH P (binS .andNot t x y (u8 a) (u8 b)) H k = k (u8 (a &&& ~~~b)) H := by
  have e : Value.int .u8 (IntKind.u8.wrap ((BitVec.ofInt 8 (a.toNat : Int) &&& ~~~BitVec.ofInt 8 (b.toNat : Int)).toNat : Int)) = u8 (a &&& ~~~b) := by
    rw [u8_of, toU8_nat]
    congr 1
    apply UInt8.toNat_inj.1
    have ea : BitVec.ofInt 8 (a.toNat : Int) = a.toBitVec := BitVec.eq_of_toNat_eq (bv_nat _ _ a.toNat_lt)
    have eb : BitVec.ofInt 8 (b.toNat : Int) = b.toBitVec := BitVec.eq_of_toNat_eq (bv_nat _ _ b.toNat_lt)
    rw [UInt8.toNat_ofNat', ea, eb]
    have h := (a &&& ~~~b).toNat_lt
    have h2 : (a &&& ~~~b).toNat = (a.toBitVec &&& ~~~b.toBitVec).toNat := rfl
    rw [h2] at h ⊢
    exact Nat.mod_eq_of_lt h
  rw [← e]
  unfold u8
  rw [bin_int]
  rfl
theorem u64_and (t : TypeId) (x y : Operand) (a b : UInt64) : runH P (binS .and t x y (u64 a) (u64 b)) H k = k (u64 (a &&& b)) H := by
  have e : Value.int .u64 (IntKind.u64.wrap ((BitVec.ofInt 64 (a.toNat : Int) &&& BitVec.ofInt 64 (b.toNat : Int)).toNat : Int)) = u64 (a &&& b) := by
    rw [u64_of, toU64_nat]
    congr 1
    apply UInt64.toNat_inj.1
    rw [UInt64.toNat_ofNat', BitVec.toNat_and, bv_nat _ _ a.toNat_lt, bv_nat _ _ b.toNat_lt, UInt64.toNat_and]
    exact Nat.mod_eq_of_lt (by
      have := (a &&& b).toNat_lt
      rw [UInt64.toNat_and] at this
      exact this)
  rw [← e]
  unfold u64
  rw [bin_int]
  rfl
theorem u64_or (t : TypeId) (x y : Operand) (a b : UInt64) : runH P (binS .or t x y (u64 a) (u64 b)) H k = k (u64 (a ||| b)) H := by
  have e : Value.int .u64 (IntKind.u64.wrap ((BitVec.ofInt 64 (a.toNat : Int) ||| BitVec.ofInt 64 (b.toNat : Int)).toNat : Int)) = u64 (a ||| b) := by
    rw [u64_of, toU64_nat]
    congr 1
    apply UInt64.toNat_inj.1
    rw [UInt64.toNat_ofNat', BitVec.toNat_or, bv_nat _ _ a.toNat_lt, bv_nat _ _ b.toNat_lt, UInt64.toNat_or]
    exact Nat.mod_eq_of_lt (by
      have := (a ||| b).toNat_lt
      rw [UInt64.toNat_or] at this
      exact this)
  rw [← e]
  unfold u64
  rw [bin_int]
  rfl
theorem u64_xor (t : TypeId) (x y : Operand) (a b : UInt64) : runH P (binS .xor t x y (u64 a) (u64 b)) H k = k (u64 (a ^^^ b)) H := by
  have e : Value.int .u64 (IntKind.u64.wrap ((BitVec.ofInt 64 (a.toNat : Int) ^^^ BitVec.ofInt 64 (b.toNat : Int)).toNat : Int)) = u64 (a ^^^ b) := by
    rw [u64_of, toU64_nat]
    congr 1
    apply UInt64.toNat_inj.1
    rw [UInt64.toNat_ofNat', BitVec.toNat_xor, bv_nat _ _ a.toNat_lt, bv_nat _ _ b.toNat_lt, UInt64.toNat_xor]
    exact Nat.mod_eq_of_lt (by
      have := (a ^^^ b).toNat_lt
      rw [UInt64.toNat_xor] at this
      exact this)
  rw [← e]
  unfold u64
  rw [bin_int]
  rfl
theorem u64_andNot (t : TypeId) (x y : Operand) (a b : UInt64) : runH P (binS .andNot t x y (u64 a) (u64 b)) H k = k (u64 (a &&& ~~~b)) H := by
  have e : Value.int .u64 (IntKind.u64.wrap ((BitVec.ofInt 64 (a.toNat : Int) &&& ~~~BitVec.ofInt 64 (b.toNat : Int)).toNat : Int)) = u64 (a &&& ~~~b) := by
    rw [u64_of, toU64_nat]
    congr 1
    apply UInt64.toNat_inj.1
    have ea : BitVec.ofInt 64 (a.toNat : Int) = a.toBitVec := BitVec.eq_of_toNat_eq (bv_nat _ _ a.toNat_lt)
    have eb : BitVec.ofInt 64 (b.toNat : Int) = b.toBitVec := BitVec.eq_of_toNat_eq (bv_nat _ _ b.toNat_lt)
    rw [UInt64.toNat_ofNat', ea, eb]
    have h := (a &&& ~~~b).toNat_lt
    have h2 : (a &&& ~~~b).toNat = (a.toBitVec &&& ~~~b.toBitVec).toNat := rfl
    rw [h2] at h ⊢
    exact Nat.mod_eq_of_lt h
  rw [← e]
  unfold u64
  rw [bin_int]
  rfl

/-! shifts -/
theorem pow_min (n w : Nat) : (2 ^ (min n w) : Nat) % 2 ^ w = 2 ^ n % 2 ^ w := by
  rcases Nat.lt_or_ge n w with h | h
  · rw [Nat.min_eq_left (Nat.le_of_lt h)]
  · rw [Nat.min_eq_right h, Nat.mod_self]
    obtain ⟨c, rfl⟩ := Nat.exists_eq_add_of_le h
    rw [Nat.pow_add, Nat.mul_mod_right]
theorem u8_shlN (t : TypeId) (x y : Operand) (a : UInt8) (ky : IntKind) (n : Nat) : runH P (binS .shl t x y (u8 a) (.int ky (n : Int))) H k = k (u8 (shl8 a n)) H := by
  have e : Value.int .u8 (IntKind.u8.wrap ((a.toNat : Int) * 2 ^ (min (n : Int).toNat (IntKind.u8.bits)))) = u8 (shl8 a n) := by
    have e1 : ((a.toNat : Int) * 2 ^ (min (n : Int).toNat (IntKind.u8.bits))) = ((a.toNat * 2 ^ (min n 8) : Nat) : Int) := by
      simp [IntKind.bits]
    rw [u8_of, e1, toU8_nat]
    congr 1
    apply UInt8.toNat_inj.1
    unfold shl8
    rw [UInt8.toNat_ofNat', UInt8.toNat_ofNat', Nat.mul_mod, pow_min, ← Nat.mul_mod]
  rw [← e]
  exact int_shl t x y .u8 ky _ _ (by omega)
theorem u8_shl_u8 (t : TypeId) (x y : Operand) (a : UInt8) (n : UInt8) : runH P (binS .shl t x y (u8 a) (u8 n)) H k = k (u8 (shl8 a n.toNat)) H := u8_shlN t x y a .u8 n.toNat
theorem u8_shl_u16 (t : TypeId) (x y : Operand) (a : UInt8) (n : UInt16) : runH P (binS .shl t x y (u8 a) (u16 n)) H k = k (u8 (shl8 a n.toNat)) H := u8_shlN t x y a .u16 n.toNat
theorem u8_shl_u64 (t : TypeId) (x y : Operand) (a : UInt8) (n : UInt64) : runH P (binS .shl t x y (u8 a) (u64 n)) H k = k (u8 (shl8 a n.toNat)) H := u8_shlN t x y a .u64 n.toNat
theorem u32_shlN (t : TypeId) (x y : Operand) (a : UInt32) (ky : IntKind) (n : Nat) : runH P (binS .shl t x y (u32 a) (.int ky (n : Int))) H k = k (u32 (shl32 a n)) H := by
  have e : Value.int .u32 (IntKind.u32.wrap ((a.toNat : Int) * 2 ^ (min (n : Int).toNat (IntKind.u32.bits)))) = u32 (shl32 a n) := by
    have e1 : ((a.toNat : Int) * 2 ^ (min (n : Int).toNat (IntKind.u32.bits))) = ((a.toNat * 2 ^ (min n 32) : Nat) : Int) := by
      simp [IntKind.bits]
    rw [u32_of, e1, toU32_nat]
    congr 1
    apply UInt32.toNat_inj.1
    unfold shl32
    rw [UInt32.toNat_ofNat', UInt32.toNat_ofNat', Nat.mul_mod, pow_min, ← Nat.mul_mod]
  rw [← e]
  exact int_shl t x y .u32 ky _ _ (by omega)
theorem u32_shl_u8 (t : TypeId) (x y : Operand) (a : UInt32) (n : UInt8) : runH P (binS .shl t x y (u32 a) (u8 n)) H k = k (u32 (shl32 a n.toNat)) H := u32_shlN t x y a .u8 n.toNat
theorem u32_shl_u16 (t : TypeId) (x y : Operand) (a : UInt32) (n : UInt16) : runH P (binS .shl t x y (u32 a) (u16 n)) H k = k (u32 (shl32 a n.toNat)) H := u32_shlN t x y a .u16 n.toNat
theorem u32_shl_u64 (t : TypeId) (x y : Operand) (a : UInt32) (n : UInt64) : runH P (binS .shl t x y (u32 a) (u64 n)) H k = k (u32 (shl32 a n.toNat)) H := u32_shlN t x y a .u64 n.toNat
theorem u64_shlN (t : TypeId) (x y : Operand) (a : UInt64) (ky : IntKind) (n : Nat) : runH P (binS .shl t x y (u64 a) (.int ky (n : Int))) H k = k (u64 (shl64 a n)) H := by
  have e : Value.int .u64 (IntKind.u64.wrap ((a.toNat : Int) * 2 ^ (min (n : Int).toNat (IntKind.u64.bits)))) = u64 (shl64 a n) := by
    have e1 : ((a.toNat : Int) * 2 ^ (min (n : Int).toNat (IntKind.u64.bits))) = ((a.toNat * 2 ^ (min n 64) : Nat) : Int) := by
      simp [IntKind.bits]
    rw [u64_of, e1, toU64_nat]
    congr 1
    apply UInt64.toNat_inj.1
    unfold shl64
    rw [UInt64.toNat_ofNat', UInt64.toNat_ofNat', Nat.mul_mod, pow_min, ← Nat.mul_mod]
  rw [← e]
  exact int_shl t x y .u64 ky _ _ (by omega)
theorem u64_shl_u8 (t : TypeId) (x y : Operand) (a : UInt64) (n : UInt8) : runH P (binS .shl t x y (u64 a) (u8 n)) H k = k (u64 (shl64 a n.toNat)) H := u64_shlN t x y a .u8 n.toNat
theorem u64_shl_u16 (t : TypeId) (x y : Operand) (a : UInt64) (n : UInt16) : runH P (binS .shl t x y (u64 a) (u16 n)) H k = k (u64 (shl64 a n.toNat)) H := u64_shlN t x y a .u16 n.toNat
theorem u64_shl_u64 (t : TypeId) (x y : Operand) (a : UInt64) (n : UInt64) : runH P (binS .shl t x y (u64 a) (u64 n)) H k = k (u64 (shl64 a n.toNat)) H := u64_shlN t x y a .u64 n.toNat
theorem u8_shrN (t : TypeId) (x y : Operand) (a : UInt8) (ky : IntKind) (n : Nat) : runH P (binS .shr t x y (u8 a) (.int ky (n : Int))) H k = k (u8 (shr8 a n)) H := by
  have e : Value.int .u8 ((a.toNat : Int).fdiv (2 ^ (min (n : Int).toNat (IntKind.u8.bits)))) = u8 (shr8 a n) := by
    have e1 : ((a.toNat : Int).fdiv (2 ^ (min (n : Int).toNat (IntKind.u8.bits)))) = ((a.toNat / 2 ^ n : Nat) : Int) := by
      have e2 : ((2 : Int) ^ (min (n : Int).toNat (IntKind.u8.bits))) = ((2 ^ (min n 8) : Nat) : Int) := by simp [IntKind.bits]
      rw [e2, Int.fdiv_eq_ediv_of_nonneg _ (Int.natCast_nonneg _), ← Int.natCast_ediv]
      congr 1
      rcases Nat.lt_or_ge n 8 with h | h
      · rw [Nat.min_eq_left (Nat.le_of_lt h)]
      · rw [Nat.min_eq_right h, Nat.div_eq_of_lt a.toNat_lt, Nat.div_eq_of_lt]
        exact Nat.lt_of_lt_of_le a.toNat_lt (Nat.pow_le_pow_right (by decide) h)
    rw [e1]
    unfold u8 shr8
    rw [UInt8.toNat_ofNat', Nat.mod_eq_of_lt]
    exact Nat.lt_of_le_of_lt (Nat.div_le_self _ _) a.toNat_lt
  rw [← e]
  exact int_shr t x y .u8 ky _ _ (by omega)
theorem u8_shr_u8 (t : TypeId) (x y : Operand) (a : UInt8) (n : UInt8) : runH P (binS .shr t x y (u8 a) (u8 n)) H k = k (u8 (shr8 a n.toNat)) H := u8_shrN t x y a .u8 n.toNat
theorem u8_shr_u16 (t : TypeId) (x y : Operand) (a : UInt8) (n : UInt16) : runH P (binS .shr t x y (u8 a) (u16 n)) H k = k (u8 (shr8 a n.toNat)) H := u8_shrN t x y a .u16 n.toNat
theorem u8_shr_u64 (t : TypeId) (x y : Operand) (a : UInt8) (n : UInt64) : runH P (binS .shr t x y (u8 a) (u64 n)) H k = k (u8 (shr8 a n.toNat)) H := u8_shrN t x y a .u64 n.toNat
theorem u64_shrN (t : TypeId) (x y : Operand) (a : UInt64) (ky : IntKind) (n : Nat) : runH P (binS .shr t x y (u64 a) (.int ky (n : Int))) H k = k (u64 (shr64 a n)) H := by
  have e : Value.int .u64 ((a.toNat : Int).fdiv (2 ^ (min (n : Int).toNat (IntKind.u64.bits)))) = u64 (shr64 a n) := by
    have e1 : ((a.toNat : Int).fdiv (2 ^ (min (n : Int).toNat (IntKind.u64.bits)))) = ((a.toNat / 2 ^ n : Nat) : Int) := by
      have e2 : ((2 : Int) ^ (min (n : Int).toNat (IntKind.u64.bits))) = ((2 ^ (min n 64) : Nat) : Int) := by simp [IntKind.bits]
      rw [e2, Int.fdiv_eq_ediv_of_nonneg _ (Int.natCast_nonneg _), ← Int.natCast_ediv]
      congr 1
      rcases Nat.lt_or_ge n 64 with h | h
      · rw [Nat.min_eq_left (Nat.le_of_lt h)]
      · rw [Nat.min_eq_right h, Nat.div_eq_of_lt a.toNat_lt, Nat.div_eq_of_lt]
        exact Nat.lt_of_lt_of_le a.toNat_lt (Nat.pow_le_pow_right (by decide) h)
    rw [e1]
    unfold u64 shr64
    rw [UInt64.toNat_ofNat', Nat.mod_eq_of_lt]
    exact Nat.lt_of_le_of_lt (Nat.div_le_self _ _) a.toNat_lt
  rw [← e]
  exact int_shr t x y .u64 ky _ _ (by omega)
theorem u64_shr_u8 (t : TypeId) (x y : Operand) (a : UInt64) (n : UInt8) : runH P (binS .shr t x y (u64 a) (u8 n)) H k = k (u64 (shr64 a n.toNat)) H := u64_shrN t x y a .u8 n.toNat
theorem u64_shr_u16 (t : TypeId) (x y : Operand) (a : UInt64) (n : UInt16) : runH P (binS .shr t x y (u64 a) (u16 n)) H k = k (u64 (shr64 a n.toNat)) H := u64_shrN t x y a .u16 n.toNat
theorem u64_shr_u64 (t : TypeId) (x y : Operand) (a : UInt64) (n : UInt64) : runH P (binS .shr t x y (u64 a) (u64 n)) H k = k (u64 (shr64 a n.toNat)) H := u64_shrN t x y a .u64 n.toNat
theorem u16_quo8 (t : TypeId) (x y : Operand) (a : UInt16) : runH P (binS .quo t x y (u16 a) (u16 8)) H k = k (u16 (a / 8)) H := u16_quo t x y a 8 (by decide)
theorem u16_rem8 (t : TypeId) (x y : Operand) (a : UInt16) : runH P (binS .rem t x y (u16 a) (u16 8)) H k = k (u16 (a % 8)) H := u16_rem t x y a 8 (by decide)
theorem u16_quo64 (t : TypeId) (x y : Operand) (a : UInt16) : runH P (binS .quo t x y (u16 a) (u16 64)) H k = k (u16 (a / 64)) H := u16_quo t x y a 64 (by decide)
theorem u16_rem64 (t : TypeId) (x y : Operand) (a : UInt16) : runH P (binS .rem t x y (u16 a) (u16 64)) H k = k (u16 (a % 64)) H := u16_rem t x y a 64 (by decide)
theorem u64_quo8 (t : TypeId) (x y : Operand) (a : UInt64) : runH P (binS .quo t x y (u64 a) (u64 8)) H k = k (u64 (a / 8)) H := u64_quo t x y a 8 (by decide)
theorem u64_rem8 (t : TypeId) (x y : Operand) (a : UInt64) : runH P (binS .rem t x y (u64 a) (u64 8)) H k = k (u64 (a % 8)) H := u64_rem t x y a 8 (by decide)
theorem u64_quo64 (t : TypeId) (x y : Operand) (a : UInt64) : runH P (binS .quo t x y (u64 a) (u64 64)) H k = k (u64 (a / 64)) H := u64_quo t x y a 64 (by decide)
theorem u64_rem64 (t : TypeId) (x y : Operand) (a : UInt64) : runH P (binS .rem t x y (u64 a) (u64 64)) H k = k (u64 (a % 64)) H := u64_rem t x y a 64 (by decide)
theorem u32_quo8 (t : TypeId) (x y : Operand) (a : UInt32) : runH P (binS .quo t x y (u32 a) (u32 8)) H k = k (u32 (a / 8)) H := u32_quo t x y a 8 (by decide)
theorem u32_rem8 (t : TypeId) (x y : Operand) (a : UInt32) : runH P (binS .rem t x y (u32 a) (u32 8)) H k = k (u32 (a % 8)) H := u32_rem t x y a 8 (by decide)
theorem u32_quo64 (t : TypeId) (x y : Operand) (a : UInt32) : runH P (binS .quo t x y (u32 a) (u32 64)) H k = k (u32 (a / 64)) H := u32_quo t x y a 64 (by decide)
theorem u32_rem64 (t : TypeId) (x y : Operand) (a : UInt32) : runH P (binS .rem t x y (u32 a) (u32 64)) H k = k (u32 (a % 64)) H := u32_rem t x y a 64 (by decide)
theorem int_quo2 (t : TypeId) (x y : Operand) (kd : IntKind) (a : Int) : runH P (binS .quo t x y (.int kd a) (.int kd 2)) H k = k (.int kd (kd.wrap (a.tdiv 2))) H := int_quo t x y kd a 2 (by decide)
theorem int_rem2 (t : TypeId) (x y : Operand) (kd : IntKind) (a : Int) : runH P (binS .rem t x y (.int kd a) (.int kd 2)) H k = k (.int kd (a.tmod 2)) H := int_rem t x y kd a 2 (by decide)
theorem int_quo8 (t : TypeId) (x y : Operand) (kd : IntKind) (a : Int) : runH P (binS .quo t x y (.int kd a) (.int kd 8)) H k = k (.int kd (kd.wrap (a.tdiv 8))) H := int_quo t x y kd a 8 (by decide)
theorem int_rem8 (t : TypeId) (x y : Operand) (kd : IntKind) (a : Int) : runH P (binS .rem t x y (.int kd a) (.int kd 8)) H k = k (.int kd (a.tmod 8)) H := int_rem t x y kd a 8 (by decide)
theorem int_quo64 (t : TypeId) (x y : Operand) (kd : IntKind) (a : Int) : runH P (binS .quo t x y (.int kd a) (.int kd 64)) H k = k (.int kd (kd.wrap (a.tdiv 64))) H := int_quo t x y kd a 64 (by decide)
theorem int_rem64 (t : TypeId) (x y : Operand) (kd : IntKind) (a : Int) : runH P (binS .rem t x y (.int kd a) (.int kd 64)) H k = k (.int kd (a.tmod 64)) H := int_rem t x y kd a 64 (by decide)
theorem u64_shl_int (t : TypeId) (x y : Operand) (a : UInt64) (kd : IntKind) (n : Int) (h : 0 ≤ n) : runH P (binS .shl t x y (u64 a) (.int kd n)) H k = k (u64 (shl64 a n.toNat)) H := by
  obtain ⟨m, rfl⟩ := Int.eq_ofNat_of_zero_le h
  exact u64_shlN t x y a kd m
theorem u64_shr_int (t : TypeId) (x y : Operand) (a : UInt64) (kd : IntKind) (n : Int) (h : 0 ≤ n) : runH P (binS .shr t x y (u64 a) (.int kd n)) H k = k (u64 (shr64 a n.toNat)) H := by
  obtain ⟨m, rfl⟩ := Int.eq_ofNat_of_zero_le h
  exact u64_shrN t x y a kd m
def i16 (x : Int16) : Value := .int .i16 x.toInt
theorem i16_of (x : Int) : Value.int .i16 (IntKind.i16.wrap x) = i16 (Int16.ofInt x) := by
  unfold i16
  congr 1
  have h := w16_eq x
  unfold w16 at h
  rw [h, Int16.toInt_ofInt, Int.bmod_def, show ((Int16.size : Nat) : Int) = 65536 from rfl]
  split <;> split <;> omega
theorem i16_rng (x : Int16) : -32768 ≤ x.toInt ∧ x.toInt < 32768 := ⟨by have := Int16.le_toInt x; simpa using this, by have := Int16.toInt_lt x; simpa using this⟩
theorem i16_inj (x y : Int16) : (x.toInt = y.toInt) = (x = y) := by simp [Int16.toInt_inj]
theorem i16_eql (t : TypeId) (x y : Operand) (a b : Int16) : runH P (binS .eql t x y (i16 a) (i16 b)) H k = k (.bool (a == b)) H := by
  have e : (a.toInt == b.toInt) = (a == b) := by rw [Bool.eq_iff_iff]; simp [Int16.toInt_inj]
  rw [← e]; exact int_eql t x y .i16 _ _
theorem i16_neq (t : TypeId) (x y : Operand) (a b : Int16) : runH P (binS .neq t x y (i16 a) (i16 b)) H k = k (.bool (a != b)) H := by
  have e : (a.toInt != b.toInt) = (a != b) := by rw [Bool.eq_iff_iff]; simp [Int16.toInt_inj]
  rw [← e]; exact int_neq t x y .i16 _ _
theorem i16_lss (t : TypeId) (x y : Operand) (a b : Int16) : runH P (binS .lss t x y (i16 a) (i16 b)) H k = k (.bool (decide (a.toInt < b.toInt))) H := int_lss t x y .i16 _ _
theorem i16_geq (t : TypeId) (x y : Operand) (a b : Int16) : runH P (binS .geq t x y (i16 a) (i16 b)) H k = k (.bool (decide (a.toInt ≥ b.toInt))) H := int_geq t x y .i16 _ _
theorem i64_shl_u8 (t : TypeId) (x y : Operand) (a : Int) (n : UInt8) : runH P (binS .shl t x y (.int .i64 a) (u8 n)) H k = k (.int .i64 (w64 (a * 2 ^ (min n.toNat 64)))) H := by
  exact int_shl t x y .i64 .u8 _ _ (by omega)
end

end Eng
end Go.Proofs.Ygcfab
