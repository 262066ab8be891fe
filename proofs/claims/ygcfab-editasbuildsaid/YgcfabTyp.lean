/-
  The engine of this seat's walks, part four: the operations at this program's types.
-/
import Derived.Test.YgcfabRows
import Derived.Test.YgcfabOps
set_option linter.unusedSimpArgs false
set_option linter.unusedVariables false
namespace Go.Proofs.Ygcfab
namespace Eng

section
variable {P : Program} {H : Heap} {k : Value → Heap → Prop}
theorem runH_underlying {α : Type} {t : TypeId} {d : TypeDesc} (h : P.underlying t = some d) (f : TypeDesc → Sem α) (k : α → Heap → Prop) : runH P (underlying t >>= f) H k = runH P (f d) H k := by
  rw [runH_bind]
  simp only [underlying, runH_bind, program, runH, h, runH_pure]
theorem conv_int {s t : TypeId} {ds : TypeDesc} {kt ks : IntKind} (hs : P.underlying s = some ds) (ht : P.underlying t = some (.int kt)) (n : Int) :
    runH P (convert s t (.int ks n)) H k = k (.int kt (kt.wrap n)) H := by
  unfold convert
  rw [runH_underlying hs, runH_underlying ht]
  rfl
theorem runH_boundsPanic {α : Type} (kd : IntKind) (x y : Int) (c : BoundsCode) (k : α → Heap → Prop) : runH P (boundsPanic kd x y c : Sem α) H k = False := by
  have hb : ∀ (s : Bool) (H : Heap), runH P (runtimePanic (.bounds (IntKind.i64.wrap x) y s c) : Sem α) H k = False := by
    intro s H; rfl
  unfold boundsPanic
  simp only []
  rw [runH_ite]
  split
  · rw [runH_bind, runH_map]
    simp only [hb, choose, runH]
    split
    · rfl
    · simp
  · rw [runH_bind]
    simp only [runH_pure, hb]

theorem isAgg_false {t : TypeId} {d : TypeDesc} (h : P.underlying t = some d) (hd : (match d with | .struct _ | .array _ _ => true | _ => false) = false) (k : Bool → Heap → Prop) : runH P (isAgg t) H k = k false H := by
  unfold isAgg
  rw [runH_underlying h]
  cases d <;> first | rfl | (simp at hd)
theorem load1 {t : TypeId} {d : TypeDesc} (h : P.underlying t = some d) (hd : (match d with | .struct _ | .array _ _ => true | _ => false) = false) (b o : Nat) :
    runH P (Instr.loadAt t (ptr b o)) H k = rdK (rd H b o) (fun v => k v H) := by
  unfold Instr.loadAt Instr.sureAddr ptr loadVar
  simp only [pure_bind]
  rw [runH_bind, isAgg_false h hd]
  exact runH_load b o _ H k
theorem loadN {t : TypeId} {n : Nat} (h : ∀ (k : Bool → Heap → Prop), runH P (isAgg t) H k = k true H) (hn : ∀ (k : Nat → Heap → Prop), runH P (sizeOf t) H k = k n H) (b o : Nat) :
    runH P (Instr.loadAt t (ptr b o)) H k = rdsK H b o n [] (fun vs => k (.agg vs.toArray) H) := by
  unfold Instr.loadAt Instr.sureAddr ptr loadVar
  simp only [pure_bind]
  rw [runH_bind, h]
  simp only [if_true]
  rw [runH_bind, hn, runH_bind, runH_loadCells]
  rfl
theorem store1 {t : TypeId} (hn : ∀ (k : Nat → Heap → Prop), runH P (sizeOf t) H k = k 1 H) (b o : Nat) (v : Value) (hv : v.oneCell' = true) :
    runH P (Instr.storeAt t (ptr b o) v) H (stK k) = (wrOk (H b) o ∧ k undef (upd H b (wrO (H b) o v))) := by
  unfold Instr.storeAt Instr.sureAddr ptr storeVar
  simp only [pure_bind]
  rw [runH_bind, hn]
  have hc : v.cells = #[v] := by cases v <;> first | rfl | (simp [Value.oneCell'] at hv)
  rw [hc]
  simp only [List.size_toArray, List.length_cons, List.length_nil, ne_eq, not_true_eq_false, if_false]
  exact (runH_storeCells b o [v] H (stK k) (by simpa using hv)).trans rfl
theorem storeN {t : TypeId} {n : Nat} (hn : ∀ (k : Nat → Heap → Prop), runH P (sizeOf t) H k = k n H) (b o : Nat) (l : List Value) (hl : l.length = n) (hv : l.all Value.oneCell' = true) :
    runH P (Instr.storeAt t (ptr b o) (.agg l.toArray)) H (stK k) = wrsK b o l H (fun H' => k undef H') := by
  unfold Instr.storeAt Instr.sureAddr ptr storeVar
  simp only [pure_bind]
  rw [runH_bind, hn]
  simp only [Value.cells, List.size_toArray, hl, ne_eq, not_true_eq_false, if_false]
  exact runH_storeCells b o l H (stK k) (by simpa using hv)
theorem storeL {t : TypeId} {n : Nat} (hn : ∀ (k : Nat → Heap → Prop), runH P (sizeOf t) H k = k (n + 1) H) (b o : Nat) (l : List Value) (hl : l.length = n + 1) (hv : l.all Value.oneCell' = true) :
    runH P (Instr.storeAt t (ptr b o) (.agg l.toArray)) H (stK k) = (wrsOk (H b) o (n + 1) ∧ k undef (upd H b (wrsO (H b) o l))) := by
  rw [storeN hn b o l hl hv, wrsK_eq, if_neg (by intro h; rw [h] at hl; cases hl), hl]
theorem index_slice {t e : TypeId} {n : Nat} (ht : P.underlying t = some (.slice e)) (hn : ∀ (k : Nat → Heap → Prop), runH P (sizeOf e) H k = k n H) (b o len cap : Nat) (kd : IntKind) (i : Int) :
    runH P (Instr.indexAt t (sl b o len cap) (.int kd i)) H k = (0 ≤ i ∧ i < (len : Int) ∧ k (ptr b (o + i.toNat * n)) H) := by
  unfold Instr.indexAt asIntOf sl
  simp only [pure_bind]
  rw [runH_underlying ht]
  simp only [pure_bind]
  rw [runH_underlying ht]
  simp only [Bool.and_false, Bool.false_eq_true, if_false]
  rw [runH_ite]
  by_cases h : 0 ≤ i ∧ i < (len : Int)
  · rw [if_pos h, runH_bind, hn, runH_pure, addr_add]
    simp [h, ptr]
  · rw [if_neg h, runH_boundsPanic]
    simp
    intro h1 h2; exact absurd ⟨h1, h2⟩ h
theorem index_array {t e : TypeId} {n N : Nat} (ht : P.underlying t = some (.array N e)) (hN : 1 < N) (hn : ∀ (k : Nat → Heap → Prop), runH P (sizeOf e) H k = k n H) (b o : Nat) (kd : IntKind) (i : Int) :
    runH P (Instr.indexAt t (ptr b o) (.int kd i)) H k = (0 ≤ i ∧ i < (N : Int) ∧ k (ptr b (o + i.toNat * n)) H) := by
  unfold Instr.indexAt asIntOf ptr
  simp only [pure_bind]
  rw [runH_underlying ht]
  simp only [Instr.sureAddr, pure_bind]
  rw [runH_underlying ht]
  have hN' : (decide (N ≤ 1)) = false := by simp; omega
  simp only [hN', Bool.false_and, Bool.false_eq_true, if_false]
  rw [runH_ite]
  by_cases h : 0 ≤ i ∧ i < (N : Int)
  · rw [if_pos h, runH_bind, hn, runH_pure, addr_add]
    simp [h]
  · rw [if_neg h, runH_boundsPanic]
    simp
    intro h1 h2; exact absurd ⟨h1, h2⟩ h
/-- a new block -/
structure Alloc (H : Heap) (o : Obj) (k : Value → Heap → Prop) : Prop where
  run : ∀ b, H b = none → k (ptr b 0) (upd H b (some o))
theorem Alloc.mono {o : Obj} (h : Alloc H o k) : Alloc H o (monoK H k) := ⟨fun b hb => ⟨Le.fresh (Le.refl H) hb _, h.run b hb⟩⟩
theorem Fn.useQ {f : FuncId} {args : Array Value} {x : Value} (h : Fn P f args H (fun v H' => v = x ∧ H' = H)) (hk : k x H) : Ex1 (fun v => Fn P f args H (isV v H)) k H :=
  ⟨x, h.mono fun _ _ ⟨e1, e2⟩ => ⟨e1, e2 ▸ Le.refl _⟩, hk⟩
theorem box_eq (t : TypeId) (v : Value) : runH P (Instr.box t v) H k = Alloc H (.cells v.cells t (0, 0)) k := by
  unfold Instr.box newVar newRow
  simp only [runH_bind, newObj, runH, runH_pure]
  exact propext ⟨fun h => ⟨h⟩, fun h => h.run⟩
theorem alloc_eq {t : TypeId} {v : Value} (hz : ∀ (k : Value → Heap → Prop), runH P (zeroValue t) H k = k v H) : runH P (Instr.alloc t true (.tuple #[])) H k = Alloc H (.cells v.cells t (0, 0)) k := by
  unfold Instr.alloc
  rw [runH_bind, hz]
  simp only [newVar, newRow, runH_bind, newObj, runH, runH_pure]
  exact propext ⟨fun h => ⟨h⟩, fun h => h.run⟩
theorem len_slice {t e ty : TypeId} (ht : P.underlying t = some (.slice e)) (a : Option Addr) (n c : Nat) : runH P (Builtin.len_ #[t] ty #[.slice a n c]) H k = k (.int .i64 n) H := by
  unfold Builtin.len_
  simp only [List.getElem?_toArray, List.getElem?_cons_zero]
  rw [runH_underlying ht]
  rfl
theorem len_sl {t e ty : TypeId} (ht : P.underlying t = some (.slice e)) (b o n c : Nat) : runH P (Builtin.len_ #[t] ty #[sl b o n c]) H k = k (.int .i64 n) H := len_slice ht _ n c
theorem len_str {t ty : TypeId} (ht : P.underlying t = some .string) (s : ByteArray) : runH P (Builtin.len_ #[t] ty #[.string s]) H k = k (.int .i64 s.size) H := by
  unfold Builtin.len_
  simp only [List.getElem?_toArray, List.getElem?_cons_zero]
  rw [runH_underlying ht]
  rfl
theorem not_bool (b : Bool) : runH P (Op.unary .not (.bool b)) H k = k (.bool !b) H := rfl
theorem min_i64 (ts : Array TypeId) (ty : TypeId) (x y : Int) : runH P (Builtin.min_ ts ty #[.int .i64 x, .int .i64 y]) H k = k (.int .i64 (min x y)) H := by
  have : (if y < x then y else x) = min x y := by rw [Int.min_def]; split <;> split <;> omega
  rw [← this]; rfl
theorem max_i64 (ts : Array TypeId) (ty : TypeId) (x y : Int) : runH P (Builtin.max_ ts ty #[.int .i64 x, .int .i64 y]) H k = k (.int .i64 (max x y)) H := by
  have : (if x < y then y else x) = max x y := by rw [Int.max_def]; split <;> split <;> omega
  rw [← this]; rfl
theorem min_u16 (ts : Array TypeId) (ty : TypeId) (x y : UInt16) : runH P (Builtin.min_ ts ty #[u16 x, u16 y]) H k = k (u16 (min x y)) H := by
  have : Value.int .u16 (if (y.toNat : Int) < (x.toNat : Int) then (y.toNat : Int) else (x.toNat : Int)) = u16 (min x y) := by
    unfold u16
    congr 1
    show _ = ((if x ≤ y then x else y).toNat : Int)
    by_cases h : x ≤ y
    · have h' := UInt16.le_iff_toNat_le.1 h
      rw [if_pos h, if_neg (by omega)]
    · have h' : ¬ x.toNat ≤ y.toNat := fun e => h (UInt16.le_iff_toNat_le.2 e)
      rw [if_neg h, if_pos (by omega)]
  rw [← this]; rfl
theorem max_u16 (ts : Array TypeId) (ty : TypeId) (x y : UInt16) : runH P (Builtin.max_ ts ty #[u16 x, u16 y]) H k = k (u16 (max x y)) H := by
  have : Value.int .u16 (if (x.toNat : Int) < (y.toNat : Int) then (y.toNat : Int) else (x.toNat : Int)) = u16 (max x y) := by
    unfold u16
    congr 1
    show _ = ((if x ≤ y then y else x).toNat : Int)
    by_cases h : x ≤ y
    · have h' := UInt16.le_iff_toNat_le.1 h
      rw [if_pos h]; split <;> omega
    · have h' : ¬ x.toNat ≤ y.toNat := fun e => h (UInt16.le_iff_toNat_le.2 e)
      rw [if_neg h, if_neg (by omega)]
  rw [← this]; rfl
theorem extract_tuple (l : List Value) (i : Nat) : runH P (Instr.extract (.tuple l.toArray) i) H k = rdK l[i]? (fun v => k v H) := by
  unfold Instr.extract
  simp only [List.getElem?_toArray]
  cases l[i]? <;> rfl
theorem agg_cells (c : Array Value) : (Value.agg c).cells = c := rfl
def resC (v : Value) (t : TypeId) : Sem Value :=
  match v with
  | .pointer (some ad) => loadVar t ad
  | _ => stuck "no result"
theorem res_tmp (T : Env) (t : Tmp) : runH P (resOne T (.tmp t)) H k = k (T t) H := rfl
theorem res_cell (T : Env) (a : Tmp) (t : TypeId) : runH P (resOne T (.cell a t)) H k = runH P (resC (T a) t) H k := rfl
theorem resC_ptr (b o : Nat) (t : TypeId) : runH P (resC (ptr b o) t) H k = runH P (Instr.loadAt t (ptr b o)) H k := rfl
theorem oneCell_u8 (x : UInt8) : (u8 x).oneCell' = true := rfl
theorem oneCell_u16 (x : UInt16) : (u16 x).oneCell' = true := rfl
theorem oneCell_u32 (x : UInt32) : (u32 x).oneCell' = true := rfl
theorem oneCell_u64 (x : UInt64) : (u64 x).oneCell' = true := rfl
theorem oneCell_i16 (x : Int16) : (i16 x).oneCell' = true := rfl
theorem oneCell_int (kd : IntKind) (x : Int) : (Value.int kd x).oneCell' = true := rfl
theorem oneCell_bool (x : Bool) : (Value.bool x).oneCell' = true := rfl
theorem oneCell_ptr (b o : Nat) : (ptr b o).oneCell' = true := rfl
theorem oneCell_pointer (a : Option Addr) : (Value.pointer a).oneCell' = true := rfl
theorem oneCell_sl (b o l c : Nat) : (sl b o l c).oneCell' = true := rfl
theorem oneCell_slice (a : Option Addr) (l c : Nat) : (Value.slice a l c).oneCell' = true := rfl
theorem oneCell_string (s : ByteArray) : (Value.string s).oneCell' = true := rfl
theorem rd_upd (b : Nat) (x : Option Obj) (b' o : Nat) : rd (upd H b x) b' o = if b' = b then rdO x o else rd H b' o := by
  rw [rd_eq, upd_get]; split
  · rfl
  · rw [rd_eq]
theorem rdsK2 (b o : Nat) (k : List Value → Prop) : rdsK H b o 2 [] k = rdK (rd H b o) (fun v0 => rdK (rd H b (o + 1)) (fun v1 => k [v0, v1])) := rfl
theorem rdsK4 (b o : Nat) (k : List Value → Prop) : rdsK H b o 4 [] k = rdK (rd H b o) (fun v0 => rdK (rd H b (o + 1)) (fun v1 => rdK (rd H b (o + 2)) (fun v2 => rdK (rd H b (o + 3)) (fun v3 => k [v0, v1, v2, v3])))) := rfl
theorem rdsK6 (b o : Nat) (k : List Value → Prop) : rdsK H b o 6 [] k = rdK (rd H b o) (fun v0 => rdK (rd H b (o + 1)) (fun v1 => rdK (rd H b (o + 2)) (fun v2 => rdK (rd H b (o + 3)) (fun v3 => rdK (rd H b (o + 4)) (fun v4 => rdK (rd H b (o + 5)) (fun v5 => k [v0, v1, v2, v3, v4, v5])))))) := rfl
theorem rdsK8 (b o : Nat) (k : List Value → Prop) : rdsK H b o 8 [] k = rdK (rd H b o) (fun v0 => rdK (rd H b (o + 1)) (fun v1 => rdK (rd H b (o + 2)) (fun v2 => rdK (rd H b (o + 3)) (fun v3 => rdK (rd H b (o + 4)) (fun v4 => rdK (rd H b (o + 5)) (fun v5 => rdK (rd H b (o + 6)) (fun v6 => rdK (rd H b (o + 7)) (fun v7 => k [v0, v1, v2, v3, v4, v5, v6, v7])))))))) := rfl
theorem rdsK10 (b o : Nat) (k : List Value → Prop) : rdsK H b o 10 [] k = rdK (rd H b o) (fun v0 => rdK (rd H b (o + 1)) (fun v1 => rdK (rd H b (o + 2)) (fun v2 => rdK (rd H b (o + 3)) (fun v3 => rdK (rd H b (o + 4)) (fun v4 => rdK (rd H b (o + 5)) (fun v5 => rdK (rd H b (o + 6)) (fun v6 => rdK (rd H b (o + 7)) (fun v7 => rdK (rd H b (o + 8)) (fun v8 => rdK (rd H b (o + 9)) (fun v9 => k [v0, v1, v2, v3, v4, v5, v6, v7, v8, v9])))))))))) := rfl
theorem wrsK_nil (b o : Nat) (k : Heap → Prop) : wrsK b o [] H k = k H := rfl
theorem wrsK_cons (b o : Nat) (v : Value) (l : List Value) (k : Heap → Prop) : wrsK b o (v :: l) H k = (wrOk (H b) o ∧ wrsK b (o + 1) l (upd H b (wrO (H b) o v)) k) := rfl
end

section
variable {H : Heap} {k : Value → Heap → Prop}
theorem cv_194_30 (a : UInt32) : runH Fabg.prog (convert 194 30 (u32 a)) H k = k (u64 (a.toUInt64)) H := by
  refine (conv_int Fabg.underlying194 Fabg.underlying30 _).trans ?_
  rw [u64_of, toU64_nat]
  congr 2
  apply UInt64.toNat_inj.1
  have h := a.toNat_lt
  simp
theorem cv_194_5 (a : UInt32) : runH Fabg.prog (convert 194 5 (u32 a)) H k = k (u8 (a.toUInt8)) H := by
  refine (conv_int Fabg.underlying194 Fabg.underlying5 _).trans ?_
  rw [u8_of, toU8_nat]
  congr 2
theorem cv_194_50 (a : UInt32) : runH Fabg.prog (convert 194 50 (u32 a)) H k = k (u16 (a.toUInt16)) H := by
  refine (conv_int Fabg.underlying194 Fabg.underlying50 _).trans ?_
  rw [u16_of, toU16_nat]
  congr 2
theorem cv_2_21 (a : Int) : runH Fabg.prog (convert 2 21 (.int .i64 a)) H k = k (.int .i32 (w32 a)) H := conv_int Fabg.underlying2 Fabg.underlying21 _
theorem cv_21_30 (a : Int) : runH Fabg.prog (convert 21 30 (.int .i32 a)) H k = k (u64 (toU64 a)) H := by
  refine (conv_int Fabg.underlying21 Fabg.underlying30 _).trans ?_
  rw [u64_of]
theorem cv_21_50 (a : Int) : runH Fabg.prog (convert 21 50 (.int .i32 a)) H k = k (u16 (toU16 a)) H := by
  refine (conv_int Fabg.underlying21 Fabg.underlying50 _).trans ?_
  rw [u16_of]
theorem cv_23_3 (a : Int16) : runH Fabg.prog (convert 23 3 (i16 a)) H k = k (.int .i64 a.toInt) H := by
  refine (conv_int Fabg.underlying23 Fabg.underlying3 _).trans ?_
  have h := i16_rng a
  have e : IntKind.i64.wrap a.toInt = a.toInt := w64_id (by omega) (by omega)
  rw [e]
theorem cv_23_5 (a : Int16) : runH Fabg.prog (convert 23 5 (i16 a)) H k = k (u8 (toU8 a.toInt)) H := by
  refine (conv_int Fabg.underlying23 Fabg.underlying5 _).trans ?_
  rw [u8_of]
theorem cv_3_146 (a : Int) : runH Fabg.prog (convert 3 146 (.int .i64 a)) H k = k (u64 (toU64 a)) H := by
  refine (conv_int Fabg.underlying3 Fabg.underlying146 _).trans ?_
  rw [u64_of]
theorem cv_3_194 (a : Int) : runH Fabg.prog (convert 3 194 (.int .i64 a)) H k = k (u32 (toU32 a)) H := by
  refine (conv_int Fabg.underlying3 Fabg.underlying194 _).trans ?_
  rw [u32_of]
theorem cv_3_21 (a : Int) : runH Fabg.prog (convert 3 21 (.int .i64 a)) H k = k (.int .i32 (w32 a)) H := conv_int Fabg.underlying3 Fabg.underlying21 _
theorem cv_3_23 (a : Int) : runH Fabg.prog (convert 3 23 (.int .i64 a)) H k = k (i16 (Int16.ofInt a)) H := by
  refine (conv_int Fabg.underlying3 Fabg.underlying23 _).trans ?_
  rw [i16_of]
theorem cv_3_5 (a : Int) : runH Fabg.prog (convert 3 5 (.int .i64 a)) H k = k (u8 (toU8 a)) H := by
  refine (conv_int Fabg.underlying3 Fabg.underlying5 _).trans ?_
  rw [u8_of]
theorem cv_3_50 (a : Int) : runH Fabg.prog (convert 3 50 (.int .i64 a)) H k = k (u16 (toU16 a)) H := by
  refine (conv_int Fabg.underlying3 Fabg.underlying50 _).trans ?_
  rw [u16_of]
theorem cv_30_2 (a : UInt64) : runH Fabg.prog (convert 30 2 (u64 a)) H k = k (.int .i64 (w64 (a.toNat : Int))) H := conv_int Fabg.underlying30 Fabg.underlying2 _
theorem cv_30_21 (a : UInt64) : runH Fabg.prog (convert 30 21 (u64 a)) H k = k (.int .i32 (w32 (a.toNat : Int))) H := conv_int Fabg.underlying30 Fabg.underlying21 _
theorem cv_30_5 (a : UInt64) : runH Fabg.prog (convert 30 5 (u64 a)) H k = k (u8 (a.toUInt8)) H := by
  refine (conv_int Fabg.underlying30 Fabg.underlying5 _).trans ?_
  rw [u8_of, toU8_nat]
  congr 2
theorem cv_30_50 (a : UInt64) : runH Fabg.prog (convert 30 50 (u64 a)) H k = k (u16 (a.toUInt16)) H := by
  refine (conv_int Fabg.underlying30 Fabg.underlying50 _).trans ?_
  rw [u16_of, toU16_nat]
  congr 2
theorem cv_5_194 (a : UInt8) : runH Fabg.prog (convert 5 194 (u8 a)) H k = k (u32 (a.toUInt32)) H := by
  refine (conv_int Fabg.underlying5 Fabg.underlying194 _).trans ?_
  rw [u32_of, toU32_nat]
  congr 2
  apply UInt32.toNat_inj.1
  have h := a.toNat_lt
  simp
theorem cv_5_21 (a : UInt8) : runH Fabg.prog (convert 5 21 (u8 a)) H k = k (.int .i32 (a.toNat : Int)) H := by
  refine (conv_int Fabg.underlying5 Fabg.underlying21 _).trans ?_
  have h := a.toNat_lt
  have e : IntKind.i32.wrap (a.toNat : Int) = (a.toNat : Int) := w32_id (by omega) (by omega)
  rw [e]
theorem cv_5_23 (a : UInt8) : runH Fabg.prog (convert 5 23 (u8 a)) H k = k (i16 (Int16.ofInt (a.toNat : Int))) H := by
  refine (conv_int Fabg.underlying5 Fabg.underlying23 _).trans ?_
  rw [i16_of]
theorem cv_5_3 (a : UInt8) : runH Fabg.prog (convert 5 3 (u8 a)) H k = k (.int .i64 (a.toNat : Int)) H := by
  refine (conv_int Fabg.underlying5 Fabg.underlying3 _).trans ?_
  have h := a.toNat_lt
  have e : IntKind.i64.wrap (a.toNat : Int) = (a.toNat : Int) := w64_id (by omega) (by omega)
  rw [e]
theorem cv_5_30 (a : UInt8) : runH Fabg.prog (convert 5 30 (u8 a)) H k = k (u64 (a.toUInt64)) H := by
  refine (conv_int Fabg.underlying5 Fabg.underlying30 _).trans ?_
  rw [u64_of, toU64_nat]
  congr 2
  apply UInt64.toNat_inj.1
  have h := a.toNat_lt
  simp
theorem cv_5_50 (a : UInt8) : runH Fabg.prog (convert 5 50 (u8 a)) H k = k (u16 (a.toUInt16)) H := by
  refine (conv_int Fabg.underlying5 Fabg.underlying50 _).trans ?_
  rw [u16_of, toU16_nat]
  congr 2
  apply UInt16.toNat_inj.1
  have h := a.toNat_lt
  simp
theorem cv_50_194 (a : UInt16) : runH Fabg.prog (convert 50 194 (u16 a)) H k = k (u32 (a.toUInt32)) H := by
  refine (conv_int Fabg.underlying50 Fabg.underlying194 _).trans ?_
  rw [u32_of, toU32_nat]
  congr 2
  apply UInt32.toNat_inj.1
  have h := a.toNat_lt
  simp
theorem cv_50_21 (a : UInt16) : runH Fabg.prog (convert 50 21 (u16 a)) H k = k (.int .i32 (a.toNat : Int)) H := by
  refine (conv_int Fabg.underlying50 Fabg.underlying21 _).trans ?_
  have h := a.toNat_lt
  have e : IntKind.i32.wrap (a.toNat : Int) = (a.toNat : Int) := w32_id (by omega) (by omega)
  rw [e]
theorem cv_50_3 (a : UInt16) : runH Fabg.prog (convert 50 3 (u16 a)) H k = k (.int .i64 (a.toNat : Int)) H := by
  refine (conv_int Fabg.underlying50 Fabg.underlying3 _).trans ?_
  have h := a.toNat_lt
  have e : IntKind.i64.wrap (a.toNat : Int) = (a.toNat : Int) := w64_id (by omega) (by omega)
  rw [e]
theorem cv_50_30 (a : UInt16) : runH Fabg.prog (convert 50 30 (u16 a)) H k = k (u64 (a.toUInt64)) H := by
  refine (conv_int Fabg.underlying50 Fabg.underlying30 _).trans ?_
  rw [u64_of, toU64_nat]
  congr 2
  apply UInt64.toNat_inj.1
  have h := a.toNat_lt
  simp
theorem cv_50_5 (a : UInt16) : runH Fabg.prog (convert 50 5 (u16 a)) H k = k (u8 (a.toUInt8)) H := by
  refine (conv_int Fabg.underlying50 Fabg.underlying5 _).trans ?_
  rw [u8_of, toU8_nat]
  congr 2
theorem ld_3 (b o : Nat) : runH Fabg.prog (Instr.loadAt 3 (ptr b o)) H k = rdK (rd H b o) (fun v => k v H) := load1 Fabg.underlying3 rfl b o
theorem ld_4 (b o : Nat) : runH Fabg.prog (Instr.loadAt 4 (ptr b o)) H k = rdK (rd H b o) (fun v => k v H) := load1 Fabg.underlying4 rfl b o
theorem ld_5 (b o : Nat) : runH Fabg.prog (Instr.loadAt 5 (ptr b o)) H k = rdK (rd H b o) (fun v => k v H) := load1 Fabg.underlying5 rfl b o
theorem ld_9 (b o : Nat) : runH Fabg.prog (Instr.loadAt 9 (ptr b o)) H k = rdK (rd H b o) (fun v => k v H) := load1 Fabg.underlying9 rfl b o
theorem ld_22 (b o : Nat) : runH Fabg.prog (Instr.loadAt 22 (ptr b o)) H k = rdK (rd H b o) (fun v => k v H) := load1 Fabg.underlying22 rfl b o
theorem ld_23 (b o : Nat) : runH Fabg.prog (Instr.loadAt 23 (ptr b o)) H k = rdK (rd H b o) (fun v => k v H) := load1 Fabg.underlying23 rfl b o
theorem ld_26 (b o : Nat) : runH Fabg.prog (Instr.loadAt 26 (ptr b o)) H k = rdK (rd H b o) (fun v => k v H) := load1 Fabg.underlying26 rfl b o
theorem ld_29 (b o : Nat) : runH Fabg.prog (Instr.loadAt 29 (ptr b o)) H k = rdK (rd H b o) (fun v => k v H) := load1 Fabg.underlying29 rfl b o
theorem ld_30 (b o : Nat) : runH Fabg.prog (Instr.loadAt 30 (ptr b o)) H k = rdK (rd H b o) (fun v => k v H) := load1 Fabg.underlying30 rfl b o
theorem ld_39 (b o : Nat) : runH Fabg.prog (Instr.loadAt 39 (ptr b o)) H k = rdK (rd H b o) (fun v => k v H) := load1 Fabg.underlying39 rfl b o
theorem ld_50 (b o : Nat) : runH Fabg.prog (Instr.loadAt 50 (ptr b o)) H k = rdK (rd H b o) (fun v => k v H) := load1 Fabg.underlying50 rfl b o
theorem ld_55 (b o : Nat) : runH Fabg.prog (Instr.loadAt 55 (ptr b o)) H k = rdK (rd H b o) (fun v => k v H) := load1 Fabg.underlying55 rfl b o
theorem ld_74 (b o : Nat) : runH Fabg.prog (Instr.loadAt 74 (ptr b o)) H k = rdK (rd H b o) (fun v => k v H) := load1 Fabg.underlying74 rfl b o
theorem ld_75 (b o : Nat) : runH Fabg.prog (Instr.loadAt 75 (ptr b o)) H k = rdK (rd H b o) (fun v => k v H) := load1 Fabg.underlying75 rfl b o
theorem ld_100 (b o : Nat) : runH Fabg.prog (Instr.loadAt 100 (ptr b o)) H k = rdK (rd H b o) (fun v => k v H) := load1 Fabg.underlying100 rfl b o
theorem ld_47 (b o : Nat) : runH Fabg.prog (Instr.loadAt 47 (ptr b o)) H k = rdK (rd H b o) (fun v => k v H) := load1 Fabg.underlying47 rfl b o
theorem ldN_31 (b o : Nat) : runH Fabg.prog (Instr.loadAt 31 (ptr b o)) H k = rdsK H b o 4 [] (fun vs => k (.agg vs.toArray) H) := loadN (fun _ => by kernel_rfl) (fun _ => by kernel_rfl) b o
theorem ldN_52 (b o : Nat) : runH Fabg.prog (Instr.loadAt 52 (ptr b o)) H k = rdsK H b o 8 [] (fun vs => k (.agg vs.toArray) H) := loadN (fun _ => by kernel_rfl) (fun _ => by kernel_rfl) b o
theorem ldN_60 (b o : Nat) : runH Fabg.prog (Instr.loadAt 60 (ptr b o)) H k = rdsK H b o 6 [] (fun vs => k (.agg vs.toArray) H) := loadN (fun _ => by kernel_rfl) (fun _ => by kernel_rfl) b o
theorem ldN_62 (b o : Nat) : runH Fabg.prog (Instr.loadAt 62 (ptr b o)) H k = rdsK H b o 10 [] (fun vs => k (.agg vs.toArray) H) := loadN (fun _ => by kernel_rfl) (fun _ => by kernel_rfl) b o
theorem ldN_93 (b o : Nat) : runH Fabg.prog (Instr.loadAt 93 (ptr b o)) H k = rdsK H b o 2 [] (fun vs => k (.agg vs.toArray) H) := loadN (fun _ => by kernel_rfl) (fun _ => by kernel_rfl) b o
theorem ldN_96 (b o : Nat) : runH Fabg.prog (Instr.loadAt 96 (ptr b o)) H k = rdsK H b o 1027 [] (fun vs => k (.agg vs.toArray) H) := loadN (fun _ => by kernel_rfl) (fun _ => by kernel_rfl) b o
theorem ldN_102 (b o : Nat) : runH Fabg.prog (Instr.loadAt 102 (ptr b o)) H k = rdsK H b o 4 [] (fun vs => k (.agg vs.toArray) H) := loadN (fun _ => by kernel_rfl) (fun _ => by kernel_rfl) b o
theorem ldN_104 (b o : Nat) : runH Fabg.prog (Instr.loadAt 104 (ptr b o)) H k = rdsK H b o 2 [] (fun vs => k (.agg vs.toArray) H) := loadN (fun _ => by kernel_rfl) (fun _ => by kernel_rfl) b o
theorem ldN_107 (b o : Nat) : runH Fabg.prog (Instr.loadAt 107 (ptr b o)) H k = rdsK H b o 517 [] (fun vs => k (.agg vs.toArray) H) := loadN (fun _ => by kernel_rfl) (fun _ => by kernel_rfl) b o
theorem ldN_114 (b o : Nat) : runH Fabg.prog (Instr.loadAt 114 (ptr b o)) H k = rdsK H b o 4 [] (fun vs => k (.agg vs.toArray) H) := loadN (fun _ => by kernel_rfl) (fun _ => by kernel_rfl) b o
theorem ldN_206 (b o : Nat) : runH Fabg.prog (Instr.loadAt 206 (ptr b o)) H k = rdsK H b o 2 [] (fun vs => k (.agg vs.toArray) H) := loadN (fun _ => by kernel_rfl) (fun _ => by kernel_rfl) b o
theorem ldN_136 (b o : Nat) : runH Fabg.prog (Instr.loadAt 136 (ptr b o)) H k = rdsK H b o 4 [] (fun vs => k (.agg vs.toArray) H) := loadN (fun _ => by kernel_rfl) (fun _ => by kernel_rfl) b o
theorem ldN_25 (b o : Nat) : runH Fabg.prog (Instr.loadAt 25 (ptr b o)) H k = rdsK H b o 2 [] (fun vs => k (.agg vs.toArray) H) := loadN (fun _ => by kernel_rfl) (fun _ => by kernel_rfl) b o
theorem ldN_57 (b o : Nat) : runH Fabg.prog (Instr.loadAt 57 (ptr b o)) H k = rdsK H b o 2 [] (fun vs => k (.agg vs.toArray) H) := loadN (fun _ => by kernel_rfl) (fun _ => by kernel_rfl) b o
theorem ldN_77 (b o : Nat) : runH Fabg.prog (Instr.loadAt 77 (ptr b o)) H k = rdsK H b o 10 [] (fun vs => k (.agg vs.toArray) H) := loadN (fun _ => by kernel_rfl) (fun _ => by kernel_rfl) b o
theorem st_3 (b o : Nat) (v : Value) (hv : v.oneCell' = true) : runH Fabg.prog (Instr.storeAt 3 (ptr b o) v) H (stK k) = (wrOk (H b) o ∧ k undef (upd H b (wrO (H b) o v))) := store1 (fun _ => by kernel_rfl) b o v hv
theorem st_4 (b o : Nat) (v : Value) (hv : v.oneCell' = true) : runH Fabg.prog (Instr.storeAt 4 (ptr b o) v) H (stK k) = (wrOk (H b) o ∧ k undef (upd H b (wrO (H b) o v))) := store1 (fun _ => by kernel_rfl) b o v hv
theorem st_5 (b o : Nat) (v : Value) (hv : v.oneCell' = true) : runH Fabg.prog (Instr.storeAt 5 (ptr b o) v) H (stK k) = (wrOk (H b) o ∧ k undef (upd H b (wrO (H b) o v))) := store1 (fun _ => by kernel_rfl) b o v hv
theorem st_9 (b o : Nat) (v : Value) (hv : v.oneCell' = true) : runH Fabg.prog (Instr.storeAt 9 (ptr b o) v) H (stK k) = (wrOk (H b) o ∧ k undef (upd H b (wrO (H b) o v))) := store1 (fun _ => by kernel_rfl) b o v hv
theorem st_22 (b o : Nat) (v : Value) (hv : v.oneCell' = true) : runH Fabg.prog (Instr.storeAt 22 (ptr b o) v) H (stK k) = (wrOk (H b) o ∧ k undef (upd H b (wrO (H b) o v))) := store1 (fun _ => by kernel_rfl) b o v hv
theorem st_23 (b o : Nat) (v : Value) (hv : v.oneCell' = true) : runH Fabg.prog (Instr.storeAt 23 (ptr b o) v) H (stK k) = (wrOk (H b) o ∧ k undef (upd H b (wrO (H b) o v))) := store1 (fun _ => by kernel_rfl) b o v hv
theorem st_26 (b o : Nat) (v : Value) (hv : v.oneCell' = true) : runH Fabg.prog (Instr.storeAt 26 (ptr b o) v) H (stK k) = (wrOk (H b) o ∧ k undef (upd H b (wrO (H b) o v))) := store1 (fun _ => by kernel_rfl) b o v hv
theorem st_29 (b o : Nat) (v : Value) (hv : v.oneCell' = true) : runH Fabg.prog (Instr.storeAt 29 (ptr b o) v) H (stK k) = (wrOk (H b) o ∧ k undef (upd H b (wrO (H b) o v))) := store1 (fun _ => by kernel_rfl) b o v hv
theorem st_30 (b o : Nat) (v : Value) (hv : v.oneCell' = true) : runH Fabg.prog (Instr.storeAt 30 (ptr b o) v) H (stK k) = (wrOk (H b) o ∧ k undef (upd H b (wrO (H b) o v))) := store1 (fun _ => by kernel_rfl) b o v hv
theorem st_39 (b o : Nat) (v : Value) (hv : v.oneCell' = true) : runH Fabg.prog (Instr.storeAt 39 (ptr b o) v) H (stK k) = (wrOk (H b) o ∧ k undef (upd H b (wrO (H b) o v))) := store1 (fun _ => by kernel_rfl) b o v hv
theorem st_50 (b o : Nat) (v : Value) (hv : v.oneCell' = true) : runH Fabg.prog (Instr.storeAt 50 (ptr b o) v) H (stK k) = (wrOk (H b) o ∧ k undef (upd H b (wrO (H b) o v))) := store1 (fun _ => by kernel_rfl) b o v hv
theorem st_55 (b o : Nat) (v : Value) (hv : v.oneCell' = true) : runH Fabg.prog (Instr.storeAt 55 (ptr b o) v) H (stK k) = (wrOk (H b) o ∧ k undef (upd H b (wrO (H b) o v))) := store1 (fun _ => by kernel_rfl) b o v hv
theorem st_74 (b o : Nat) (v : Value) (hv : v.oneCell' = true) : runH Fabg.prog (Instr.storeAt 74 (ptr b o) v) H (stK k) = (wrOk (H b) o ∧ k undef (upd H b (wrO (H b) o v))) := store1 (fun _ => by kernel_rfl) b o v hv
theorem st_75 (b o : Nat) (v : Value) (hv : v.oneCell' = true) : runH Fabg.prog (Instr.storeAt 75 (ptr b o) v) H (stK k) = (wrOk (H b) o ∧ k undef (upd H b (wrO (H b) o v))) := store1 (fun _ => by kernel_rfl) b o v hv
theorem st_100 (b o : Nat) (v : Value) (hv : v.oneCell' = true) : runH Fabg.prog (Instr.storeAt 100 (ptr b o) v) H (stK k) = (wrOk (H b) o ∧ k undef (upd H b (wrO (H b) o v))) := store1 (fun _ => by kernel_rfl) b o v hv
theorem stN_31 (b o : Nat) (v0 v1 v2 v3 : Value) (hv : [v0, v1, v2, v3].all Value.oneCell' = true) : runH Fabg.prog (Instr.storeAt 31 (ptr b o) (.agg #[v0, v1, v2, v3])) H (stK k) = (wrsOk (H b) o 4 ∧ k undef (upd H b (wrsO (H b) o [v0, v1, v2, v3]))) := storeL (n := 3) (fun _ => by kernel_rfl) b o _ rfl hv
theorem stN_52 (b o : Nat) (v0 v1 v2 v3 v4 v5 v6 v7 : Value) (hv : [v0, v1, v2, v3, v4, v5, v6, v7].all Value.oneCell' = true) : runH Fabg.prog (Instr.storeAt 52 (ptr b o) (.agg #[v0, v1, v2, v3, v4, v5, v6, v7])) H (stK k) = (wrsOk (H b) o 8 ∧ k undef (upd H b (wrsO (H b) o [v0, v1, v2, v3, v4, v5, v6, v7]))) := storeL (n := 7) (fun _ => by kernel_rfl) b o _ rfl hv
theorem stN_60 (b o : Nat) (v0 v1 v2 v3 v4 v5 : Value) (hv : [v0, v1, v2, v3, v4, v5].all Value.oneCell' = true) : runH Fabg.prog (Instr.storeAt 60 (ptr b o) (.agg #[v0, v1, v2, v3, v4, v5])) H (stK k) = (wrsOk (H b) o 6 ∧ k undef (upd H b (wrsO (H b) o [v0, v1, v2, v3, v4, v5]))) := storeL (n := 5) (fun _ => by kernel_rfl) b o _ rfl hv
theorem stN_62 (b o : Nat) (v0 v1 v2 v3 v4 v5 v6 v7 v8 v9 : Value) (hv : [v0, v1, v2, v3, v4, v5, v6, v7, v8, v9].all Value.oneCell' = true) : runH Fabg.prog (Instr.storeAt 62 (ptr b o) (.agg #[v0, v1, v2, v3, v4, v5, v6, v7, v8, v9])) H (stK k) = (wrsOk (H b) o 10 ∧ k undef (upd H b (wrsO (H b) o [v0, v1, v2, v3, v4, v5, v6, v7, v8, v9]))) := storeL (n := 9) (fun _ => by kernel_rfl) b o _ rfl hv
theorem stN_93 (b o : Nat) (v0 v1 : Value) (hv : [v0, v1].all Value.oneCell' = true) : runH Fabg.prog (Instr.storeAt 93 (ptr b o) (.agg #[v0, v1])) H (stK k) = (wrsOk (H b) o 2 ∧ k undef (upd H b (wrsO (H b) o [v0, v1]))) := storeL (n := 1) (fun _ => by kernel_rfl) b o _ rfl hv
theorem stN_102 (b o : Nat) (v0 v1 v2 v3 : Value) (hv : [v0, v1, v2, v3].all Value.oneCell' = true) : runH Fabg.prog (Instr.storeAt 102 (ptr b o) (.agg #[v0, v1, v2, v3])) H (stK k) = (wrsOk (H b) o 4 ∧ k undef (upd H b (wrsO (H b) o [v0, v1, v2, v3]))) := storeL (n := 3) (fun _ => by kernel_rfl) b o _ rfl hv
theorem stN_104 (b o : Nat) (v0 v1 : Value) (hv : [v0, v1].all Value.oneCell' = true) : runH Fabg.prog (Instr.storeAt 104 (ptr b o) (.agg #[v0, v1])) H (stK k) = (wrsOk (H b) o 2 ∧ k undef (upd H b (wrsO (H b) o [v0, v1]))) := storeL (n := 1) (fun _ => by kernel_rfl) b o _ rfl hv
theorem stN_114 (b o : Nat) (v0 v1 v2 v3 : Value) (hv : [v0, v1, v2, v3].all Value.oneCell' = true) : runH Fabg.prog (Instr.storeAt 114 (ptr b o) (.agg #[v0, v1, v2, v3])) H (stK k) = (wrsOk (H b) o 4 ∧ k undef (upd H b (wrsO (H b) o [v0, v1, v2, v3]))) := storeL (n := 3) (fun _ => by kernel_rfl) b o _ rfl hv
theorem stN_206 (b o : Nat) (v0 v1 : Value) (hv : [v0, v1].all Value.oneCell' = true) : runH Fabg.prog (Instr.storeAt 206 (ptr b o) (.agg #[v0, v1])) H (stK k) = (wrsOk (H b) o 2 ∧ k undef (upd H b (wrsO (H b) o [v0, v1]))) := storeL (n := 1) (fun _ => by kernel_rfl) b o _ rfl hv
theorem stN_136 (b o : Nat) (v0 v1 v2 v3 : Value) (hv : [v0, v1, v2, v3].all Value.oneCell' = true) : runH Fabg.prog (Instr.storeAt 136 (ptr b o) (.agg #[v0, v1, v2, v3])) H (stK k) = (wrsOk (H b) o 4 ∧ k undef (upd H b (wrsO (H b) o [v0, v1, v2, v3]))) := storeL (n := 3) (fun _ => by kernel_rfl) b o _ rfl hv
theorem stN_25 (b o : Nat) (v0 v1 : Value) (hv : [v0, v1].all Value.oneCell' = true) : runH Fabg.prog (Instr.storeAt 25 (ptr b o) (.agg #[v0, v1])) H (stK k) = (wrsOk (H b) o 2 ∧ k undef (upd H b (wrsO (H b) o [v0, v1]))) := storeL (n := 1) (fun _ => by kernel_rfl) b o _ rfl hv
theorem stN_57 (b o : Nat) (v0 v1 : Value) (hv : [v0, v1].all Value.oneCell' = true) : runH Fabg.prog (Instr.storeAt 57 (ptr b o) (.agg #[v0, v1])) H (stK k) = (wrsOk (H b) o 2 ∧ k undef (upd H b (wrsO (H b) o [v0, v1]))) := storeL (n := 1) (fun _ => by kernel_rfl) b o _ rfl hv
theorem stN_77 (b o : Nat) (v0 v1 v2 v3 v4 v5 v6 v7 v8 v9 : Value) (hv : [v0, v1, v2, v3, v4, v5, v6, v7, v8, v9].all Value.oneCell' = true) : runH Fabg.prog (Instr.storeAt 77 (ptr b o) (.agg #[v0, v1, v2, v3, v4, v5, v6, v7, v8, v9])) H (stK k) = (wrsOk (H b) o 10 ∧ k undef (upd H b (wrsO (H b) o [v0, v1, v2, v3, v4, v5, v6, v7, v8, v9]))) := storeL (n := 9) (fun _ => by kernel_rfl) b o _ rfl hv
theorem fa_102_0 (b o : Nat) : runH Fabg.prog (Instr.fieldAt 102 (ptr b o) 0) H k = k (ptr b (o + 0)) H := by kernel_rfl
theorem fa_102_1 (b o : Nat) : runH Fabg.prog (Instr.fieldAt 102 (ptr b o) 1) H k = k (ptr b (o + 1)) H := by kernel_rfl
theorem fa_102_2 (b o : Nat) : runH Fabg.prog (Instr.fieldAt 102 (ptr b o) 2) H k = k (ptr b (o + 2)) H := by kernel_rfl
theorem fa_102_3 (b o : Nat) : runH Fabg.prog (Instr.fieldAt 102 (ptr b o) 3) H k = k (ptr b (o + 3)) H := by kernel_rfl
theorem fa_104_0 (b o : Nat) : runH Fabg.prog (Instr.fieldAt 104 (ptr b o) 0) H k = k (ptr b (o + 0)) H := by kernel_rfl
theorem fa_104_1 (b o : Nat) : runH Fabg.prog (Instr.fieldAt 104 (ptr b o) 1) H k = k (ptr b (o + 1)) H := by kernel_rfl
theorem fa_107_0 (b o : Nat) : runH Fabg.prog (Instr.fieldAt 107 (ptr b o) 0) H k = k (ptr b (o + 0)) H := by kernel_rfl
theorem fa_107_1 (b o : Nat) : runH Fabg.prog (Instr.fieldAt 107 (ptr b o) 1) H k = k (ptr b (o + 4)) H := by kernel_rfl
theorem fa_107_2 (b o : Nat) : runH Fabg.prog (Instr.fieldAt 107 (ptr b o) 2) H k = k (ptr b (o + 516)) H := by kernel_rfl
theorem fa_114_0 (b o : Nat) : runH Fabg.prog (Instr.fieldAt 114 (ptr b o) 0) H k = k (ptr b (o + 0)) H := by kernel_rfl
theorem fa_114_1 (b o : Nat) : runH Fabg.prog (Instr.fieldAt 114 (ptr b o) 1) H k = k (ptr b (o + 1)) H := by kernel_rfl
theorem fa_114_2 (b o : Nat) : runH Fabg.prog (Instr.fieldAt 114 (ptr b o) 2) H k = k (ptr b (o + 2)) H := by kernel_rfl
theorem fa_114_3 (b o : Nat) : runH Fabg.prog (Instr.fieldAt 114 (ptr b o) 3) H k = k (ptr b (o + 3)) H := by kernel_rfl
theorem fa_206_0 (b o : Nat) : runH Fabg.prog (Instr.fieldAt 206 (ptr b o) 0) H k = k (ptr b (o + 0)) H := by kernel_rfl
theorem fa_206_1 (b o : Nat) : runH Fabg.prog (Instr.fieldAt 206 (ptr b o) 1) H k = k (ptr b (o + 1)) H := by kernel_rfl
theorem fa_25_0 (b o : Nat) : runH Fabg.prog (Instr.fieldAt 25 (ptr b o) 0) H k = k (ptr b (o + 0)) H := by kernel_rfl
theorem fa_25_1 (b o : Nat) : runH Fabg.prog (Instr.fieldAt 25 (ptr b o) 1) H k = k (ptr b (o + 1)) H := by kernel_rfl
theorem fa_52_0 (b o : Nat) : runH Fabg.prog (Instr.fieldAt 52 (ptr b o) 0) H k = k (ptr b (o + 0)) H := by kernel_rfl
theorem fa_52_1 (b o : Nat) : runH Fabg.prog (Instr.fieldAt 52 (ptr b o) 1) H k = k (ptr b (o + 1)) H := by kernel_rfl
theorem fa_52_2 (b o : Nat) : runH Fabg.prog (Instr.fieldAt 52 (ptr b o) 2) H k = k (ptr b (o + 2)) H := by kernel_rfl
theorem fa_52_3 (b o : Nat) : runH Fabg.prog (Instr.fieldAt 52 (ptr b o) 3) H k = k (ptr b (o + 3)) H := by kernel_rfl
theorem fa_52_4 (b o : Nat) : runH Fabg.prog (Instr.fieldAt 52 (ptr b o) 4) H k = k (ptr b (o + 4)) H := by kernel_rfl
theorem fa_52_5 (b o : Nat) : runH Fabg.prog (Instr.fieldAt 52 (ptr b o) 5) H k = k (ptr b (o + 5)) H := by kernel_rfl
theorem fa_52_6 (b o : Nat) : runH Fabg.prog (Instr.fieldAt 52 (ptr b o) 6) H k = k (ptr b (o + 6)) H := by kernel_rfl
theorem fa_52_7 (b o : Nat) : runH Fabg.prog (Instr.fieldAt 52 (ptr b o) 7) H k = k (ptr b (o + 7)) H := by kernel_rfl
theorem fa_57_0 (b o : Nat) : runH Fabg.prog (Instr.fieldAt 57 (ptr b o) 0) H k = k (ptr b (o + 0)) H := by kernel_rfl
theorem fa_57_1 (b o : Nat) : runH Fabg.prog (Instr.fieldAt 57 (ptr b o) 1) H k = k (ptr b (o + 1)) H := by kernel_rfl
theorem fa_60_0 (b o : Nat) : runH Fabg.prog (Instr.fieldAt 60 (ptr b o) 0) H k = k (ptr b (o + 0)) H := by kernel_rfl
theorem fa_60_1 (b o : Nat) : runH Fabg.prog (Instr.fieldAt 60 (ptr b o) 1) H k = k (ptr b (o + 1)) H := by kernel_rfl
theorem fa_60_2 (b o : Nat) : runH Fabg.prog (Instr.fieldAt 60 (ptr b o) 2) H k = k (ptr b (o + 2)) H := by kernel_rfl
theorem fa_60_3 (b o : Nat) : runH Fabg.prog (Instr.fieldAt 60 (ptr b o) 3) H k = k (ptr b (o + 3)) H := by kernel_rfl
theorem fa_60_4 (b o : Nat) : runH Fabg.prog (Instr.fieldAt 60 (ptr b o) 4) H k = k (ptr b (o + 4)) H := by kernel_rfl
theorem fa_60_5 (b o : Nat) : runH Fabg.prog (Instr.fieldAt 60 (ptr b o) 5) H k = k (ptr b (o + 5)) H := by kernel_rfl
theorem fa_62_0 (b o : Nat) : runH Fabg.prog (Instr.fieldAt 62 (ptr b o) 0) H k = k (ptr b (o + 0)) H := by kernel_rfl
theorem fa_62_1 (b o : Nat) : runH Fabg.prog (Instr.fieldAt 62 (ptr b o) 1) H k = k (ptr b (o + 6)) H := by kernel_rfl
theorem fa_62_2 (b o : Nat) : runH Fabg.prog (Instr.fieldAt 62 (ptr b o) 2) H k = k (ptr b (o + 7)) H := by kernel_rfl
theorem fa_62_3 (b o : Nat) : runH Fabg.prog (Instr.fieldAt 62 (ptr b o) 3) H k = k (ptr b (o + 8)) H := by kernel_rfl
theorem fa_62_4 (b o : Nat) : runH Fabg.prog (Instr.fieldAt 62 (ptr b o) 4) H k = k (ptr b (o + 9)) H := by kernel_rfl
theorem fa_77_0 (b o : Nat) : runH Fabg.prog (Instr.fieldAt 77 (ptr b o) 0) H k = k (ptr b (o + 0)) H := by kernel_rfl
theorem fa_77_1 (b o : Nat) : runH Fabg.prog (Instr.fieldAt 77 (ptr b o) 1) H k = k (ptr b (o + 1)) H := by kernel_rfl
theorem fa_77_2 (b o : Nat) : runH Fabg.prog (Instr.fieldAt 77 (ptr b o) 2) H k = k (ptr b (o + 5)) H := by kernel_rfl
theorem fa_77_3 (b o : Nat) : runH Fabg.prog (Instr.fieldAt 77 (ptr b o) 3) H k = k (ptr b (o + 6)) H := by kernel_rfl
theorem fa_77_4 (b o : Nat) : runH Fabg.prog (Instr.fieldAt 77 (ptr b o) 4) H k = k (ptr b (o + 7)) H := by kernel_rfl
theorem fa_77_5 (b o : Nat) : runH Fabg.prog (Instr.fieldAt 77 (ptr b o) 5) H k = k (ptr b (o + 8)) H := by kernel_rfl
theorem fa_77_6 (b o : Nat) : runH Fabg.prog (Instr.fieldAt 77 (ptr b o) 6) H k = k (ptr b (o + 9)) H := by kernel_rfl
theorem fa_93_0 (b o : Nat) : runH Fabg.prog (Instr.fieldAt 93 (ptr b o) 0) H k = k (ptr b (o + 0)) H := by kernel_rfl
theorem fa_93_1 (b o : Nat) : runH Fabg.prog (Instr.fieldAt 93 (ptr b o) 1) H k = k (ptr b (o + 1)) H := by kernel_rfl
theorem fa_96_0 (b o : Nat) : runH Fabg.prog (Instr.fieldAt 96 (ptr b o) 0) H k = k (ptr b (o + 0)) H := by kernel_rfl
theorem fa_96_1 (b o : Nat) : runH Fabg.prog (Instr.fieldAt 96 (ptr b o) 1) H k = k (ptr b (o + 1)) H := by kernel_rfl
theorem fa_96_2 (b o : Nat) : runH Fabg.prog (Instr.fieldAt 96 (ptr b o) 2) H k = k (ptr b (o + 2)) H := by kernel_rfl
theorem fa_96_3 (b o : Nat) : runH Fabg.prog (Instr.fieldAt 96 (ptr b o) 3) H k = k (ptr b (o + 1026)) H := by kernel_rfl
theorem ix_100_int (b o len cap : Nat) (kd : IntKind) (i : Int) : runH Fabg.prog (Instr.indexAt 100 (sl b o len cap) (.int kd i)) H k = (0 ≤ i ∧ i < (len : Int) ∧ k (ptr b (o + i.toNat)) H) := by
  refine (index_slice (n := 1) Fabg.underlying100 (fun _ => by kernel_rfl) b o len cap kd i).trans ?_
  simp only [Nat.mul_one]
theorem ix_100_i16 (b o len cap : Nat) (i : Int16) : runH Fabg.prog (Instr.indexAt 100 (sl b o len cap) (i16 i)) H k = (0 ≤ i.toInt ∧ i.toInt < (len : Int) ∧ k (ptr b (o + i.toInt.toNat)) H) := ix_100_int b o len cap .i16 _
theorem ix_100_u8 (b o len cap : Nat) (i : UInt8) : runH Fabg.prog (Instr.indexAt 100 (sl b o len cap) (u8 i)) H k = (i.toNat < len ∧ k (ptr b (o + i.toNat)) H) := by
  refine (ix_100_int b o len cap .u8 _).trans ?_
  simp only [Int.natCast_nonneg, true_and, Int.ofNat_lt, Int.toNat_natCast]
theorem ix_100_u16 (b o len cap : Nat) (i : UInt16) : runH Fabg.prog (Instr.indexAt 100 (sl b o len cap) (u16 i)) H k = (i.toNat < len ∧ k (ptr b (o + i.toNat)) H) := by
  refine (ix_100_int b o len cap .u16 _).trans ?_
  simp only [Int.natCast_nonneg, true_and, Int.ofNat_lt, Int.toNat_natCast]
theorem ix_105_int (b o : Nat) (kd : IntKind) (i : Int) : runH Fabg.prog (Instr.indexAt 105 (ptr b o) (.int kd i)) H k = (0 ≤ i ∧ i < 256 ∧ k (ptr b (o + i.toNat * 2)) H) := by
  refine (index_array (n := 2) (N := 256) Fabg.underlying105 (by decide) (fun _ => by kernel_rfl) b o kd i).trans ?_
  simp
theorem ix_105_i16 (b o : Nat) (i : Int16) : runH Fabg.prog (Instr.indexAt 105 (ptr b o) (i16 i)) H k = (0 ≤ i.toInt ∧ i.toInt < 256 ∧ k (ptr b (o + i.toInt.toNat * 2)) H) := ix_105_int b o .i16 _
theorem ix_105_u8 (b o : Nat) (i : UInt8) : runH Fabg.prog (Instr.indexAt 105 (ptr b o) (u8 i)) H k = (i.toNat < 256 ∧ k (ptr b (o + i.toNat * 2)) H) := by
  refine (ix_105_int b o .u8 _).trans ?_
  simp only [Int.natCast_nonneg, true_and, Int.toNat_natCast]
  rw [show ((i.toNat : Int) < 256) = (i.toNat < 256) by simp; omega]
theorem ix_105_u16 (b o : Nat) (i : UInt16) : runH Fabg.prog (Instr.indexAt 105 (ptr b o) (u16 i)) H k = (i.toNat < 256 ∧ k (ptr b (o + i.toNat * 2)) H) := by
  refine (ix_105_int b o .u16 _).trans ?_
  simp only [Int.natCast_nonneg, true_and, Int.toNat_natCast]
  rw [show ((i.toNat : Int) < 256) = (i.toNat < 256) by simp; omega]
theorem ix_136_int (b o : Nat) (kd : IntKind) (i : Int) : runH Fabg.prog (Instr.indexAt 136 (ptr b o) (.int kd i)) H k = (0 ≤ i ∧ i < 4 ∧ k (ptr b (o + i.toNat)) H) := by
  refine (index_array (n := 1) (N := 4) Fabg.underlying136 (by decide) (fun _ => by kernel_rfl) b o kd i).trans ?_
  simp
theorem ix_136_i16 (b o : Nat) (i : Int16) : runH Fabg.prog (Instr.indexAt 136 (ptr b o) (i16 i)) H k = (0 ≤ i.toInt ∧ i.toInt < 4 ∧ k (ptr b (o + i.toInt.toNat)) H) := ix_136_int b o .i16 _
theorem ix_136_u8 (b o : Nat) (i : UInt8) : runH Fabg.prog (Instr.indexAt 136 (ptr b o) (u8 i)) H k = (i.toNat < 4 ∧ k (ptr b (o + i.toNat)) H) := by
  refine (ix_136_int b o .u8 _).trans ?_
  simp only [Int.natCast_nonneg, true_and, Int.toNat_natCast]
  rw [show ((i.toNat : Int) < 4) = (i.toNat < 4) by simp; omega]
theorem ix_136_u16 (b o : Nat) (i : UInt16) : runH Fabg.prog (Instr.indexAt 136 (ptr b o) (u16 i)) H k = (i.toNat < 4 ∧ k (ptr b (o + i.toNat)) H) := by
  refine (ix_136_int b o .u16 _).trans ?_
  simp only [Int.natCast_nonneg, true_and, Int.toNat_natCast]
  rw [show ((i.toNat : Int) < 4) = (i.toNat < 4) by simp; omega]
theorem ix_149_int (b o : Nat) (kd : IntKind) (i : Int) : runH Fabg.prog (Instr.indexAt 149 (ptr b o) (.int kd i)) H k = (0 ≤ i ∧ i < 8 ∧ k (ptr b (o + i.toNat)) H) := by
  refine (index_array (n := 1) (N := 8) Fabg.underlying149 (by decide) (fun _ => by kernel_rfl) b o kd i).trans ?_
  simp
theorem ix_149_i16 (b o : Nat) (i : Int16) : runH Fabg.prog (Instr.indexAt 149 (ptr b o) (i16 i)) H k = (0 ≤ i.toInt ∧ i.toInt < 8 ∧ k (ptr b (o + i.toInt.toNat)) H) := ix_149_int b o .i16 _
theorem ix_149_u8 (b o : Nat) (i : UInt8) : runH Fabg.prog (Instr.indexAt 149 (ptr b o) (u8 i)) H k = (i.toNat < 8 ∧ k (ptr b (o + i.toNat)) H) := by
  refine (ix_149_int b o .u8 _).trans ?_
  simp only [Int.natCast_nonneg, true_and, Int.toNat_natCast]
  rw [show ((i.toNat : Int) < 8) = (i.toNat < 8) by simp; omega]
theorem ix_149_u16 (b o : Nat) (i : UInt16) : runH Fabg.prog (Instr.indexAt 149 (ptr b o) (u16 i)) H k = (i.toNat < 8 ∧ k (ptr b (o + i.toNat)) H) := by
  refine (ix_149_int b o .u16 _).trans ?_
  simp only [Int.natCast_nonneg, true_and, Int.toNat_natCast]
  rw [show ((i.toNat : Int) < 8) = (i.toNat < 8) by simp; omega]
theorem ix_150_int (b o : Nat) (kd : IntKind) (i : Int) : runH Fabg.prog (Instr.indexAt 150 (ptr b o) (.int kd i)) H k = (0 ≤ i ∧ i < 512 ∧ k (ptr b (o + i.toNat)) H) := by
  refine (index_array (n := 1) (N := 512) Fabg.underlying150 (by decide) (fun _ => by kernel_rfl) b o kd i).trans ?_
  simp
theorem ix_150_i16 (b o : Nat) (i : Int16) : runH Fabg.prog (Instr.indexAt 150 (ptr b o) (i16 i)) H k = (0 ≤ i.toInt ∧ i.toInt < 512 ∧ k (ptr b (o + i.toInt.toNat)) H) := ix_150_int b o .i16 _
theorem ix_150_u8 (b o : Nat) (i : UInt8) : runH Fabg.prog (Instr.indexAt 150 (ptr b o) (u8 i)) H k = (i.toNat < 512 ∧ k (ptr b (o + i.toNat)) H) := by
  refine (ix_150_int b o .u8 _).trans ?_
  simp only [Int.natCast_nonneg, true_and, Int.toNat_natCast]
  rw [show ((i.toNat : Int) < 512) = (i.toNat < 512) by simp; omega]
theorem ix_150_u16 (b o : Nat) (i : UInt16) : runH Fabg.prog (Instr.indexAt 150 (ptr b o) (u16 i)) H k = (i.toNat < 512 ∧ k (ptr b (o + i.toNat)) H) := by
  refine (ix_150_int b o .u16 _).trans ?_
  simp only [Int.natCast_nonneg, true_and, Int.toNat_natCast]
  rw [show ((i.toNat : Int) < 512) = (i.toNat < 512) by simp; omega]
theorem ix_151_int (b o : Nat) (kd : IntKind) (i : Int) : runH Fabg.prog (Instr.indexAt 151 (ptr b o) (.int kd i)) H k = (0 ≤ i ∧ i < 512 ∧ k (ptr b (o + i.toNat)) H) := by
  refine (index_array (n := 1) (N := 512) Fabg.underlying151 (by decide) (fun _ => by kernel_rfl) b o kd i).trans ?_
  simp
theorem ix_151_i16 (b o : Nat) (i : Int16) : runH Fabg.prog (Instr.indexAt 151 (ptr b o) (i16 i)) H k = (0 ≤ i.toInt ∧ i.toInt < 512 ∧ k (ptr b (o + i.toInt.toNat)) H) := ix_151_int b o .i16 _
theorem ix_151_u8 (b o : Nat) (i : UInt8) : runH Fabg.prog (Instr.indexAt 151 (ptr b o) (u8 i)) H k = (i.toNat < 512 ∧ k (ptr b (o + i.toNat)) H) := by
  refine (ix_151_int b o .u8 _).trans ?_
  simp only [Int.natCast_nonneg, true_and, Int.toNat_natCast]
  rw [show ((i.toNat : Int) < 512) = (i.toNat < 512) by simp; omega]
theorem ix_151_u16 (b o : Nat) (i : UInt16) : runH Fabg.prog (Instr.indexAt 151 (ptr b o) (u16 i)) H k = (i.toNat < 512 ∧ k (ptr b (o + i.toNat)) H) := by
  refine (ix_151_int b o .u16 _).trans ?_
  simp only [Int.natCast_nonneg, true_and, Int.toNat_natCast]
  rw [show ((i.toNat : Int) < 512) = (i.toNat < 512) by simp; omega]
theorem ix_201_int (b o : Nat) (kd : IntKind) (i : Int) : runH Fabg.prog (Instr.indexAt 201 (ptr b o) (.int kd i)) H k = (0 ≤ i ∧ i < 512 ∧ k (ptr b (o + i.toNat)) H) := by
  refine (index_array (n := 1) (N := 512) Fabg.underlying201 (by decide) (fun _ => by kernel_rfl) b o kd i).trans ?_
  simp
theorem ix_201_i16 (b o : Nat) (i : Int16) : runH Fabg.prog (Instr.indexAt 201 (ptr b o) (i16 i)) H k = (0 ≤ i.toInt ∧ i.toInt < 512 ∧ k (ptr b (o + i.toInt.toNat)) H) := ix_201_int b o .i16 _
theorem ix_201_u8 (b o : Nat) (i : UInt8) : runH Fabg.prog (Instr.indexAt 201 (ptr b o) (u8 i)) H k = (i.toNat < 512 ∧ k (ptr b (o + i.toNat)) H) := by
  refine (ix_201_int b o .u8 _).trans ?_
  simp only [Int.natCast_nonneg, true_and, Int.toNat_natCast]
  rw [show ((i.toNat : Int) < 512) = (i.toNat < 512) by simp; omega]
theorem ix_201_u16 (b o : Nat) (i : UInt16) : runH Fabg.prog (Instr.indexAt 201 (ptr b o) (u16 i)) H k = (i.toNat < 512 ∧ k (ptr b (o + i.toNat)) H) := by
  refine (ix_201_int b o .u16 _).trans ?_
  simp only [Int.natCast_nonneg, true_and, Int.toNat_natCast]
  rw [show ((i.toNat : Int) < 512) = (i.toNat < 512) by simp; omega]
theorem ix_202_int (b o : Nat) (kd : IntKind) (i : Int) : runH Fabg.prog (Instr.indexAt 202 (ptr b o) (.int kd i)) H k = (0 ≤ i ∧ i < 512 ∧ k (ptr b (o + i.toNat)) H) := by
  refine (index_array (n := 1) (N := 512) Fabg.underlying202 (by decide) (fun _ => by kernel_rfl) b o kd i).trans ?_
  simp
theorem ix_202_i16 (b o : Nat) (i : Int16) : runH Fabg.prog (Instr.indexAt 202 (ptr b o) (i16 i)) H k = (0 ≤ i.toInt ∧ i.toInt < 512 ∧ k (ptr b (o + i.toInt.toNat)) H) := ix_202_int b o .i16 _
theorem ix_202_u8 (b o : Nat) (i : UInt8) : runH Fabg.prog (Instr.indexAt 202 (ptr b o) (u8 i)) H k = (i.toNat < 512 ∧ k (ptr b (o + i.toNat)) H) := by
  refine (ix_202_int b o .u8 _).trans ?_
  simp only [Int.natCast_nonneg, true_and, Int.toNat_natCast]
  rw [show ((i.toNat : Int) < 512) = (i.toNat < 512) by simp; omega]
theorem ix_202_u16 (b o : Nat) (i : UInt16) : runH Fabg.prog (Instr.indexAt 202 (ptr b o) (u16 i)) H k = (i.toNat < 512 ∧ k (ptr b (o + i.toNat)) H) := by
  refine (ix_202_int b o .u16 _).trans ?_
  simp only [Int.natCast_nonneg, true_and, Int.toNat_natCast]
  rw [show ((i.toNat : Int) < 512) = (i.toNat < 512) by simp; omega]
theorem ix_22_int (b o len cap : Nat) (kd : IntKind) (i : Int) : runH Fabg.prog (Instr.indexAt 22 (sl b o len cap) (.int kd i)) H k = (0 ≤ i ∧ i < (len : Int) ∧ k (ptr b (o + i.toNat * 4)) H) := by
  refine (index_slice (n := 4) Fabg.underlying22 (fun _ => by kernel_rfl) b o len cap kd i).trans ?_
  simp only [Nat.mul_one]
theorem ix_22_i16 (b o len cap : Nat) (i : Int16) : runH Fabg.prog (Instr.indexAt 22 (sl b o len cap) (i16 i)) H k = (0 ≤ i.toInt ∧ i.toInt < (len : Int) ∧ k (ptr b (o + i.toInt.toNat * 4)) H) := ix_22_int b o len cap .i16 _
theorem ix_22_u8 (b o len cap : Nat) (i : UInt8) : runH Fabg.prog (Instr.indexAt 22 (sl b o len cap) (u8 i)) H k = (i.toNat < len ∧ k (ptr b (o + i.toNat * 4)) H) := by
  refine (ix_22_int b o len cap .u8 _).trans ?_
  simp only [Int.natCast_nonneg, true_and, Int.ofNat_lt, Int.toNat_natCast]
theorem ix_22_u16 (b o len cap : Nat) (i : UInt16) : runH Fabg.prog (Instr.indexAt 22 (sl b o len cap) (u16 i)) H k = (i.toNat < len ∧ k (ptr b (o + i.toNat * 4)) H) := by
  refine (ix_22_int b o len cap .u16 _).trans ?_
  simp only [Int.natCast_nonneg, true_and, Int.ofNat_lt, Int.toNat_natCast]
theorem ix_26_int (b o len cap : Nat) (kd : IntKind) (i : Int) : runH Fabg.prog (Instr.indexAt 26 (sl b o len cap) (.int kd i)) H k = (0 ≤ i ∧ i < (len : Int) ∧ k (ptr b (o + i.toNat)) H) := by
  refine (index_slice (n := 1) Fabg.underlying26 (fun _ => by kernel_rfl) b o len cap kd i).trans ?_
  simp only [Nat.mul_one]
theorem ix_26_i16 (b o len cap : Nat) (i : Int16) : runH Fabg.prog (Instr.indexAt 26 (sl b o len cap) (i16 i)) H k = (0 ≤ i.toInt ∧ i.toInt < (len : Int) ∧ k (ptr b (o + i.toInt.toNat)) H) := ix_26_int b o len cap .i16 _
theorem ix_26_u8 (b o len cap : Nat) (i : UInt8) : runH Fabg.prog (Instr.indexAt 26 (sl b o len cap) (u8 i)) H k = (i.toNat < len ∧ k (ptr b (o + i.toNat)) H) := by
  refine (ix_26_int b o len cap .u8 _).trans ?_
  simp only [Int.natCast_nonneg, true_and, Int.ofNat_lt, Int.toNat_natCast]
theorem ix_26_u16 (b o len cap : Nat) (i : UInt16) : runH Fabg.prog (Instr.indexAt 26 (sl b o len cap) (u16 i)) H k = (i.toNat < len ∧ k (ptr b (o + i.toNat)) H) := by
  refine (ix_26_int b o len cap .u16 _).trans ?_
  simp only [Int.natCast_nonneg, true_and, Int.ofNat_lt, Int.toNat_natCast]
theorem ix_31_int (b o : Nat) (kd : IntKind) (i : Int) : runH Fabg.prog (Instr.indexAt 31 (ptr b o) (.int kd i)) H k = (0 ≤ i ∧ i < 4 ∧ k (ptr b (o + i.toNat)) H) := by
  refine (index_array (n := 1) (N := 4) Fabg.underlying31 (by decide) (fun _ => by kernel_rfl) b o kd i).trans ?_
  simp
theorem ix_31_i16 (b o : Nat) (i : Int16) : runH Fabg.prog (Instr.indexAt 31 (ptr b o) (i16 i)) H k = (0 ≤ i.toInt ∧ i.toInt < 4 ∧ k (ptr b (o + i.toInt.toNat)) H) := ix_31_int b o .i16 _
theorem ix_31_u8 (b o : Nat) (i : UInt8) : runH Fabg.prog (Instr.indexAt 31 (ptr b o) (u8 i)) H k = (i.toNat < 4 ∧ k (ptr b (o + i.toNat)) H) := by
  refine (ix_31_int b o .u8 _).trans ?_
  simp only [Int.natCast_nonneg, true_and, Int.toNat_natCast]
  rw [show ((i.toNat : Int) < 4) = (i.toNat < 4) by simp; omega]
theorem ix_31_u16 (b o : Nat) (i : UInt16) : runH Fabg.prog (Instr.indexAt 31 (ptr b o) (u16 i)) H k = (i.toNat < 4 ∧ k (ptr b (o + i.toNat)) H) := by
  refine (ix_31_int b o .u16 _).trans ?_
  simp only [Int.natCast_nonneg, true_and, Int.toNat_natCast]
  rw [show ((i.toNat : Int) < 4) = (i.toNat < 4) by simp; omega]
theorem ix_39_int (b o len cap : Nat) (kd : IntKind) (i : Int) : runH Fabg.prog (Instr.indexAt 39 (sl b o len cap) (.int kd i)) H k = (0 ≤ i ∧ i < (len : Int) ∧ k (ptr b (o + i.toNat)) H) := by
  refine (index_slice (n := 1) Fabg.underlying39 (fun _ => by kernel_rfl) b o len cap kd i).trans ?_
  simp only [Nat.mul_one]
theorem ix_39_i16 (b o len cap : Nat) (i : Int16) : runH Fabg.prog (Instr.indexAt 39 (sl b o len cap) (i16 i)) H k = (0 ≤ i.toInt ∧ i.toInt < (len : Int) ∧ k (ptr b (o + i.toInt.toNat)) H) := ix_39_int b o len cap .i16 _
theorem ix_39_u8 (b o len cap : Nat) (i : UInt8) : runH Fabg.prog (Instr.indexAt 39 (sl b o len cap) (u8 i)) H k = (i.toNat < len ∧ k (ptr b (o + i.toNat)) H) := by
  refine (ix_39_int b o len cap .u8 _).trans ?_
  simp only [Int.natCast_nonneg, true_and, Int.ofNat_lt, Int.toNat_natCast]
theorem ix_39_u16 (b o len cap : Nat) (i : UInt16) : runH Fabg.prog (Instr.indexAt 39 (sl b o len cap) (u16 i)) H k = (i.toNat < len ∧ k (ptr b (o + i.toNat)) H) := by
  refine (ix_39_int b o len cap .u16 _).trans ?_
  simp only [Int.natCast_nonneg, true_and, Int.ofNat_lt, Int.toNat_natCast]
theorem ix_47_int (b o len cap : Nat) (kd : IntKind) (i : Int) : runH Fabg.prog (Instr.indexAt 47 (sl b o len cap) (.int kd i)) H k = (0 ≤ i ∧ i < (len : Int) ∧ k (ptr b (o + i.toNat * 8)) H) := by
  refine (index_slice (n := 8) Fabg.underlying47 (fun _ => by kernel_rfl) b o len cap kd i).trans ?_
  simp only [Nat.mul_one]
theorem ix_47_i16 (b o len cap : Nat) (i : Int16) : runH Fabg.prog (Instr.indexAt 47 (sl b o len cap) (i16 i)) H k = (0 ≤ i.toInt ∧ i.toInt < (len : Int) ∧ k (ptr b (o + i.toInt.toNat * 8)) H) := ix_47_int b o len cap .i16 _
theorem ix_47_u8 (b o len cap : Nat) (i : UInt8) : runH Fabg.prog (Instr.indexAt 47 (sl b o len cap) (u8 i)) H k = (i.toNat < len ∧ k (ptr b (o + i.toNat * 8)) H) := by
  refine (ix_47_int b o len cap .u8 _).trans ?_
  simp only [Int.natCast_nonneg, true_and, Int.ofNat_lt, Int.toNat_natCast]
theorem ix_47_u16 (b o len cap : Nat) (i : UInt16) : runH Fabg.prog (Instr.indexAt 47 (sl b o len cap) (u16 i)) H k = (i.toNat < len ∧ k (ptr b (o + i.toNat * 8)) H) := by
  refine (ix_47_int b o len cap .u16 _).trans ?_
  simp only [Int.natCast_nonneg, true_and, Int.ofNat_lt, Int.toNat_natCast]
theorem ix_54_int (b o : Nat) (kd : IntKind) (i : Int) : runH Fabg.prog (Instr.indexAt 54 (ptr b o) (.int kd i)) H k = (0 ≤ i ∧ i < 256 ∧ k (ptr b (o + i.toNat)) H) := by
  refine (index_array (n := 1) (N := 256) Fabg.underlying54 (by decide) (fun _ => by kernel_rfl) b o kd i).trans ?_
  simp
theorem ix_54_i16 (b o : Nat) (i : Int16) : runH Fabg.prog (Instr.indexAt 54 (ptr b o) (i16 i)) H k = (0 ≤ i.toInt ∧ i.toInt < 256 ∧ k (ptr b (o + i.toInt.toNat)) H) := ix_54_int b o .i16 _
theorem ix_54_u8 (b o : Nat) (i : UInt8) : runH Fabg.prog (Instr.indexAt 54 (ptr b o) (u8 i)) H k = (i.toNat < 256 ∧ k (ptr b (o + i.toNat)) H) := by
  refine (ix_54_int b o .u8 _).trans ?_
  simp only [Int.natCast_nonneg, true_and, Int.toNat_natCast]
  rw [show ((i.toNat : Int) < 256) = (i.toNat < 256) by simp; omega]
theorem ix_54_u16 (b o : Nat) (i : UInt16) : runH Fabg.prog (Instr.indexAt 54 (ptr b o) (u16 i)) H k = (i.toNat < 256 ∧ k (ptr b (o + i.toNat)) H) := by
  refine (ix_54_int b o .u16 _).trans ?_
  simp only [Int.natCast_nonneg, true_and, Int.toNat_natCast]
  rw [show ((i.toNat : Int) < 256) = (i.toNat < 256) by simp; omega]
theorem ix_55_int (b o len cap : Nat) (kd : IntKind) (i : Int) : runH Fabg.prog (Instr.indexAt 55 (sl b o len cap) (.int kd i)) H k = (0 ≤ i ∧ i < (len : Int) ∧ k (ptr b (o + i.toNat * 10)) H) := by
  refine (index_slice (n := 10) Fabg.underlying55 (fun _ => by kernel_rfl) b o len cap kd i).trans ?_
  simp only [Nat.mul_one]
theorem ix_55_i16 (b o len cap : Nat) (i : Int16) : runH Fabg.prog (Instr.indexAt 55 (sl b o len cap) (i16 i)) H k = (0 ≤ i.toInt ∧ i.toInt < (len : Int) ∧ k (ptr b (o + i.toInt.toNat * 10)) H) := ix_55_int b o len cap .i16 _
theorem ix_55_u8 (b o len cap : Nat) (i : UInt8) : runH Fabg.prog (Instr.indexAt 55 (sl b o len cap) (u8 i)) H k = (i.toNat < len ∧ k (ptr b (o + i.toNat * 10)) H) := by
  refine (ix_55_int b o len cap .u8 _).trans ?_
  simp only [Int.natCast_nonneg, true_and, Int.ofNat_lt, Int.toNat_natCast]
theorem ix_55_u16 (b o len cap : Nat) (i : UInt16) : runH Fabg.prog (Instr.indexAt 55 (sl b o len cap) (u16 i)) H k = (i.toNat < len ∧ k (ptr b (o + i.toNat * 10)) H) := by
  refine (ix_55_int b o len cap .u16 _).trans ?_
  simp only [Int.natCast_nonneg, true_and, Int.ofNat_lt, Int.toNat_natCast]
theorem ix_74_int (b o len cap : Nat) (kd : IntKind) (i : Int) : runH Fabg.prog (Instr.indexAt 74 (sl b o len cap) (.int kd i)) H k = (0 ≤ i ∧ i < (len : Int) ∧ k (ptr b (o + i.toNat * 6)) H) := by
  refine (index_slice (n := 6) Fabg.underlying74 (fun _ => by kernel_rfl) b o len cap kd i).trans ?_
  simp only [Nat.mul_one]
theorem ix_74_i16 (b o len cap : Nat) (i : Int16) : runH Fabg.prog (Instr.indexAt 74 (sl b o len cap) (i16 i)) H k = (0 ≤ i.toInt ∧ i.toInt < (len : Int) ∧ k (ptr b (o + i.toInt.toNat * 6)) H) := ix_74_int b o len cap .i16 _
theorem ix_74_u8 (b o len cap : Nat) (i : UInt8) : runH Fabg.prog (Instr.indexAt 74 (sl b o len cap) (u8 i)) H k = (i.toNat < len ∧ k (ptr b (o + i.toNat * 6)) H) := by
  refine (ix_74_int b o len cap .u8 _).trans ?_
  simp only [Int.natCast_nonneg, true_and, Int.ofNat_lt, Int.toNat_natCast]
theorem ix_74_u16 (b o len cap : Nat) (i : UInt16) : runH Fabg.prog (Instr.indexAt 74 (sl b o len cap) (u16 i)) H k = (i.toNat < len ∧ k (ptr b (o + i.toNat * 6)) H) := by
  refine (ix_74_int b o len cap .u16 _).trans ?_
  simp only [Int.natCast_nonneg, true_and, Int.ofNat_lt, Int.toNat_natCast]
theorem ix_75_int (b o len cap : Nat) (kd : IntKind) (i : Int) : runH Fabg.prog (Instr.indexAt 75 (sl b o len cap) (.int kd i)) H k = (0 ≤ i ∧ i < (len : Int) ∧ k (ptr b (o + i.toNat)) H) := by
  refine (index_slice (n := 1) Fabg.underlying75 (fun _ => by kernel_rfl) b o len cap kd i).trans ?_
  simp only [Nat.mul_one]
theorem ix_75_i16 (b o len cap : Nat) (i : Int16) : runH Fabg.prog (Instr.indexAt 75 (sl b o len cap) (i16 i)) H k = (0 ≤ i.toInt ∧ i.toInt < (len : Int) ∧ k (ptr b (o + i.toInt.toNat)) H) := ix_75_int b o len cap .i16 _
theorem ix_75_u8 (b o len cap : Nat) (i : UInt8) : runH Fabg.prog (Instr.indexAt 75 (sl b o len cap) (u8 i)) H k = (i.toNat < len ∧ k (ptr b (o + i.toNat)) H) := by
  refine (ix_75_int b o len cap .u8 _).trans ?_
  simp only [Int.natCast_nonneg, true_and, Int.ofNat_lt, Int.toNat_natCast]
theorem ix_75_u16 (b o len cap : Nat) (i : UInt16) : runH Fabg.prog (Instr.indexAt 75 (sl b o len cap) (u16 i)) H k = (i.toNat < len ∧ k (ptr b (o + i.toNat)) H) := by
  refine (ix_75_int b o len cap .u16 _).trans ?_
  simp only [Int.natCast_nonneg, true_and, Int.ofNat_lt, Int.toNat_natCast]
theorem ix_94_int (b o : Nat) (kd : IntKind) (i : Int) : runH Fabg.prog (Instr.indexAt 94 (ptr b o) (.int kd i)) H k = (0 ≤ i ∧ i < 512 ∧ k (ptr b (o + i.toNat * 2)) H) := by
  refine (index_array (n := 2) (N := 512) Fabg.underlying94 (by decide) (fun _ => by kernel_rfl) b o kd i).trans ?_
  simp
theorem ix_94_i16 (b o : Nat) (i : Int16) : runH Fabg.prog (Instr.indexAt 94 (ptr b o) (i16 i)) H k = (0 ≤ i.toInt ∧ i.toInt < 512 ∧ k (ptr b (o + i.toInt.toNat * 2)) H) := ix_94_int b o .i16 _
theorem ix_94_u8 (b o : Nat) (i : UInt8) : runH Fabg.prog (Instr.indexAt 94 (ptr b o) (u8 i)) H k = (i.toNat < 512 ∧ k (ptr b (o + i.toNat * 2)) H) := by
  refine (ix_94_int b o .u8 _).trans ?_
  simp only [Int.natCast_nonneg, true_and, Int.toNat_natCast]
  rw [show ((i.toNat : Int) < 512) = (i.toNat < 512) by simp; omega]
theorem ix_94_u16 (b o : Nat) (i : UInt16) : runH Fabg.prog (Instr.indexAt 94 (ptr b o) (u16 i)) H k = (i.toNat < 512 ∧ k (ptr b (o + i.toNat * 2)) H) := by
  refine (ix_94_int b o .u16 _).trans ?_
  simp only [Int.natCast_nonneg, true_and, Int.toNat_natCast]
  rw [show ((i.toNat : Int) < 512) = (i.toNat < 512) by simp; omega]
theorem len_100 (ty : TypeId) (b o n c : Nat) : runH Fabg.prog (Builtin.len_ #[100] ty #[sl b o n c]) H k = k (.int .i64 n) H := len_sl Fabg.underlying100 b o n c
theorem lenS_100 (ty : TypeId) (a : Option Addr) (n c : Nat) : runH Fabg.prog (Builtin.len_ #[100] ty #[.slice a n c]) H k = k (.int .i64 n) H := len_slice Fabg.underlying100 a n c
theorem len_22 (ty : TypeId) (b o n c : Nat) : runH Fabg.prog (Builtin.len_ #[22] ty #[sl b o n c]) H k = k (.int .i64 n) H := len_sl Fabg.underlying22 b o n c
theorem lenS_22 (ty : TypeId) (a : Option Addr) (n c : Nat) : runH Fabg.prog (Builtin.len_ #[22] ty #[.slice a n c]) H k = k (.int .i64 n) H := len_slice Fabg.underlying22 a n c
theorem len_26 (ty : TypeId) (b o n c : Nat) : runH Fabg.prog (Builtin.len_ #[26] ty #[sl b o n c]) H k = k (.int .i64 n) H := len_sl Fabg.underlying26 b o n c
theorem lenS_26 (ty : TypeId) (a : Option Addr) (n c : Nat) : runH Fabg.prog (Builtin.len_ #[26] ty #[.slice a n c]) H k = k (.int .i64 n) H := len_slice Fabg.underlying26 a n c
theorem len_39 (ty : TypeId) (b o n c : Nat) : runH Fabg.prog (Builtin.len_ #[39] ty #[sl b o n c]) H k = k (.int .i64 n) H := len_sl Fabg.underlying39 b o n c
theorem lenS_39 (ty : TypeId) (a : Option Addr) (n c : Nat) : runH Fabg.prog (Builtin.len_ #[39] ty #[.slice a n c]) H k = k (.int .i64 n) H := len_slice Fabg.underlying39 a n c
theorem len_47 (ty : TypeId) (b o n c : Nat) : runH Fabg.prog (Builtin.len_ #[47] ty #[sl b o n c]) H k = k (.int .i64 n) H := len_sl Fabg.underlying47 b o n c
theorem lenS_47 (ty : TypeId) (a : Option Addr) (n c : Nat) : runH Fabg.prog (Builtin.len_ #[47] ty #[.slice a n c]) H k = k (.int .i64 n) H := len_slice Fabg.underlying47 a n c
theorem len_55 (ty : TypeId) (b o n c : Nat) : runH Fabg.prog (Builtin.len_ #[55] ty #[sl b o n c]) H k = k (.int .i64 n) H := len_sl Fabg.underlying55 b o n c
theorem lenS_55 (ty : TypeId) (a : Option Addr) (n c : Nat) : runH Fabg.prog (Builtin.len_ #[55] ty #[.slice a n c]) H k = k (.int .i64 n) H := len_slice Fabg.underlying55 a n c
theorem len_74 (ty : TypeId) (b o n c : Nat) : runH Fabg.prog (Builtin.len_ #[74] ty #[sl b o n c]) H k = k (.int .i64 n) H := len_sl Fabg.underlying74 b o n c
theorem lenS_74 (ty : TypeId) (a : Option Addr) (n c : Nat) : runH Fabg.prog (Builtin.len_ #[74] ty #[.slice a n c]) H k = k (.int .i64 n) H := len_slice Fabg.underlying74 a n c
theorem len_75 (ty : TypeId) (b o n c : Nat) : runH Fabg.prog (Builtin.len_ #[75] ty #[sl b o n c]) H k = k (.int .i64 n) H := len_sl Fabg.underlying75 b o n c
theorem lenS_75 (ty : TypeId) (a : Option Addr) (n c : Nat) : runH Fabg.prog (Builtin.len_ #[75] ty #[.slice a n c]) H k = k (.int .i64 n) H := len_slice Fabg.underlying75 a n c
theorem len_9 (ty : TypeId) (s : ByteArray) : runH Fabg.prog (Builtin.len_ #[9] ty #[.string s]) H k = k (.int .i64 s.size) H := len_str Fabg.underlying9 s
theorem eqn_29 (x y : Operand) (b o : Nat) : runH Fabg.prog (binS .eql 29 x y (ptr b o) (.pointer none)) H k = k (.bool false) H := by kernel_rfl
theorem eqn_48 (x y : Operand) (b o : Nat) : runH Fabg.prog (binS .eql 48 x y (ptr b o) (.pointer none)) H k = k (.bool false) H := by kernel_rfl
theorem eqn_72 (x y : Operand) (b o : Nat) : runH Fabg.prog (binS .eql 72 x y (ptr b o) (.pointer none)) H k = k (.bool false) H := by kernel_rfl
theorem eqn_162 (x y : Operand) (b o : Nat) : runH Fabg.prog (binS .eql 162 x y (ptr b o) (.pointer none)) H k = k (.bool false) H := by kernel_rfl
theorem neb_4 (x y : Operand) (a b : Bool) : runH Fabg.prog (binS .neq 4 x y (.bool a) (.bool b)) H k = k (.bool (!(a == b))) H := by kernel_rfl
theorem call_3 (vs : Array Value) : runH Fabg.prog (callFunc 3 vs) H (nextK Fabg.prog k) = Fn Fabg.prog 3 vs H k := by kernel_rfl
theorem call_4 (vs : Array Value) : runH Fabg.prog (callFunc 4 vs) H (nextK Fabg.prog k) = Fn Fabg.prog 4 vs H k := by kernel_rfl
theorem call_5 (vs : Array Value) : runH Fabg.prog (callFunc 5 vs) H (nextK Fabg.prog k) = Fn Fabg.prog 5 vs H k := by kernel_rfl
theorem call_6 (vs : Array Value) : runH Fabg.prog (callFunc 6 vs) H (nextK Fabg.prog k) = Fn Fabg.prog 6 vs H k := by kernel_rfl
theorem call_7 (vs : Array Value) : runH Fabg.prog (callFunc 7 vs) H (nextK Fabg.prog k) = Fn Fabg.prog 7 vs H k := by kernel_rfl
theorem call_8 (vs : Array Value) : runH Fabg.prog (callFunc 8 vs) H (nextK Fabg.prog k) = Fn Fabg.prog 8 vs H k := by kernel_rfl
theorem call_9 (vs : Array Value) : runH Fabg.prog (callFunc 9 vs) H (nextK Fabg.prog k) = Fn Fabg.prog 9 vs H k := by kernel_rfl
theorem call_10 (vs : Array Value) : runH Fabg.prog (callFunc 10 vs) H (nextK Fabg.prog k) = Fn Fabg.prog 10 vs H k := by kernel_rfl
theorem call_11 (vs : Array Value) : runH Fabg.prog (callFunc 11 vs) H (nextK Fabg.prog k) = Fn Fabg.prog 11 vs H k := by kernel_rfl
theorem call_12 (vs : Array Value) : runH Fabg.prog (callFunc 12 vs) H (nextK Fabg.prog k) = Fn Fabg.prog 12 vs H k := by kernel_rfl
theorem call_13 (vs : Array Value) : runH Fabg.prog (callFunc 13 vs) H (nextK Fabg.prog k) = Fn Fabg.prog 13 vs H k := by kernel_rfl
theorem call_14 (vs : Array Value) : runH Fabg.prog (callFunc 14 vs) H (nextK Fabg.prog k) = Fn Fabg.prog 14 vs H k := by kernel_rfl
theorem call_15 (vs : Array Value) : runH Fabg.prog (callFunc 15 vs) H (nextK Fabg.prog k) = Fn Fabg.prog 15 vs H k := by kernel_rfl
theorem call_16 (vs : Array Value) : runH Fabg.prog (callFunc 16 vs) H (nextK Fabg.prog k) = Fn Fabg.prog 16 vs H k := by kernel_rfl
theorem call_17 (vs : Array Value) : runH Fabg.prog (callFunc 17 vs) H (nextK Fabg.prog k) = Fn Fabg.prog 17 vs H k := by kernel_rfl
theorem call_18 (vs : Array Value) : runH Fabg.prog (callFunc 18 vs) H (nextK Fabg.prog k) = Fn Fabg.prog 18 vs H k := by kernel_rfl
theorem call_19 (vs : Array Value) : runH Fabg.prog (callFunc 19 vs) H (nextK Fabg.prog k) = Fn Fabg.prog 19 vs H k := by kernel_rfl
theorem call_20 (vs : Array Value) : runH Fabg.prog (callFunc 20 vs) H (nextK Fabg.prog k) = Fn Fabg.prog 20 vs H k := by kernel_rfl
theorem call_21 (vs : Array Value) : runH Fabg.prog (callFunc 21 vs) H (nextK Fabg.prog k) = Fn Fabg.prog 21 vs H k := by kernel_rfl
theorem call_22 (vs : Array Value) : runH Fabg.prog (callFunc 22 vs) H (nextK Fabg.prog k) = Fn Fabg.prog 22 vs H k := by kernel_rfl
theorem call_23 (vs : Array Value) : runH Fabg.prog (callFunc 23 vs) H (nextK Fabg.prog k) = Fn Fabg.prog 23 vs H k := by kernel_rfl
theorem call_24 (vs : Array Value) : runH Fabg.prog (callFunc 24 vs) H (nextK Fabg.prog k) = Fn Fabg.prog 24 vs H k := by kernel_rfl
theorem call_25 (vs : Array Value) : runH Fabg.prog (callFunc 25 vs) H (nextK Fabg.prog k) = Fn Fabg.prog 25 vs H k := by kernel_rfl
theorem call_26 (vs : Array Value) : runH Fabg.prog (callFunc 26 vs) H (nextK Fabg.prog k) = Fn Fabg.prog 26 vs H k := by kernel_rfl
theorem call_27 (vs : Array Value) : runH Fabg.prog (callFunc 27 vs) H (nextK Fabg.prog k) = Fn Fabg.prog 27 vs H k := by kernel_rfl
theorem call_28 (vs : Array Value) : runH Fabg.prog (callFunc 28 vs) H (nextK Fabg.prog k) = Fn Fabg.prog 28 vs H k := by kernel_rfl
theorem call_29 (vs : Array Value) : runH Fabg.prog (callFunc 29 vs) H (nextK Fabg.prog k) = Fn Fabg.prog 29 vs H k := by kernel_rfl
theorem call_30 (vs : Array Value) : runH Fabg.prog (callFunc 30 vs) H (nextK Fabg.prog k) = Fn Fabg.prog 30 vs H k := by kernel_rfl
theorem call_31 (vs : Array Value) : runH Fabg.prog (callFunc 31 vs) H (nextK Fabg.prog k) = Fn Fabg.prog 31 vs H k := by kernel_rfl
theorem call_32 (vs : Array Value) : runH Fabg.prog (callFunc 32 vs) H (nextK Fabg.prog k) = Fn Fabg.prog 32 vs H k := by kernel_rfl
theorem call_33 (vs : Array Value) : runH Fabg.prog (callFunc 33 vs) H (nextK Fabg.prog k) = Fn Fabg.prog 33 vs H k := by kernel_rfl
theorem call_34 (vs : Array Value) : runH Fabg.prog (callFunc 34 vs) H (nextK Fabg.prog k) = Fn Fabg.prog 34 vs H k := by kernel_rfl
theorem call_35 (vs : Array Value) : runH Fabg.prog (callFunc 35 vs) H (nextK Fabg.prog k) = Fn Fabg.prog 35 vs H k := by kernel_rfl
theorem call_36 (vs : Array Value) : runH Fabg.prog (callFunc 36 vs) H (nextK Fabg.prog k) = Fn Fabg.prog 36 vs H k := by kernel_rfl
theorem call_37 (vs : Array Value) : runH Fabg.prog (callFunc 37 vs) H (nextK Fabg.prog k) = Fn Fabg.prog 37 vs H k := by kernel_rfl
theorem call_38 (vs : Array Value) : runH Fabg.prog (callFunc 38 vs) H (nextK Fabg.prog k) = Fn Fabg.prog 38 vs H k := by kernel_rfl
theorem call_39 (vs : Array Value) : runH Fabg.prog (callFunc 39 vs) H (nextK Fabg.prog k) = Fn Fabg.prog 39 vs H k := by kernel_rfl
theorem call_40 (vs : Array Value) : runH Fabg.prog (callFunc 40 vs) H (nextK Fabg.prog k) = Fn Fabg.prog 40 vs H k := by kernel_rfl
theorem call_41 (vs : Array Value) : runH Fabg.prog (callFunc 41 vs) H (nextK Fabg.prog k) = Fn Fabg.prog 41 vs H k := by kernel_rfl
theorem call_42 (vs : Array Value) : runH Fabg.prog (callFunc 42 vs) H (nextK Fabg.prog k) = Fn Fabg.prog 42 vs H k := by kernel_rfl
theorem call_43 (vs : Array Value) : runH Fabg.prog (callFunc 43 vs) H (nextK Fabg.prog k) = Fn Fabg.prog 43 vs H k := by kernel_rfl
theorem call_44 (vs : Array Value) : runH Fabg.prog (callFunc 44 vs) H (nextK Fabg.prog k) = Fn Fabg.prog 44 vs H k := by kernel_rfl
theorem call_45 (vs : Array Value) : runH Fabg.prog (callFunc 45 vs) H (nextK Fabg.prog k) = Fn Fabg.prog 45 vs H k := by kernel_rfl
theorem call_46 (vs : Array Value) : runH Fabg.prog (callFunc 46 vs) H (nextK Fabg.prog k) = Fn Fabg.prog 46 vs H k := by kernel_rfl
theorem call_47 (vs : Array Value) : runH Fabg.prog (callFunc 47 vs) H (nextK Fabg.prog k) = Fn Fabg.prog 47 vs H k := by kernel_rfl
theorem call_48 (vs : Array Value) : runH Fabg.prog (callFunc 48 vs) H (nextK Fabg.prog k) = Fn Fabg.prog 48 vs H k := by kernel_rfl
theorem call_49 (vs : Array Value) : runH Fabg.prog (callFunc 49 vs) H (nextK Fabg.prog k) = Fn Fabg.prog 49 vs H k := by kernel_rfl
theorem call_50 (vs : Array Value) : runH Fabg.prog (callFunc 50 vs) H (nextK Fabg.prog k) = Fn Fabg.prog 50 vs H k := by kernel_rfl
theorem call_51 (vs : Array Value) : runH Fabg.prog (callFunc 51 vs) H (nextK Fabg.prog k) = Fn Fabg.prog 51 vs H k := by kernel_rfl
theorem call_52 (vs : Array Value) : runH Fabg.prog (callFunc 52 vs) H (nextK Fabg.prog k) = Fn Fabg.prog 52 vs H k := by kernel_rfl
theorem call_53 (vs : Array Value) : runH Fabg.prog (callFunc 53 vs) H (nextK Fabg.prog k) = Fn Fabg.prog 53 vs H k := by kernel_rfl
theorem call_54 (vs : Array Value) : runH Fabg.prog (callFunc 54 vs) H (nextK Fabg.prog k) = Fn Fabg.prog 54 vs H k := by kernel_rfl
theorem call_55 (vs : Array Value) : runH Fabg.prog (callFunc 55 vs) H (nextK Fabg.prog k) = Fn Fabg.prog 55 vs H k := by kernel_rfl
theorem call_56 (vs : Array Value) : runH Fabg.prog (callFunc 56 vs) H (nextK Fabg.prog k) = Fn Fabg.prog 56 vs H k := by kernel_rfl
theorem call_57 (vs : Array Value) : runH Fabg.prog (callFunc 57 vs) H (nextK Fabg.prog k) = Fn Fabg.prog 57 vs H k := by kernel_rfl
theorem call_58 (vs : Array Value) : runH Fabg.prog (callFunc 58 vs) H (nextK Fabg.prog k) = Fn Fabg.prog 58 vs H k := by kernel_rfl
theorem call_59 (vs : Array Value) : runH Fabg.prog (callFunc 59 vs) H (nextK Fabg.prog k) = Fn Fabg.prog 59 vs H k := by kernel_rfl
theorem call_60 (vs : Array Value) : runH Fabg.prog (callFunc 60 vs) H (nextK Fabg.prog k) = Fn Fabg.prog 60 vs H k := by kernel_rfl
theorem call_61 (vs : Array Value) : runH Fabg.prog (callFunc 61 vs) H (nextK Fabg.prog k) = Fn Fabg.prog 61 vs H k := by kernel_rfl
theorem call_62 (vs : Array Value) : runH Fabg.prog (callFunc 62 vs) H (nextK Fabg.prog k) = Fn Fabg.prog 62 vs H k := by kernel_rfl
theorem call_63 (vs : Array Value) : runH Fabg.prog (callFunc 63 vs) H (nextK Fabg.prog k) = Fn Fabg.prog 63 vs H k := by kernel_rfl
theorem call_64 (vs : Array Value) : runH Fabg.prog (callFunc 64 vs) H (nextK Fabg.prog k) = Fn Fabg.prog 64 vs H k := by kernel_rfl
theorem call_65 (vs : Array Value) : runH Fabg.prog (callFunc 65 vs) H (nextK Fabg.prog k) = Fn Fabg.prog 65 vs H k := by kernel_rfl
theorem call_66 (vs : Array Value) : runH Fabg.prog (callFunc 66 vs) H (nextK Fabg.prog k) = Fn Fabg.prog 66 vs H k := by kernel_rfl
theorem call_67 (vs : Array Value) : runH Fabg.prog (callFunc 67 vs) H (nextK Fabg.prog k) = Fn Fabg.prog 67 vs H k := by kernel_rfl
theorem call_68 (vs : Array Value) : runH Fabg.prog (callFunc 68 vs) H (nextK Fabg.prog k) = Fn Fabg.prog 68 vs H k := by kernel_rfl
theorem call_69 (vs : Array Value) : runH Fabg.prog (callFunc 69 vs) H (nextK Fabg.prog k) = Fn Fabg.prog 69 vs H k := by kernel_rfl
theorem call_70 (vs : Array Value) : runH Fabg.prog (callFunc 70 vs) H (nextK Fabg.prog k) = Fn Fabg.prog 70 vs H k := by kernel_rfl
theorem call_71 (vs : Array Value) : runH Fabg.prog (callFunc 71 vs) H (nextK Fabg.prog k) = Fn Fabg.prog 71 vs H k := by kernel_rfl
theorem call_72 (vs : Array Value) : runH Fabg.prog (callFunc 72 vs) H (nextK Fabg.prog k) = Fn Fabg.prog 72 vs H k := by kernel_rfl
theorem call_73 (vs : Array Value) : runH Fabg.prog (callFunc 73 vs) H (nextK Fabg.prog k) = Fn Fabg.prog 73 vs H k := by kernel_rfl
theorem call_74 (vs : Array Value) : runH Fabg.prog (callFunc 74 vs) H (nextK Fabg.prog k) = Fn Fabg.prog 74 vs H k := by kernel_rfl
theorem call_75 (vs : Array Value) : runH Fabg.prog (callFunc 75 vs) H (nextK Fabg.prog k) = Fn Fabg.prog 75 vs H k := by kernel_rfl
theorem call_76 (vs : Array Value) : runH Fabg.prog (callFunc 76 vs) H (nextK Fabg.prog k) = Fn Fabg.prog 76 vs H k := by kernel_rfl
theorem call_77 (vs : Array Value) : runH Fabg.prog (callFunc 77 vs) H (nextK Fabg.prog k) = Fn Fabg.prog 77 vs H k := by kernel_rfl
theorem call_78 (vs : Array Value) : runH Fabg.prog (callFunc 78 vs) H (nextK Fabg.prog k) = Fn Fabg.prog 78 vs H k := by kernel_rfl
theorem call_79 (vs : Array Value) : runH Fabg.prog (callFunc 79 vs) H (nextK Fabg.prog k) = Fn Fabg.prog 79 vs H k := by kernel_rfl
theorem call_80 (vs : Array Value) : runH Fabg.prog (callFunc 80 vs) H (nextK Fabg.prog k) = Fn Fabg.prog 80 vs H k := by kernel_rfl
theorem call_81 (vs : Array Value) : runH Fabg.prog (callFunc 81 vs) H (nextK Fabg.prog k) = Fn Fabg.prog 81 vs H k := by kernel_rfl
theorem call_82 (vs : Array Value) : runH Fabg.prog (callFunc 82 vs) H (nextK Fabg.prog k) = Fn Fabg.prog 82 vs H k := by kernel_rfl
theorem call_83 (vs : Array Value) : runH Fabg.prog (callFunc 83 vs) H (nextK Fabg.prog k) = Fn Fabg.prog 83 vs H k := by kernel_rfl
theorem call_84 (vs : Array Value) : runH Fabg.prog (callFunc 84 vs) H (nextK Fabg.prog k) = Fn Fabg.prog 84 vs H k := by kernel_rfl
theorem call_85 (vs : Array Value) : runH Fabg.prog (callFunc 85 vs) H (nextK Fabg.prog k) = Fn Fabg.prog 85 vs H k := by kernel_rfl
theorem call_86 (vs : Array Value) : runH Fabg.prog (callFunc 86 vs) H (nextK Fabg.prog k) = Fn Fabg.prog 86 vs H k := by kernel_rfl
theorem call_87 (vs : Array Value) : runH Fabg.prog (callFunc 87 vs) H (nextK Fabg.prog k) = Fn Fabg.prog 87 vs H k := by kernel_rfl
theorem call_88 (vs : Array Value) : runH Fabg.prog (callFunc 88 vs) H (nextK Fabg.prog k) = Fn Fabg.prog 88 vs H k := by kernel_rfl
theorem call_89 (vs : Array Value) : runH Fabg.prog (callFunc 89 vs) H (nextK Fabg.prog k) = Fn Fabg.prog 89 vs H k := by kernel_rfl
theorem call_90 (vs : Array Value) : runH Fabg.prog (callFunc 90 vs) H (nextK Fabg.prog k) = Fn Fabg.prog 90 vs H k := by kernel_rfl
theorem call_91 (vs : Array Value) : runH Fabg.prog (callFunc 91 vs) H (nextK Fabg.prog k) = Fn Fabg.prog 91 vs H k := by kernel_rfl
theorem call_92 (vs : Array Value) : runH Fabg.prog (callFunc 92 vs) H (nextK Fabg.prog k) = Fn Fabg.prog 92 vs H k := by kernel_rfl
theorem call_93 (vs : Array Value) : runH Fabg.prog (callFunc 93 vs) H (nextK Fabg.prog k) = Fn Fabg.prog 93 vs H k := by kernel_rfl
theorem call_94 (vs : Array Value) : runH Fabg.prog (callFunc 94 vs) H (nextK Fabg.prog k) = Fn Fabg.prog 94 vs H k := by kernel_rfl
theorem call_95 (vs : Array Value) : runH Fabg.prog (callFunc 95 vs) H (nextK Fabg.prog k) = Fn Fabg.prog 95 vs H k := by kernel_rfl
theorem call_96 (vs : Array Value) : runH Fabg.prog (callFunc 96 vs) H (nextK Fabg.prog k) = Fn Fabg.prog 96 vs H k := by kernel_rfl
theorem call_97 (vs : Array Value) : runH Fabg.prog (callFunc 97 vs) H (nextK Fabg.prog k) = Fn Fabg.prog 97 vs H k := by kernel_rfl
theorem call_98 (vs : Array Value) : runH Fabg.prog (callFunc 98 vs) H (nextK Fabg.prog k) = Fn Fabg.prog 98 vs H k := by kernel_rfl
theorem call_99 (vs : Array Value) : runH Fabg.prog (callFunc 99 vs) H (nextK Fabg.prog k) = Fn Fabg.prog 99 vs H k := by kernel_rfl
theorem call_100 (vs : Array Value) : runH Fabg.prog (callFunc 100 vs) H (nextK Fabg.prog k) = Fn Fabg.prog 100 vs H k := by kernel_rfl
theorem call_101 (vs : Array Value) : runH Fabg.prog (callFunc 101 vs) H (nextK Fabg.prog k) = Fn Fabg.prog 101 vs H k := by kernel_rfl
theorem call_102 (vs : Array Value) : runH Fabg.prog (callFunc 102 vs) H (nextK Fabg.prog k) = Fn Fabg.prog 102 vs H k := by kernel_rfl
theorem call_103 (vs : Array Value) : runH Fabg.prog (callFunc 103 vs) H (nextK Fabg.prog k) = Fn Fabg.prog 103 vs H k := by kernel_rfl
theorem call_104 (vs : Array Value) : runH Fabg.prog (callFunc 104 vs) H (nextK Fabg.prog k) = Fn Fabg.prog 104 vs H k := by kernel_rfl
theorem call_105 (vs : Array Value) : runH Fabg.prog (callFunc 105 vs) H (nextK Fabg.prog k) = Fn Fabg.prog 105 vs H k := by kernel_rfl
theorem call_106 (vs : Array Value) : runH Fabg.prog (callFunc 106 vs) H (nextK Fabg.prog k) = Fn Fabg.prog 106 vs H k := by kernel_rfl
theorem call_107 (vs : Array Value) : runH Fabg.prog (callFunc 107 vs) H (nextK Fabg.prog k) = Fn Fabg.prog 107 vs H k := by kernel_rfl
theorem call_108 (vs : Array Value) : runH Fabg.prog (callFunc 108 vs) H (nextK Fabg.prog k) = Fn Fabg.prog 108 vs H k := by kernel_rfl
theorem call_109 (vs : Array Value) : runH Fabg.prog (callFunc 109 vs) H (nextK Fabg.prog k) = Fn Fabg.prog 109 vs H k := by kernel_rfl
theorem call_110 (vs : Array Value) : runH Fabg.prog (callFunc 110 vs) H (nextK Fabg.prog k) = Fn Fabg.prog 110 vs H k := by kernel_rfl
theorem call_111 (vs : Array Value) : runH Fabg.prog (callFunc 111 vs) H (nextK Fabg.prog k) = Fn Fabg.prog 111 vs H k := by kernel_rfl
theorem call_112 (vs : Array Value) : runH Fabg.prog (callFunc 112 vs) H (nextK Fabg.prog k) = Fn Fabg.prog 112 vs H k := by kernel_rfl
theorem call_113 (vs : Array Value) : runH Fabg.prog (callFunc 113 vs) H (nextK Fabg.prog k) = Fn Fabg.prog 113 vs H k := by kernel_rfl
theorem call_114 (vs : Array Value) : runH Fabg.prog (callFunc 114 vs) H (nextK Fabg.prog k) = Fn Fabg.prog 114 vs H k := by kernel_rfl
theorem call_115 (vs : Array Value) : runH Fabg.prog (callFunc 115 vs) H (nextK Fabg.prog k) = Fn Fabg.prog 115 vs H k := by kernel_rfl
theorem call_116 (vs : Array Value) : runH Fabg.prog (callFunc 116 vs) H (nextK Fabg.prog k) = Fn Fabg.prog 116 vs H k := by kernel_rfl
theorem call_117 (vs : Array Value) : runH Fabg.prog (callFunc 117 vs) H (nextK Fabg.prog k) = Fn Fabg.prog 117 vs H k := by kernel_rfl
theorem call_118 (vs : Array Value) : runH Fabg.prog (callFunc 118 vs) H (nextK Fabg.prog k) = Fn Fabg.prog 118 vs H k := by kernel_rfl
theorem call_119 (vs : Array Value) : runH Fabg.prog (callFunc 119 vs) H (nextK Fabg.prog k) = Fn Fabg.prog 119 vs H k := by kernel_rfl
theorem call_120 (vs : Array Value) : runH Fabg.prog (callFunc 120 vs) H (nextK Fabg.prog k) = Fn Fabg.prog 120 vs H k := by kernel_rfl
theorem call_121 (vs : Array Value) : runH Fabg.prog (callFunc 121 vs) H (nextK Fabg.prog k) = Fn Fabg.prog 121 vs H k := by kernel_rfl
theorem call_122 (vs : Array Value) : runH Fabg.prog (callFunc 122 vs) H (nextK Fabg.prog k) = Fn Fabg.prog 122 vs H k := by kernel_rfl
theorem call_123 (vs : Array Value) : runH Fabg.prog (callFunc 123 vs) H (nextK Fabg.prog k) = Fn Fabg.prog 123 vs H k := by kernel_rfl
theorem call_124 (vs : Array Value) : runH Fabg.prog (callFunc 124 vs) H (nextK Fabg.prog k) = Fn Fabg.prog 124 vs H k := by kernel_rfl
theorem call_125 (vs : Array Value) : runH Fabg.prog (callFunc 125 vs) H (nextK Fabg.prog k) = Fn Fabg.prog 125 vs H k := by kernel_rfl
theorem call_126 (vs : Array Value) : runH Fabg.prog (callFunc 126 vs) H (nextK Fabg.prog k) = Fn Fabg.prog 126 vs H k := by kernel_rfl
theorem call_127 (vs : Array Value) : runH Fabg.prog (callFunc 127 vs) H (nextK Fabg.prog k) = Fn Fabg.prog 127 vs H k := by kernel_rfl
theorem call_128 (vs : Array Value) : runH Fabg.prog (callFunc 128 vs) H (nextK Fabg.prog k) = Fn Fabg.prog 128 vs H k := by kernel_rfl
theorem call_129 (vs : Array Value) : runH Fabg.prog (callFunc 129 vs) H (nextK Fabg.prog k) = Fn Fabg.prog 129 vs H k := by kernel_rfl
theorem call_130 (vs : Array Value) : runH Fabg.prog (callFunc 130 vs) H (nextK Fabg.prog k) = Fn Fabg.prog 130 vs H k := by kernel_rfl
theorem call_131 (vs : Array Value) : runH Fabg.prog (callFunc 131 vs) H (nextK Fabg.prog k) = Fn Fabg.prog 131 vs H k := by kernel_rfl
theorem call_132 (vs : Array Value) : runH Fabg.prog (callFunc 132 vs) H (nextK Fabg.prog k) = Fn Fabg.prog 132 vs H k := by kernel_rfl
theorem call_133 (vs : Array Value) : runH Fabg.prog (callFunc 133 vs) H (nextK Fabg.prog k) = Fn Fabg.prog 133 vs H k := by kernel_rfl
theorem call_134 (vs : Array Value) : runH Fabg.prog (callFunc 134 vs) H (nextK Fabg.prog k) = Fn Fabg.prog 134 vs H k := by kernel_rfl
theorem call_135 (vs : Array Value) : runH Fabg.prog (callFunc 135 vs) H (nextK Fabg.prog k) = Fn Fabg.prog 135 vs H k := by kernel_rfl
theorem call_136 (vs : Array Value) : runH Fabg.prog (callFunc 136 vs) H (nextK Fabg.prog k) = Fn Fabg.prog 136 vs H k := by kernel_rfl
theorem call_137 (vs : Array Value) : runH Fabg.prog (callFunc 137 vs) H (nextK Fabg.prog k) = Fn Fabg.prog 137 vs H k := by kernel_rfl
theorem call_138 (vs : Array Value) : runH Fabg.prog (callFunc 138 vs) H (nextK Fabg.prog k) = Fn Fabg.prog 138 vs H k := by kernel_rfl
theorem call_139 (vs : Array Value) : runH Fabg.prog (callFunc 139 vs) H (nextK Fabg.prog k) = Fn Fabg.prog 139 vs H k := by kernel_rfl
theorem call_140 (vs : Array Value) : runH Fabg.prog (callFunc 140 vs) H (nextK Fabg.prog k) = Fn Fabg.prog 140 vs H k := by kernel_rfl
theorem call_141 (vs : Array Value) : runH Fabg.prog (callFunc 141 vs) H (nextK Fabg.prog k) = Fn Fabg.prog 141 vs H k := by kernel_rfl
theorem call_142 (vs : Array Value) : runH Fabg.prog (callFunc 142 vs) H (nextK Fabg.prog k) = Fn Fabg.prog 142 vs H k := by kernel_rfl
theorem call_143 (vs : Array Value) : runH Fabg.prog (callFunc 143 vs) H (nextK Fabg.prog k) = Fn Fabg.prog 143 vs H k := by kernel_rfl
theorem call_144 (vs : Array Value) : runH Fabg.prog (callFunc 144 vs) H (nextK Fabg.prog k) = Fn Fabg.prog 144 vs H k := by kernel_rfl
theorem call_145 (vs : Array Value) : runH Fabg.prog (callFunc 145 vs) H (nextK Fabg.prog k) = Fn Fabg.prog 145 vs H k := by kernel_rfl
theorem call_146 (vs : Array Value) : runH Fabg.prog (callFunc 146 vs) H (nextK Fabg.prog k) = Fn Fabg.prog 146 vs H k := by kernel_rfl
theorem call_147 (vs : Array Value) : runH Fabg.prog (callFunc 147 vs) H (nextK Fabg.prog k) = Fn Fabg.prog 147 vs H k := by kernel_rfl
theorem call_148 (vs : Array Value) : runH Fabg.prog (callFunc 148 vs) H (nextK Fabg.prog k) = Fn Fabg.prog 148 vs H k := by kernel_rfl
theorem call_149 (vs : Array Value) : runH Fabg.prog (callFunc 149 vs) H (nextK Fabg.prog k) = Fn Fabg.prog 149 vs H k := by kernel_rfl
theorem call_150 (vs : Array Value) : runH Fabg.prog (callFunc 150 vs) H (nextK Fabg.prog k) = Fn Fabg.prog 150 vs H k := by kernel_rfl
theorem call_151 (vs : Array Value) : runH Fabg.prog (callFunc 151 vs) H (nextK Fabg.prog k) = Fn Fabg.prog 151 vs H k := by kernel_rfl
theorem call_152 (vs : Array Value) : runH Fabg.prog (callFunc 152 vs) H (nextK Fabg.prog k) = Fn Fabg.prog 152 vs H k := by kernel_rfl
theorem call_153 (vs : Array Value) : runH Fabg.prog (callFunc 153 vs) H (nextK Fabg.prog k) = Fn Fabg.prog 153 vs H k := by kernel_rfl
theorem call_154 (vs : Array Value) : runH Fabg.prog (callFunc 154 vs) H (nextK Fabg.prog k) = Fn Fabg.prog 154 vs H k := by kernel_rfl
theorem call_155 (vs : Array Value) : runH Fabg.prog (callFunc 155 vs) H (nextK Fabg.prog k) = Fn Fabg.prog 155 vs H k := by kernel_rfl
theorem call_156 (vs : Array Value) : runH Fabg.prog (callFunc 156 vs) H (nextK Fabg.prog k) = Fn Fabg.prog 156 vs H k := by kernel_rfl
theorem call_157 (vs : Array Value) : runH Fabg.prog (callFunc 157 vs) H (nextK Fabg.prog k) = Fn Fabg.prog 157 vs H k := by kernel_rfl
theorem call_158 (vs : Array Value) : runH Fabg.prog (callFunc 158 vs) H (nextK Fabg.prog k) = Fn Fabg.prog 158 vs H k := by kernel_rfl
theorem call_159 (vs : Array Value) : runH Fabg.prog (callFunc 159 vs) H (nextK Fabg.prog k) = Fn Fabg.prog 159 vs H k := by kernel_rfl
theorem call_160 (vs : Array Value) : runH Fabg.prog (callFunc 160 vs) H (nextK Fabg.prog k) = Fn Fabg.prog 160 vs H k := by kernel_rfl
theorem call_161 (vs : Array Value) : runH Fabg.prog (callFunc 161 vs) H (nextK Fabg.prog k) = Fn Fabg.prog 161 vs H k := by kernel_rfl
theorem call_162 (vs : Array Value) : runH Fabg.prog (callFunc 162 vs) H (nextK Fabg.prog k) = Fn Fabg.prog 162 vs H k := by kernel_rfl
theorem call_163 (vs : Array Value) : runH Fabg.prog (callFunc 163 vs) H (nextK Fabg.prog k) = Fn Fabg.prog 163 vs H k := by kernel_rfl
theorem call_164 (vs : Array Value) : runH Fabg.prog (callFunc 164 vs) H (nextK Fabg.prog k) = Fn Fabg.prog 164 vs H k := by kernel_rfl
theorem call_165 (vs : Array Value) : runH Fabg.prog (callFunc 165 vs) H (nextK Fabg.prog k) = Fn Fabg.prog 165 vs H k := by kernel_rfl
theorem call_166 (vs : Array Value) : runH Fabg.prog (callFunc 166 vs) H (nextK Fabg.prog k) = Fn Fabg.prog 166 vs H k := by kernel_rfl
theorem call_167 (vs : Array Value) : runH Fabg.prog (callFunc 167 vs) H (nextK Fabg.prog k) = Fn Fabg.prog 167 vs H k := by kernel_rfl
theorem call_168 (vs : Array Value) : runH Fabg.prog (callFunc 168 vs) H (nextK Fabg.prog k) = Fn Fabg.prog 168 vs H k := by kernel_rfl
theorem call_169 (vs : Array Value) : runH Fabg.prog (callFunc 169 vs) H (nextK Fabg.prog k) = Fn Fabg.prog 169 vs H k := by kernel_rfl
theorem call_170 (vs : Array Value) : runH Fabg.prog (callFunc 170 vs) H (nextK Fabg.prog k) = Fn Fabg.prog 170 vs H k := by kernel_rfl
theorem call_171 (vs : Array Value) : runH Fabg.prog (callFunc 171 vs) H (nextK Fabg.prog k) = Fn Fabg.prog 171 vs H k := by kernel_rfl
theorem call_172 (vs : Array Value) : runH Fabg.prog (callFunc 172 vs) H (nextK Fabg.prog k) = Fn Fabg.prog 172 vs H k := by kernel_rfl
theorem call_173 (vs : Array Value) : runH Fabg.prog (callFunc 173 vs) H (nextK Fabg.prog k) = Fn Fabg.prog 173 vs H k := by kernel_rfl
theorem call_174 (vs : Array Value) : runH Fabg.prog (callFunc 174 vs) H (nextK Fabg.prog k) = Fn Fabg.prog 174 vs H k := by kernel_rfl
theorem k_i16_m1 : lit (Value.int .i16 (-1)) = i16 (-1) := rfl
theorem k_i16_0 : lit (Value.int .i16 0) = i16 0 := rfl
theorem k_u16_0 : lit (Value.int .u16 0) = u16 0 := rfl
theorem tn_u16_0 : (0 : UInt16).toNat = 0 := rfl
theorem k_u16_1 : lit (Value.int .u16 1) = u16 1 := rfl
theorem tn_u16_1 : (1 : UInt16).toNat = 1 := rfl
theorem k_u16_7 : lit (Value.int .u16 7) = u16 7 := rfl
theorem tn_u16_7 : (7 : UInt16).toNat = 7 := rfl
theorem k_u16_8 : lit (Value.int .u16 8) = u16 8 := rfl
theorem tn_u16_8 : (8 : UInt16).toNat = 8 := rfl
theorem k_u16_64 : lit (Value.int .u16 64) = u16 64 := rfl
theorem tn_u16_64 : (64 : UInt16).toNat = 64 := rfl
theorem k_u16_128 : lit (Value.int .u16 128) = u16 128 := rfl
theorem tn_u16_128 : (128 : UInt16).toNat = 128 := rfl
theorem k_u16_256 : lit (Value.int .u16 256) = u16 256 := rfl
theorem tn_u16_256 : (256 : UInt16).toNat = 256 := rfl
theorem k_u16_257 : lit (Value.int .u16 257) = u16 257 := rfl
theorem tn_u16_257 : (257 : UInt16).toNat = 257 := rfl
theorem k_u32_1 : lit (Value.int .u32 1) = u32 1 := rfl
theorem tn_u32_1 : (1 : UInt32).toNat = 1 := rfl
theorem k_u32_64 : lit (Value.int .u32 64) = u32 64 := rfl
theorem tn_u32_64 : (64 : UInt32).toNat = 64 := rfl
theorem k_u32_128 : lit (Value.int .u32 128) = u32 128 := rfl
theorem tn_u32_128 : (128 : UInt32).toNat = 128 := rfl
theorem k_u32_256 : lit (Value.int .u32 256) = u32 256 := rfl
theorem tn_u32_256 : (256 : UInt32).toNat = 256 := rfl
theorem k_u64_0 : lit (Value.int .u64 0) = u64 0 := rfl
theorem tn_u64_0 : (0 : UInt64).toNat = 0 := rfl
theorem k_u64_1 : lit (Value.int .u64 1) = u64 1 := rfl
theorem tn_u64_1 : (1 : UInt64).toNat = 1 := rfl
theorem k_u64_2 : lit (Value.int .u64 2) = u64 2 := rfl
theorem tn_u64_2 : (2 : UInt64).toNat = 2 := rfl
theorem k_u64_4 : lit (Value.int .u64 4) = u64 4 := rfl
theorem tn_u64_4 : (4 : UInt64).toNat = 4 := rfl
theorem k_u64_8 : lit (Value.int .u64 8) = u64 8 := rfl
theorem tn_u64_8 : (8 : UInt64).toNat = 8 := rfl
theorem k_u64_32 : lit (Value.int .u64 32) = u64 32 := rfl
theorem tn_u64_32 : (32 : UInt64).toNat = 32 := rfl
theorem k_u64_35 : lit (Value.int .u64 35) = u64 35 := rfl
theorem tn_u64_35 : (35 : UInt64).toNat = 35 := rfl
theorem k_u64_48 : lit (Value.int .u64 48) = u64 48 := rfl
theorem tn_u64_48 : (48 : UInt64).toNat = 48 := rfl
theorem k_u64_64 : lit (Value.int .u64 64) = u64 64 := rfl
theorem tn_u64_64 : (64 : UInt64).toNat = 64 := rfl
theorem k_u64_128 : lit (Value.int .u64 128) = u64 128 := rfl
theorem tn_u64_128 : (128 : UInt64).toNat = 128 := rfl
theorem k_u64_281474976710656 : lit (Value.int .u64 281474976710656) = u64 281474976710656 := rfl
theorem tn_u64_281474976710656 : (281474976710656 : UInt64).toNat = 281474976710656 := rfl
theorem k_u64_9223372036854775808 : lit (Value.int .u64 9223372036854775808) = u64 9223372036854775808 := rfl
theorem tn_u64_9223372036854775808 : (9223372036854775808 : UInt64).toNat = 9223372036854775808 := rfl
theorem k_u64_18446744073709551615 : lit (Value.int .u64 18446744073709551615) = u64 18446744073709551615 := rfl
theorem tn_u64_18446744073709551615 : (18446744073709551615 : UInt64).toNat = 18446744073709551615 := rfl
theorem k_u8_0 : lit (Value.int .u8 0) = u8 0 := rfl
theorem tn_u8_0 : (0 : UInt8).toNat = 0 := rfl
theorem k_u8_1 : lit (Value.int .u8 1) = u8 1 := rfl
theorem tn_u8_1 : (1 : UInt8).toNat = 1 := rfl
theorem k_u8_2 : lit (Value.int .u8 2) = u8 2 := rfl
theorem tn_u8_2 : (2 : UInt8).toNat = 2 := rfl
theorem k_u8_3 : lit (Value.int .u8 3) = u8 3 := rfl
theorem tn_u8_3 : (3 : UInt8).toNat = 3 := rfl
theorem k_u8_4 : lit (Value.int .u8 4) = u8 4 := rfl
theorem tn_u8_4 : (4 : UInt8).toNat = 4 := rfl
theorem k_u8_5 : lit (Value.int .u8 5) = u8 5 := rfl
theorem tn_u8_5 : (5 : UInt8).toNat = 5 := rfl
theorem k_u8_6 : lit (Value.int .u8 6) = u8 6 := rfl
theorem tn_u8_6 : (6 : UInt8).toNat = 6 := rfl
theorem k_u8_7 : lit (Value.int .u8 7) = u8 7 := rfl
theorem tn_u8_7 : (7 : UInt8).toNat = 7 := rfl
theorem k_u8_8 : lit (Value.int .u8 8) = u8 8 := rfl
theorem tn_u8_8 : (8 : UInt8).toNat = 8 := rfl
theorem k_u8_9 : lit (Value.int .u8 9) = u8 9 := rfl
theorem tn_u8_9 : (9 : UInt8).toNat = 9 := rfl
theorem k_u8_10 : lit (Value.int .u8 10) = u8 10 := rfl
theorem tn_u8_10 : (10 : UInt8).toNat = 10 := rfl
theorem k_u8_11 : lit (Value.int .u8 11) = u8 11 := rfl
theorem tn_u8_11 : (11 : UInt8).toNat = 11 := rfl
theorem k_u8_12 : lit (Value.int .u8 12) = u8 12 := rfl
theorem tn_u8_12 : (12 : UInt8).toNat = 12 := rfl
theorem k_u8_13 : lit (Value.int .u8 13) = u8 13 := rfl
theorem tn_u8_13 : (13 : UInt8).toNat = 13 := rfl
theorem k_u8_15 : lit (Value.int .u8 15) = u8 15 := rfl
theorem tn_u8_15 : (15 : UInt8).toNat = 15 := rfl
theorem k_u8_16 : lit (Value.int .u8 16) = u8 16 := rfl
theorem tn_u8_16 : (16 : UInt8).toNat = 16 := rfl
theorem k_u8_29 : lit (Value.int .u8 29) = u8 29 := rfl
theorem tn_u8_29 : (29 : UInt8).toNat = 29 := rfl
theorem k_u8_30 : lit (Value.int .u8 30) = u8 30 := rfl
theorem tn_u8_30 : (30 : UInt8).toNat = 30 := rfl
theorem k_u8_32 : lit (Value.int .u8 32) = u8 32 := rfl
theorem tn_u8_32 : (32 : UInt8).toNat = 32 := rfl
theorem k_u8_33 : lit (Value.int .u8 33) = u8 33 := rfl
theorem tn_u8_33 : (33 : UInt8).toNat = 33 := rfl
theorem k_u8_35 : lit (Value.int .u8 35) = u8 35 := rfl
theorem tn_u8_35 : (35 : UInt8).toNat = 35 := rfl
theorem k_u8_40 : lit (Value.int .u8 40) = u8 40 := rfl
theorem tn_u8_40 : (40 : UInt8).toNat = 40 := rfl
theorem k_u8_41 : lit (Value.int .u8 41) = u8 41 := rfl
theorem tn_u8_41 : (41 : UInt8).toNat = 41 := rfl
theorem k_u8_48 : lit (Value.int .u8 48) = u8 48 := rfl
theorem tn_u8_48 : (48 : UInt8).toNat = 48 := rfl
theorem k_u8_57 : lit (Value.int .u8 57) = u8 57 := rfl
theorem tn_u8_57 : (57 : UInt8).toNat = 57 := rfl
theorem k_u8_58 : lit (Value.int .u8 58) = u8 58 := rfl
theorem tn_u8_58 : (58 : UInt8).toNat = 58 := rfl
theorem k_u8_59 : lit (Value.int .u8 59) = u8 59 := rfl
theorem tn_u8_59 : (59 : UInt8).toNat = 59 := rfl
theorem k_u8_64 : lit (Value.int .u8 64) = u8 64 := rfl
theorem tn_u8_64 : (64 : UInt8).toNat = 64 := rfl
theorem k_u8_65 : lit (Value.int .u8 65) = u8 65 := rfl
theorem tn_u8_65 : (65 : UInt8).toNat = 65 := rfl
theorem k_u8_90 : lit (Value.int .u8 90) = u8 90 := rfl
theorem tn_u8_90 : (90 : UInt8).toNat = 90 := rfl
theorem k_u8_97 : lit (Value.int .u8 97) = u8 97 := rfl
theorem tn_u8_97 : (97 : UInt8).toNat = 97 := rfl
theorem k_u8_122 : lit (Value.int .u8 122) = u8 122 := rfl
theorem tn_u8_122 : (122 : UInt8).toNat = 122 := rfl
theorem k_u8_123 : lit (Value.int .u8 123) = u8 123 := rfl
theorem tn_u8_123 : (123 : UInt8).toNat = 123 := rfl
theorem k_u8_125 : lit (Value.int .u8 125) = u8 125 := rfl
theorem tn_u8_125 : (125 : UInt8).toNat = 125 := rfl
end
end Eng
end Go.Proofs.Ygcfab
