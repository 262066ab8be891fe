/-
  The engine of this seat's walks, part five: new blocks and built values.
-/
import Derived.Test.YgcfabTyp
import Derived.Test.YgcfabPlain
set_option linter.unusedSimpArgs false
set_option linter.unusedVariables false
namespace Go.Proofs.Ygcfab
namespace Eng

structure Ob where
  p : Ptr
  up : Int16
  via : UInt8
  elem : Bool
  dead : Bool
theorem Ob.eta (o : Ob) : (⟨o.p, o.up, o.via, o.elem, o.dead⟩ : Ob) = o := rfl
def ol (o : Ob) : List Value := [u8 o.p.kind, u16 o.p.at_, u8 o.p.data, u8 o.p.ptrs, u8 o.p.code, u16 o.p.count, i16 o.up, u8 o.via, .bool o.elem, .bool o.dead]
def ov (o : Ob) : Value := .agg (ol o).toArray
theorem ov_eta (o : Ob) : ov ⟨⟨o.p.kind, o.p.at_, o.p.data, o.p.ptrs, o.p.code, o.p.count⟩, o.up, o.via, o.elem, o.dead⟩ = ov o := rfl
theorem ov_cells (o : Ob) : (ov o).cells = (ol o).toArray := rfl
theorem ol_len (o : Ob) : (ol o).length = 10 := rfl
theorem ov_fold (a : UInt8) (b : UInt16) (c d e : UInt8) (f : UInt16) (u : Int16) (v : UInt8) (x y : Bool) : Value.agg [u8 a, u16 b, u8 c, u8 d, u8 e, u16 f, i16 u, u8 v, .bool x, .bool y].toArray = ov ⟨⟨a, b, c, d, e, f⟩, u, v, x, y⟩ := rfl
structure OpR where
  kind : UInt8
  h : UInt8
  i : UInt8
  x : UInt8
  y : UInt8
  n : UInt16
  v : UInt64
  s : ByteArray
theorem OpR.eta (o : OpR) : (⟨o.kind, o.h, o.i, o.x, o.y, o.n, o.v, o.s⟩ : OpR) = o := rfl
def opl (o : OpR) : List Value := [u8 o.kind, u8 o.h, u8 o.i, u8 o.x, u8 o.y, u16 o.n, u64 o.v, .string o.s]
def opv (o : OpR) : Value := .agg (opl o).toArray
theorem opv_eta (o : OpR) : opv ⟨o.kind, o.h, o.i, o.x, o.y, o.n, o.v, o.s⟩ = opv o := rfl
theorem opv_cells (o : OpR) : (opv o).cells = (opl o).toArray := rfl
theorem opl_len (o : OpR) : (opl o).length = 8 := rfl
theorem opv_fold (a b c d e : UInt8) (f : UInt16) (v : UInt64) (s : ByteArray) : Value.agg [u8 a, u8 b, u8 c, u8 d, u8 e, u16 f, u64 v, .string s].toArray = opv ⟨a, b, c, d, e, f, v, s⟩ := rfl

theorem cells_map (n : Nat) (f : Nat → Value) (e : TypeId) : Obj.cells ((List.range n).map f).toArray e (0, 0) = fblk n f e := by
  rw [cells_of_list]
  simp only [List.length_map, List.length_range]
  apply fblk_congr
  intro i hi
  rw [lget_eq]
  simp [hi]

/-! the zero values of the great types -/
def zWalk (o : Nat) : Value := if o < 4 then u64 0 else if o < 516 then (if o % 2 = 0 then u16 0 else u8 0) else u16 0
def zCanon (o : Nat) : Value := if o = 0 then .pointer none else if o = 1 then .slice none 0 0 else if o < 1026 then (if o % 2 = 0 then u16 0 else i16 0) else .int .i64 0

section
variable {H : Heap} {k : Value → Heap → Prop}
theorem ol_0 (o : Ob) : lget (ol o) 0 = u8 o.p.kind := rfl
theorem ol_1 (o : Ob) : lget (ol o) 1 = u16 o.p.at_ := rfl
theorem ol_2 (o : Ob) : lget (ol o) 2 = u8 o.p.data := rfl
theorem ol_3 (o : Ob) : lget (ol o) 3 = u8 o.p.ptrs := rfl
theorem ol_4 (o : Ob) : lget (ol o) 4 = u8 o.p.code := rfl
theorem ol_5 (o : Ob) : lget (ol o) 5 = u16 o.p.count := rfl
theorem ol_6 (o : Ob) : lget (ol o) 6 = i16 o.up := rfl
theorem ol_7 (o : Ob) : lget (ol o) 7 = u8 o.via := rfl
theorem ol_8 (o : Ob) : lget (ol o) 8 = .bool o.elem := rfl
theorem ol_9 (o : Ob) : lget (ol o) 9 = .bool o.dead := rfl
theorem opl_0 (o : OpR) : lget (opl o) 0 = u8 o.kind := rfl
theorem opl_1 (o : OpR) : lget (opl o) 1 = u8 o.h := rfl
theorem opl_2 (o : OpR) : lget (opl o) 2 = u8 o.i := rfl
theorem opl_3 (o : OpR) : lget (opl o) 3 = u8 o.x := rfl
theorem opl_4 (o : OpR) : lget (opl o) 4 = u8 o.y := rfl
theorem opl_5 (o : OpR) : lget (opl o) 5 = u16 o.n := rfl
theorem opl_6 (o : OpR) : lget (opl o) 6 = u64 o.v := rfl
theorem opl_7 (o : OpR) : lget (opl o) 7 = .string o.s := rfl
theorem st_pv (b o : Nat) (p : Ptr) : runH Fabg.prog (Instr.storeAt 60 (ptr b o) (pv p)) H (stK k) = (wrsOk (H b) o 6 ∧ k undef (upd H b (wrsO (H b) o (pl p)))) := storeL (n := 5) (fun _ => by kernel_rfl) b o (pl p) rfl rfl
theorem st_ov (b o : Nat) (p : Ob) : runH Fabg.prog (Instr.storeAt 62 (ptr b o) (ov p)) H (stK k) = (wrsOk (H b) o 10 ∧ k undef (upd H b (wrsO (H b) o (ol p)))) := storeL (n := 9) (fun _ => by kernel_rfl) b o (ol p) rfl rfl
theorem st_opv (b o : Nat) (p : OpR) : runH Fabg.prog (Instr.storeAt 52 (ptr b o) (opv p)) H (stK k) = (wrsOk (H b) o 8 ∧ k undef (upd H b (wrsO (H b) o (opl p)))) := storeL (n := 7) (fun _ => by kernel_rfl) b o (opl p) rfl rfl
theorem al_102 : runH Fabg.prog (Instr.alloc 102 true (.tuple #[])) H k = Alloc H (fblk 4 (lget ([u8 0, u8 0, .slice none 0 0, .slice none 0 0])) 102) k := by
  refine (alloc_eq (v := .agg ([u8 0, u8 0, .slice none 0 0, .slice none 0 0]).toArray) (fun _ => by kernel_rfl)).trans ?_
  rw [agg_cells, cells_of_list]
  rfl
theorem al_104 : runH Fabg.prog (Instr.alloc 104 true (.tuple #[])) H k = Alloc H (fblk 2 (lget ([u16 0, u8 0])) 104) k := by
  refine (alloc_eq (v := .agg ([u16 0, u8 0]).toArray) (fun _ => by kernel_rfl)).trans ?_
  rw [agg_cells, cells_of_list]
  rfl
theorem al_114 : runH Fabg.prog (Instr.alloc 114 true (.tuple #[])) H k = Alloc H (fblk 4 (lget ([.int .i64 0, .int .i64 0, .int .i64 0, .int .i64 0])) 114) k := by
  refine (alloc_eq (v := .agg ([.int .i64 0, .int .i64 0, .int .i64 0, .int .i64 0]).toArray) (fun _ => by kernel_rfl)).trans ?_
  rw [agg_cells, cells_of_list]
  rfl
theorem al_206 : runH Fabg.prog (Instr.alloc 206 true (.tuple #[])) H k = Alloc H (fblk 2 (lget ([.slice none 0 0, u16 0])) 206) k := by
  refine (alloc_eq (v := .agg ([.slice none 0 0, u16 0]).toArray) (fun _ => by kernel_rfl)).trans ?_
  rw [agg_cells, cells_of_list]
  rfl
theorem al_31 : runH Fabg.prog (Instr.alloc 31 true (.tuple #[])) H k = Alloc H (fblk 4 (lget ([u64 0, u64 0, u64 0, u64 0])) 31) k := by
  refine (alloc_eq (v := .agg ([u64 0, u64 0, u64 0, u64 0]).toArray) (fun _ => by kernel_rfl)).trans ?_
  rw [agg_cells, cells_of_list]
  rfl
theorem al_136 : runH Fabg.prog (Instr.alloc 136 true (.tuple #[])) H k = Alloc H (fblk 4 (lget ([u64 0, u64 0, u64 0, u64 0])) 136) k := by
  refine (alloc_eq (v := .agg ([u64 0, u64 0, u64 0, u64 0]).toArray) (fun _ => by kernel_rfl)).trans ?_
  rw [agg_cells, cells_of_list]
  rfl
theorem al_52 : runH Fabg.prog (Instr.alloc 52 true (.tuple #[])) H k = Alloc H (fblk 8 (lget ([u8 0, u8 0, u8 0, u8 0, u8 0, u16 0, u64 0, .string ByteArray.empty])) 52) k := by
  refine (alloc_eq (v := .agg ([u8 0, u8 0, u8 0, u8 0, u8 0, u16 0, u64 0, .string ByteArray.empty]).toArray) (fun _ => by kernel_rfl)).trans ?_
  rw [agg_cells, cells_of_list]
  rfl
theorem al_60 : runH Fabg.prog (Instr.alloc 60 true (.tuple #[])) H k = Alloc H (fblk 6 (lget (pl Ptr.zero)) 60) k := by
  refine (alloc_eq (v := .agg (pl Ptr.zero).toArray) (fun _ => by kernel_rfl)).trans ?_
  rw [agg_cells, cells_of_list]
  rfl
theorem al_62 : runH Fabg.prog (Instr.alloc 62 true (.tuple #[])) H k = Alloc H (fblk 10 (lget (ol ⟨Ptr.zero, 0, 0, false, false⟩)) 62) k := by
  refine (alloc_eq (v := .agg (ol ⟨Ptr.zero, 0, 0, false, false⟩).toArray) (fun _ => by kernel_rfl)).trans ?_
  rw [agg_cells, cells_of_list]
  rfl
theorem al_93 : runH Fabg.prog (Instr.alloc 93 true (.tuple #[])) H k = Alloc H (fblk 2 (lget ([u16 0, i16 0])) 93) k := by
  refine (alloc_eq (v := .agg ([u16 0, i16 0]).toArray) (fun _ => by kernel_rfl)).trans ?_
  rw [agg_cells, cells_of_list]
  rfl
theorem al_25 : runH Fabg.prog (Instr.alloc 25 true (.tuple #[])) H k = Alloc H (fblk 2 (lget ([.slice none 0 0, i16 0])) 25) k := by
  refine (alloc_eq (v := .agg ([.slice none 0 0, i16 0]).toArray) (fun _ => by kernel_rfl)).trans ?_
  rw [agg_cells, cells_of_list]
  rfl
theorem al_57 : runH Fabg.prog (Instr.alloc 57 true (.tuple #[])) H k = Alloc H (fblk 2 (lget ([.slice none 0 0, .slice none 0 0])) 57) k := by
  refine (alloc_eq (v := .agg ([.slice none 0 0, .slice none 0 0]).toArray) (fun _ => by kernel_rfl)).trans ?_
  rw [agg_cells, cells_of_list]
  rfl
theorem al_107 : runH Fabg.prog (Instr.alloc 107 true (.tuple #[])) H k = Alloc H (fblk 517 zWalk 107) k := by
  refine (alloc_eq (v := .agg ((List.range 517).map zWalk).toArray) (fun _ => by kernel_rfl)).trans ?_
  rw [agg_cells, cells_map]
theorem al_96 : runH Fabg.prog (Instr.alloc 96 true (.tuple #[])) H k = Alloc H (fblk 1027 zCanon 96) k := by
  refine (alloc_eq (v := .agg ((List.range 1027).map zCanon).toArray) (fun _ => by kernel_rfl)).trans ?_
  rw [agg_cells, cells_map]
theorem al_149 : runH Fabg.prog (Instr.alloc 149 true (.tuple #[])) H k = Alloc H (fblk 8 (fun _ => u64 0) 149) k := by
  refine (alloc_eq (v := .agg ((List.range 8).map (fun _ => u64 0)).toArray) (fun _ => by kernel_rfl)).trans ?_
  rw [agg_cells, cells_map]
theorem al_150 : runH Fabg.prog (Instr.alloc 150 true (.tuple #[])) H k = Alloc H (fblk 512 (fun _ => i16 0) 150) k := by
  refine (alloc_eq (v := .agg ((List.range 512).map (fun _ => i16 0)).toArray) (fun _ => by kernel_rfl)).trans ?_
  rw [agg_cells, cells_map]
theorem al_151 : runH Fabg.prog (Instr.alloc 151 true (.tuple #[])) H k = Alloc H (fblk 512 (fun _ => .int .i64 0) 151) k := by
  refine (alloc_eq (v := .agg ((List.range 512).map (fun _ => .int .i64 0)).toArray) (fun _ => by kernel_rfl)).trans ?_
  rw [agg_cells, cells_map]
theorem al_201 : runH Fabg.prog (Instr.alloc 201 true (.tuple #[])) H k = Alloc H (fblk 512 (fun _ => u8 0) 201) k := by
  refine (alloc_eq (v := .agg ((List.range 512).map (fun _ => u8 0)).toArray) (fun _ => by kernel_rfl)).trans ?_
  rw [agg_cells, cells_map]
theorem al_202 : runH Fabg.prog (Instr.alloc 202 true (.tuple #[])) H k = Alloc H (fblk 512 (fun _ => .bool false) 202) k := by
  refine (alloc_eq (v := .agg ((List.range 512).map (fun _ => .bool false)).toArray) (fun _ => by kernel_rfl)).trans ?_
  rw [agg_cells, cells_map]
theorem al_54 : runH Fabg.prog (Instr.alloc 54 true (.tuple #[])) H k = Alloc H (fblk 256 (fun _ => .bool false) 54) k := by
  refine (alloc_eq (v := .agg ((List.range 256).map (fun _ => .bool false)).toArray) (fun _ => by kernel_rfl)).trans ?_
  rw [agg_cells, cells_map]
theorem bd_60_  : runH Fabg.prog (Instr.build 60 #[]) H k = k (pv Ptr.zero) H := by kernel_rfl
theorem bd_60_0_1_2_3 (a : UInt8) (b : UInt16) (c d : UInt8) : runH Fabg.prog (Instr.build 60 #[(0, u8 a), (1, u16 b), (2, u8 c), (3, u8 d)]) H k = k (pv ⟨a, b, c, d, 0, 0⟩) H := by kernel_rfl
theorem bd_60_0_1_2_3_4_5 (a : UInt8) (b : UInt16) (c d e : UInt8) (f : UInt16) : runH Fabg.prog (Instr.build 60 #[(0, u8 a), (1, u16 b), (2, u8 c), (3, u8 d), (4, u8 e), (5, u16 f)]) H k = k (pv ⟨a, b, c, d, e, f⟩) H := by kernel_rfl
theorem bd_60_0_1_3 (a : UInt8) (b : UInt16) (d : UInt8) : runH Fabg.prog (Instr.build 60 #[(0, u8 a), (1, u16 b), (3, u8 d)]) H k = k (pv ⟨a, b, 0, d, 0, 0⟩) H := by kernel_rfl
theorem bd_60_0_1_4_5 (a : UInt8) (b : UInt16) (e : UInt8) (f : UInt16) : runH Fabg.prog (Instr.build 60 #[(0, u8 a), (1, u16 b), (4, u8 e), (5, u16 f)]) H k = k (pv ⟨a, b, 0, 0, e, f⟩) H := by kernel_rfl
theorem bd_60_0_2_3 (a c d : UInt8) : runH Fabg.prog (Instr.build 60 #[(0, u8 a), (2, u8 c), (3, u8 d)]) H k = k (pv ⟨a, 0, c, d, 0, 0⟩) H := by kernel_rfl
theorem bd_60_0_3 (a d : UInt8) : runH Fabg.prog (Instr.build 60 #[(0, u8 a), (3, u8 d)]) H k = k (pv ⟨a, 0, 0, d, 0, 0⟩) H := by kernel_rfl
theorem bd_60_0_4_5 (a e : UInt8) (f : UInt16) : runH Fabg.prog (Instr.build 60 #[(0, u8 a), (4, u8 e), (5, u16 f)]) H k = k (pv ⟨a, 0, 0, 0, e, f⟩) H := by kernel_rfl
theorem bd_62_0_1 (p : Ptr) (u : Int16) : runH Fabg.prog (Instr.build 62 #[(0, pv p), (1, i16 u)]) H k = k (ov ⟨p, u, 0, false, false⟩) H := by kernel_rfl
theorem bd_62_0_1_2 (p : Ptr) (u : Int16) (v : UInt8) : runH Fabg.prog (Instr.build 62 #[(0, pv p), (1, i16 u), (2, u8 v)]) H k = k (ov ⟨p, u, v, false, false⟩) H := by kernel_rfl
theorem bd_62_0_1_2_3 (p : Ptr) (u : Int16) (v : UInt8) (e : Bool) : runH Fabg.prog (Instr.build 62 #[(0, pv p), (1, i16 u), (2, u8 v), (3, .bool e)]) H k = k (ov ⟨p, u, v, e, false⟩) H := by kernel_rfl
theorem bd_102_  : runH Fabg.prog (Instr.build 102 #[]) H k = k (.agg #[u8 0, u8 0, .slice none 0 0, .slice none 0 0]) H := by kernel_rfl
theorem bd_102_0_1 (a b : UInt8) : runH Fabg.prog (Instr.build 102 #[(0, u8 a), (1, u8 b)]) H k = k (.agg #[u8 a, u8 b, .slice none 0 0, .slice none 0 0]) H := by kernel_rfl
theorem bd_104_0_1 (a : UInt16) (b : UInt8) : runH Fabg.prog (Instr.build 104 #[(0, u16 a), (1, u8 b)]) H k = k (.agg #[u16 a, u8 b]) H := by kernel_rfl
theorem bd_114_  : runH Fabg.prog (Instr.build 114 #[]) H k = k (.agg #[.int .i64 0, .int .i64 0, .int .i64 0, .int .i64 0]) H := by kernel_rfl
theorem bd_114_0_1_2_3 (a b c d : Int) : runH Fabg.prog (Instr.build 114 #[(0, .int .i64 a), (1, .int .i64 b), (2, .int .i64 c), (3, .int .i64 d)]) H k = k (.agg #[.int .i64 a, .int .i64 b, .int .i64 c, .int .i64 d]) H := by kernel_rfl
theorem bd_143_0_1_2_3 (a b c d : Int) : runH Fabg.prog (Instr.build 143 #[(0, .int .i64 a), (1, .int .i64 b), (2, .int .i64 c), (3, .int .i64 d)]) H k = k (.agg #[.int .i64 a, .int .i64 b, .int .i64 c, .int .i64 d]) H := by kernel_rfl
theorem bd_206_0_1 (a : Option Addr) (n c : Nat) (l : UInt16) : runH Fabg.prog (Instr.build 206 #[(0, .slice a n c), (1, u16 l)]) H k = k (.agg #[.slice a n c, u16 l]) H := by kernel_rfl
theorem bd_206s_0_1 (b o n c : Nat) (l : UInt16) : runH Fabg.prog (Instr.build 206 #[(0, sl b o n c), (1, u16 l)]) H k = k (.agg #[sl b o n c, u16 l]) H := by kernel_rfl
theorem bd_25_0 (a : Option Addr) (n c : Nat) : runH Fabg.prog (Instr.build 25 #[(0, .slice a n c)]) H k = k (.agg #[.slice a n c, i16 0]) H := by kernel_rfl
theorem bd_77_0 (a : Option Addr) (n c : Nat) : runH Fabg.prog (Instr.build 77 #[(0, .slice a n c)]) H k = k (.agg #[.slice a n c, u64 0, u64 0, u64 0, u64 0, .slice none 0 0, .slice none 0 0, .slice none 0 0, .slice none 0 0, .slice none 0 0]) H := by kernel_rfl
theorem bd_57n_0_1 (a : Option Addr) (n c : Nat) (a2 : Option Addr) (n2 c2 : Nat) : runH Fabg.prog (Instr.build 57 #[(0, .slice a n c), (1, .slice a2 n2 c2)]) H k = k (.agg #[.slice a n c, .slice a2 n2 c2]) H := by kernel_rfl
theorem bd_57s_0_1 (a : Option Addr) (n c : Nat) (b2 o2 n2 c2 : Nat) : runH Fabg.prog (Instr.build 57 #[(0, .slice a n c), (1, sl b2 o2 n2 c2)]) H k = k (.agg #[.slice a n c, sl b2 o2 n2 c2]) H := by kernel_rfl
theorem bd_25s_0 (b o n c : Nat) : runH Fabg.prog (Instr.build 25 #[(0, sl b o n c)]) H k = k (.agg #[sl b o n c, i16 0]) H := by kernel_rfl
theorem bd_77s_0 (b o n c : Nat) : runH Fabg.prog (Instr.build 77 #[(0, sl b o n c)]) H k = k (.agg #[sl b o n c, u64 0, u64 0, u64 0, u64 0, .slice none 0 0, .slice none 0 0, .slice none 0 0, .slice none 0 0, .slice none 0 0]) H := by kernel_rfl
theorem bd_57sn_0_1 (b o n c : Nat) (a2 : Option Addr) (n2 c2 : Nat) : runH Fabg.prog (Instr.build 57 #[(0, sl b o n c), (1, .slice a2 n2 c2)]) H k = k (.agg #[sl b o n c, .slice a2 n2 c2]) H := by kernel_rfl
theorem bd_57ss_0_1 (b o n c : Nat) (b2 o2 n2 c2 : Nat) : runH Fabg.prog (Instr.build 57 #[(0, sl b o n c), (1, sl b2 o2 n2 c2)]) H k = k (.agg #[sl b o n c, sl b2 o2 n2 c2]) H := by kernel_rfl
theorem bd_25_1 (x : Int16) : runH Fabg.prog (Instr.build 25 #[(1, i16 x)]) H k = k (.agg #[.slice none 0 0, i16 x]) H := by kernel_rfl
theorem bd_52_0_1_2_3_5 (a b c d : UInt8) (f : UInt16) : runH Fabg.prog (Instr.build 52 #[(0, u8 a), (1, u8 b), (2, u8 c), (3, u8 d), (5, u16 f)]) H k = k (opv ⟨a, b, c, d, 0, f, 0, ByteArray.empty⟩) H := by kernel_rfl
theorem bd_93_0_1 (a : UInt16) (b : Int16) : runH Fabg.prog (Instr.build 93 #[(0, u16 a), (1, i16 b)]) H k = k (.agg #[u16 a, i16 b]) H := by kernel_rfl
end
end Eng
end Go.Proofs.Ygcfab
