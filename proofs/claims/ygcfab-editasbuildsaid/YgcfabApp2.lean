/-
  Slices that a function owns: the program's own types.
-/
import Derived.Test.YgcfabApp
set_option linter.unusedSimpArgs false
set_option linter.unusedVariables false
set_option maxRecDepth 100000
namespace Go.Proofs.Ygcfab
namespace Eng

structure AllocS (H : Heap) (o : Obj) (n c : Nat) (k : Value → Heap → Prop) : Prop where
  run : ∀ b, H b = none → k (sl b 0 n c) (upd H b (some o))
section
variable {H : Heap} {k : Value → Heap → Prop}
theorem room_eq {P : Program} (c : Nat) (K : Unit → Heap → Prop) : runH P (askRoom c) H K = K () H := by
  unfold askRoom
  rw [runH_ite]
  split
  · rfl
  · rfl
theorem info_of {P : Program} {e : TypeId} {B : Nat} (h : (P.info? e).map TypeInfo.bytes = some B) : ∃ inf : TypeInfo, inf.bytes = B ∧ ∀ (H : Heap) (k : TypeInfo → Heap → Prop), runH P (typeInfo e) H k = k inf H := by
  cases hi : P.info? e with
  | none => rw [hi] at h; cases h
  | some inf =>
    rw [hi] at h
    refine ⟨inf, by simpa using h, fun H k => ?_⟩
    simp only [typeInfo, runH_bind, program, runH, hi, runH_pure]
theorem make_eq {P : Program} {t e : TypeId} {z : Value} {inf : TypeInfo} (ht : P.underlying t = some (.slice e)) (hs : ∀ (H : Heap) (k : Nat → Heap → Prop), runH P (sizeOf e) H k = k 1 H)
    (hz : ∀ (H : Heap) (k : Value → Heap → Prop), runH P (zeroValue e) H k = k z H) (hzc : z.cells = #[z]) (hinf : ∀ (H : Heap) (k : TypeInfo → Heap → Prop), runH P (typeInfo e) H k = k inf H) (hbytes : inf.bytes ≤ 1000) (n c : Nat) (hn : n ≤ c) (hc : c ≤ 1000) :
    runH P (Instr.makeSlice t (.int .i64 n) (.int .i64 c)) H k = AllocS H (fblk c (fun _ => z) e) n c k := by
  unfold Instr.makeSlice
  rw [runH_underlying ht]
  have w1 : IntKind.i64.wrap (n : Int) = n := w64_id (by omega) (by omega)
  have w2 : IntKind.i64.wrap (c : Int) = c := w64_id (by omega) (by omega)
  have hb : (inf.bytes : Int) * (c : Int) ≤ 1000 * 1000 := by
    have : inf.bytes * c ≤ 1000 * 1000 := Nat.mul_le_mul hbytes hc
    omega
  have hb2 : ¬ ((inf.bytes : Int) * (c : Int) > 2 ^ 48) := by omega
  have ha : ∀ (m : Nat) (K : IntKind × Int → Heap → Prop), runH P (asIntOf (Value.int IntKind.i64 m)) H K = K (.i64, (m : Int)) H := fun _ _ => rfl
  simp only [runH_bind, asInt, runH_pure, hinf, runH_ite, hs, hz, room_eq, ha, w1, w2, hb2]
  have c1 : ¬ ((decide ((c : Int) < 0) || decide False || decide ((n : Int) < 0) || decide ((n : Int) > (c : Int))) = true) := by
    simp; omega
  rw [if_neg c1]
  have e1 : ∀ z' : Array Value, (c : Int).toNat * 1 = 0 ∨ z' = #[z] → (Array.range ((c : Int).toNat * 1)).map (fun x => z'[x % z'.size]!) = fcells c (fun _ => z) := by
    intro z' h
    apply Array.ext
    · simp [fcells]
    · intro i h1 h2
      rcases h with h | rfl
      · simp at h1 h; omega
      · simp [fcells, Nat.mod_one]
  by_cases h0 : (c : Int).toNat * 1 = 0
  · rw [if_pos h0, e1 _ (.inl h0)]
    simp only [newRow, runH_bind, newObj, runH, runH_pure, Int.toNat_natCast]
    exact propext ⟨fun h => ⟨h⟩, fun h => h.run⟩
  · rw [if_neg h0, hzc, e1 _ (.inr rfl)]
    simp only [newRow, runH_bind, newObj, runH, runH_pure, Int.toNat_natCast]
    exact propext ⟨fun h => ⟨h⟩, fun h => h.run⟩
theorem mk_26 (n c : Nat) (hn : n ≤ c) (hc : c ≤ 1000) : runH Fabg.prog (Instr.makeSlice 26 (.int .i64 n) (.int .i64 c)) H k = AllocS H (fblk c (fun _ => u64 0) 30) n c k := by
  obtain ⟨inf, h1, h2⟩ := info_of (P := Fabg.prog) (e := 30) (B := 8) (by kernel_rfl)
  exact make_eq Fabg.underlying26 (fun _ _ => by kernel_rfl) (fun _ _ => by kernel_rfl) rfl h2 (by omega) n c hn hc
theorem app_26 {ty : TypeId} {v : Value} {n : Nat} {f : Nat → Value} {ob : Option Nat} (h : OwnS 1 30 H v n f ob) {x : Value} {m : Nat} {xs : List Value} (hx : SrcS H x m 1 xs) (hx1 : ∀ v, v ∈ xs → v.oneCell' = true) (hn : n + m ≤ 1000)
    (hk : ∀ v' G' ob', OwnS 1 30 G' v' (n + m) (appF 1 n f xs) ob' → (∀ c, ob ≠ some c → H c ≠ none → G' c = H c) → (ob' = ob ∨ ∃ c, ob' = some c ∧ H c = none) → k v' G') :
    runH Fabg.prog (Builtin.append_ #[26, 26] ty #[v, x]) H k := by
  obtain ⟨inf, h1, h2⟩ := info_of (P := Fabg.prog) (e := 30) (B := 8) (by kernel_rfl)
  exact append_intro (s := 1) Fabg.underlying26 (fun _ _ => by kernel_rfl) (z := u64 0) (fun _ _ => by kernel_rfl) rfl h2 (by rw [h1]; decide) h hx hx1 hn (by decide) hk
theorem app_100 {ty : TypeId} {v : Value} {n : Nat} {f : Nat → Value} {ob : Option Nat} (h : OwnS 1 23 H v n f ob) {x : Value} {m : Nat} {xs : List Value} (hx : SrcS H x m 1 xs) (hx1 : ∀ v, v ∈ xs → v.oneCell' = true) (hn : n + m ≤ 1000)
    (hk : ∀ v' G' ob', OwnS 1 23 G' v' (n + m) (appF 1 n f xs) ob' → (∀ c, ob ≠ some c → H c ≠ none → G' c = H c) → (ob' = ob ∨ ∃ c, ob' = some c ∧ H c = none) → k v' G') :
    runH Fabg.prog (Builtin.append_ #[100, 100] ty #[v, x]) H k := by
  obtain ⟨inf, h1, h2⟩ := info_of (P := Fabg.prog) (e := 23) (B := 2) (by kernel_rfl)
  exact append_intro (s := 1) Fabg.underlying100 (fun _ _ => by kernel_rfl) (z := i16 0) (fun _ _ => by kernel_rfl) rfl h2 (by rw [h1]; decide) h hx hx1 hn (by decide) hk
theorem app_22 {ty : TypeId} {v : Value} {n : Nat} {f : Nat → Value} {ob : Option Nat} (h : OwnS 4 102 H v n f ob) {x : Value} {m : Nat} {xs : List Value} (hx : SrcS H x m 4 xs) (hx1 : ∀ v, v ∈ xs → v.oneCell' = true) (hn : n + m ≤ 1000)
    (hk : ∀ v' G' ob', OwnS 4 102 G' v' (n + m) (appF 4 n f xs) ob' → (∀ c, ob ≠ some c → H c ≠ none → G' c = H c) → (ob' = ob ∨ ∃ c, ob' = some c ∧ H c = none) → k v' G') :
    runH Fabg.prog (Builtin.append_ #[22, 22] ty #[v, x]) H k := by
  obtain ⟨inf, h1, h2⟩ := info_of (P := Fabg.prog) (e := 102) (B := 56) (by kernel_rfl)
  exact append_intro (s := 4) Fabg.underlying22 (fun _ _ => by kernel_rfl) (z := .agg #[u8 0, u8 0, .slice none 0 0, .slice none 0 0]) (fun _ _ => by kernel_rfl) rfl h2 (by rw [h1]; decide) h hx hx1 hn (by decide) hk
theorem bs_100 (x : Int16) : runH Fabg.prog (Instr.buildSlice 100 1 #[(0, i16 x)]) H k = AllocS H (fblk 1 (lget [i16 x]) 23) 1 1 k := by
  have key : runH Fabg.prog (Instr.buildSlice 100 1 #[(0, i16 x)]) H k = ∀ b, H b = none → k (.slice (some ⟨b, 0, none⟩) 1 1) (upd H b (some (.cells [i16 x].toArray 23 (0, 0)))) := by kernel_rfl
  rw [key, cells_of_list]
  exact propext ⟨fun h => ⟨h⟩, fun h => h.run⟩
theorem bs_22 (a b' c d : Value) : runH Fabg.prog (Instr.buildSlice 22 1 #[(0, .agg #[a, b', c, d])]) H k = AllocS H (fblk 4 (lget [a, b', c, d]) 102) 1 1 k := by
  have key : runH Fabg.prog (Instr.buildSlice 22 1 #[(0, .agg #[a, b', c, d])]) H k = ∀ b, H b = none → k (.slice (some ⟨b, 0, none⟩) 1 1) (upd H b (some (.cells [a, b', c, d].toArray 102 (0, 0)))) := by kernel_rfl
  rw [key, cells_of_list]
  exact propext ⟨fun h => ⟨h⟩, fun h => h.run⟩
theorem copy_26 {ty : TypeId} {b n c m : Nat} {v : Value} {A : Nat → UInt64} (hb : H b = some (fblk n (fun _ => u64 0) 30)) (hv : SlU H v m A)
    (hk : k (.int .i64 (min m n : Nat)) (upd H b (some (fblk n (fun i => u64 (if i < m then A i else 0)) 30)))) : runH Fabg.prog (Builtin.copy_ #[26, 26] ty #[sl b 0 n c, v]) H k := by
  unfold Builtin.copy_
  simp only [List.getElem?_toArray, List.getElem?_cons_zero, List.getElem?_cons_succ]
  rw [runH_underlying Fabg.underlying26]
  have hs : ∀ (H : Heap) (k : Nat → Heap → Prop), runH Fabg.prog (sizeOf 30) H k = k 1 H := fun _ _ => by kernel_rfl
  have hsrc : SrcS H (match v with | .slice a _ c => .slice a (min m n) c | v => v) (min m n) 1 ((List.range (min m n)).map (fun i => u64 (A i))) := by
    refine ⟨by simp, ?_⟩
    rcases hv with ⟨a, cap, rfl, rfl⟩ | ⟨b', o, cap, rfl, _, hr⟩
    · exact .inl ⟨a, cap, by simp, by simp⟩
    · refine .inr ⟨b', o, cap, rfl, fun i hi => ?_⟩
      rw [lget_map_range _ _ _ (by omega)]
      exact hr i (by omega)
  have hlen : ∀ K : Nat → Heap → Prop, runH Fabg.prog (Builtin.lenOf v) H K = K m H := by
    rcases hv with ⟨a, cap, rfl, rfl⟩ | ⟨b', o, cap, rfl, _, hr⟩ <;> intro K <;> rfl
  have hfirst : ∀ K : Array Value → Heap → Prop, runH Fabg.prog (Builtin.firstCells 1 (min m n) v) H K = K ((List.range (min m n)).map (fun i => u64 (A i))).toArray H := by
    intro K
    refine Eq.trans ?_ (firstCells_src (P := Fabg.prog) hsrc K)
    rcases hv with ⟨a, cap, rfl, rfl⟩ | ⟨b', o, cap, rfl, _, hr⟩
    · cases a <;> rfl
    · rfl
  simp only [sl, runH_bind, hs, hlen, runH_pure]
  show runH Fabg.prog (Builtin.firstCells 1 (min m n) v) H _
  rw [hfirst, runH_storeCells _ _ _ _ _ (by
    intro x hx
    rw [List.toList_toArray, List.mem_map] at hx
    obtain ⟨i, _, rfl⟩ := hx
    exact oneCell_u64 _)]
  refine wrsK_fblk _ 0 H _ _ hb (by simp; omega) ?_
  have e : (if ((List.range (min m n)).map (fun i => u64 (A i))).toArray.toList = [] then H else upd H b (some (fblk n (upds (fun _ => u64 0) 0 ((List.range (min m n)).map (fun i => u64 (A i))).toArray.toList) 30))) = upd H b (some (fblk n (fun i => u64 (if i < m then A i else 0)) 30)) := by
    have e2 : fblk n (upds (fun _ => u64 0) 0 ((List.range (min m n)).map (fun i => u64 (A i)))) 30 = fblk n (fun i => u64 (if i < m then A i else 0)) 30 := by
      apply fblk_congr
      intro i hi
      rw [upds_get]
      by_cases h : i < m
      · rw [if_pos ⟨by omega, by simp; omega⟩, lget_map_range _ _ _ (by omega), if_pos h]; simp
      · rw [if_neg (by simp; omega), if_neg h]
    split
    · rename_i h0
      have h1 : min m n = 0 := by simpa using h0
      rw [← e2, h1]
      exact (upd_self hb).symm
    · rw [List.toList_toArray, e2]
  rw [e]
  exact hk
end
end Eng
end Go.Proofs.Ygcfab
