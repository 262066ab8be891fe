/-
  From contracts over what is known of the heap to the rows: what an argument's reading says.
-/
import Derived.Test.YgcfabLaw3
import Derived.Test.YgcfabRows
import Derived.WalkKit
import Derived.ProofKit
import Derived.Carry
import Derived.Deep.Slices
set_option linter.unusedSimpArgs false
set_option linter.unusedVariables false
set_option maxRecDepth 100000
namespace Go.Proofs.Ygcfab
namespace Eng
open Go.ChangeShapes Go.WideShapes Go.ChangeAt Go.RowKit Go.Deep

def hp (w : World) : Heap := fun b => w.heap[b]?
theorem sat_hp (w : World) : Sat w (hp w) := fun b o h => h
theorem rd_hp (w : World) (b o : Nat) : rd (hp w) b o = w.cell? ⟨b, o, Option.none⟩ := rfl
theorem below_of_rel {w w' : World} {H' : Heap} (h : Rel (hp w) w H' w') (hl : Le (hp w) H') : Below w.heap.size w w' := by
  refine ⟨h.os, h.tape, h.output, h.size, fun k hk => ?_⟩
  have e : hp w k = some w.heap[k] := Array.getElem?_eq_getElem hk
  rw [h.sat k _ (hl k _ e)]
  exact e.symm
theorem own : ownKnob Fabg.prog.godebug = Option.none := by kernel_rfl
theorem cells30 : Fabg.prog.cellsOf 30 = 1 := by kernel_rfl
theorem cells23 : Fabg.prog.cellsOf 23 = 1 := by kernel_rfl
theorem cells102 : Fabg.prog.cellsOf 102 = 4 := by kernel_rfl
theorem cells25 : Fabg.prog.cellsOf 25 = 2 := by kernel_rfl
theorem laidOut : laidOutB Fabg.prog = true := by kernel_rfl
theorem wf_u64 {n : Int} (h : (Lit.int .u64 n).wf = true) : Value.int .u64 n = u64 (UInt64.ofNat n.toNat) := by
  have h1 : 0 ≤ n ∧ n ≤ 18446744073709551615 := by
    simp [Lit.wf, IntKind.min, IntKind.max, IntKind.signed, IntKind.bits] at h
    omega
  unfold u64
  rw [UInt64.toNat_ofNat']
  congr 1
  omega
theorem wf_u8 {n : Int} (h : (Lit.int .u8 n).wf = true) : Value.int .u8 n = u8 (UInt8.ofNat n.toNat) := by
  have h1 : 0 ≤ n ∧ n ≤ 255 := by
    simp [Lit.wf, IntKind.min, IntKind.max, IntKind.signed, IntKind.bits] at h
    omega
  unfold u8
  rw [UInt8.toNat_ofNat']
  congr 1
  omega
theorem wf_i16 {n : Int} (h : (Lit.int .i16 n).wf = true) : Value.int .i16 n = i16 (Int16.ofInt n) := by
  have h1 : -32768 ≤ n ∧ n ≤ 32767 := by
    simp [Lit.wf, IntKind.min, IntKind.max, IntKind.signed, IntKind.bits] at h
    omega
  unfold i16
  congr 1
  rw [Int16.toInt_ofInt]
  have e : (Int16.size : Int) = 65536 := rfl
  rw [Int.bmod_def]
  simp only [e]
  omega
theorem maxLen_le {n : Nat} (h : n ≤ maxLen) : n ≤ 9223372036854775807 := h
theorem add_plain (b o i : Nat) : Addr.add ⟨b, o, Option.none⟩ i = ⟨b, o + i, Option.none⟩ := by
  unfold Addr.add
  by_cases h : i = 0 <;> simp [h]
def litOf : Value → Int
  | .int _ n => n
  | _ => 0
section
variable {H : Type} {enc : TypeId × Value → H} {w : World} {fuel : Nat} {c : Value} {x : DataW H × List MemPlace}
theorem slU_of_trod (h : DataW.trod enc Fabg.prog w 0 (fun _ => true) true fuel 26 [c] = some x) : ∃ len A, SlU (hp w) c len A ∧ len ≤ 9223372036854775807 := by
  rcases open_slice1 Fabg.underlying26 cells30 h with ⟨hc, _⟩ | ⟨a, len, cap, m, n, V, D, Pl, hc, _, hl, hm, hmm, _, hV⟩
  · cases hc
    exact ⟨0, fun _ => 0, .inl ⟨_, _, rfl, rfl⟩, by omega⟩
  · cases hc
    simp only [if_true] at hmm
    subst hmm
    refine ⟨len, fun i => UInt64.ofNat (litOf (V i)).toNat, ?_, Nat.le_trans hl (maxLen_le hm)⟩
    by_cases h0 : len = 0
    · subst h0; exact .inl ⟨_, _, rfl, rfl⟩
    · obtain ⟨b, off, spot⟩ := a
      have hs : spot = Option.none := by simpa [Addr.add] using World.cell?_spot (hV 0 (by omega)).1
      subst hs
      refine .inr ⟨b, off, _, rfl, by omega, fun i hi => ?_⟩
      obtain ⟨v1, v2⟩ := hV i (by omega)
      obtain ⟨z, e1, _, e2⟩ := DataW.trod_int Fabg.underlying30 v2
      simp only [List.cons.injEq, and_true] at e1
      have e3 : litOf (V i) = z := by rw [e1]; rfl
      show rd (hp w) b (off + i) = some (u64 (UInt64.ofNat (litOf (V i)).toNat))
      rw [e3, rd_hp, ← add_plain, v1, e1, wf_u64 e2]
theorem slI_of_trod (h : DataW.trod enc Fabg.prog w 0 (fun _ => true) true fuel 100 [c] = some x) : ∃ len A, SlI (hp w) c len A ∧ len ≤ 9223372036854775807 := by
  rcases open_slice1 Fabg.underlying100 cells23 h with ⟨hc, _⟩ | ⟨a, len, cap, m, n, V, D, Pl, hc, _, hl, hm, hmm, _, hV⟩
  · cases hc
    exact ⟨0, fun _ => 0, .inl ⟨_, _, rfl, rfl⟩, by omega⟩
  · cases hc
    simp only [if_true] at hmm
    subst hmm
    refine ⟨len, fun i => Int16.ofInt (litOf (V i)), ?_, Nat.le_trans hl (maxLen_le hm)⟩
    by_cases h0 : len = 0
    · subst h0; exact .inl ⟨_, _, rfl, rfl⟩
    · obtain ⟨b, off, spot⟩ := a
      have hs : spot = Option.none := by simpa [Addr.add] using World.cell?_spot (hV 0 (by omega)).1
      subst hs
      refine .inr ⟨b, off, _, rfl, by omega, fun i hi => ?_⟩
      obtain ⟨v1, v2⟩ := hV i (by omega)
      obtain ⟨z, e1, _, e2⟩ := DataW.trod_int Fabg.underlying23 v2
      simp only [List.cons.injEq, and_true] at e1
      have e3 : litOf (V i) = z := by rw [e1]; rfl
      show rd (hp w) b (off + i) = some (i16 (Int16.ofInt (litOf (V i))))
      rw [e3, rd_hp, ← add_plain, v1, e1, wf_i16 e2]
theorem nodeAt_of_trod {b o : Nat} {cs : List Value} (hcs : w.cells? 0 ⟨b, o, Option.none⟩ 4 = some cs) (h : DataW.trod enc Fabg.prog w 0 (fun _ => true) true fuel 102 cs = some x) : ∃ n, NodeAt (hp w) b o n := by
  obtain ⟨_, hlen, hcell⟩ := World.cells?_some hcs
  match cs, hlen with
  | [c0, c1, c2, c3], _ =>
    obtain ⟨xs, k, _, _, _, hxl, hf⟩ := DataW.trod_struct Fabg.underlying102 h
    have k0 := hf 0 _ rfl
    have k1 := hf 1 _ rfl
    have k2 := hf 2 _ rfl
    have k3 := hf 3 _ rfl
    match xs, hxl with
    | [y0, y1, y2, y3], _ =>
      have t0 : DataW.trod enc Fabg.prog w 0 (fun _ => true) true k 5 [c0] = some y0 := k0
      have t1 : DataW.trod enc Fabg.prog w 0 (fun _ => true) true k 5 [c1] = some y1 := k1
      have t2 : DataW.trod enc Fabg.prog w 0 (fun _ => true) true k 26 [c2] = some y2 := k2
      have t3 : DataW.trod enc Fabg.prog w 0 (fun _ => true) true k 100 [c3] = some y3 := k3
      obtain ⟨z0, e0, _, f0⟩ := DataW.trod_int Fabg.underlying5 t0
      obtain ⟨z1, e1, _, f1⟩ := DataW.trod_int Fabg.underlying5 t1
      simp only [List.cons.injEq, and_true] at e0 e1
      obtain ⟨nd, dat, s2, l2⟩ := slU_of_trod t2
      obtain ⟨nk, kid, s3, l3⟩ := slI_of_trod t3
      have r : ∀ i v, [c0, c1, c2, c3][i]? = some v → i < 4 → rd (hp w) b (o + i) = some v := by
        intro i v hv hi
        rw [rd_hp, ← add_plain, hcell i hi, hv]
      refine ⟨⟨UInt8.ofNat z0.toNat, UInt8.ofNat z1.toNat, nd, dat, nk, kid⟩, c2, c3, ?_, ?_, ?_, ?_, s2, s3, l2, l3⟩
      · have := r 0 c0 rfl (by omega)
        rw [e0, wf_u8 f0] at this
        exact this
      · have := r 1 c1 rfl (by omega)
        rw [e1, wf_u8 f1] at this
        exact this
      · exact r 2 c2 rfl (by omega)
      · exact r 3 c3 rfl (by omega)
theorem slN_of_trod (h : DataW.trod enc Fabg.prog w 0 (fun _ => true) true fuel 22 [c] = some x) : ∃ cnt N, SlN (hp w) c cnt N ∧ cnt ≤ 9223372036854775807 := by
  rcases open_slice Fabg.underlying22 h with ⟨hc, _⟩ | ⟨a, len, cap, m, n, D, Pl, hc, _, hl, hm, hmm, _, hV⟩
  · cases hc
    exact ⟨0, fun _ => ⟨0, 0, 0, fun _ => 0, 0, fun _ => 0⟩, .inl ⟨_, _, rfl, rfl⟩, by omega⟩
  · cases hc
    simp only [if_true] at hmm
    subst hmm
    rw [cells102] at hV
    by_cases h0 : len = 0
    · subst h0; exact ⟨0, fun _ => ⟨0, 0, 0, fun _ => 0, 0, fun _ => 0⟩, .inl ⟨_, _, rfl, rfl⟩, by omega⟩
    · obtain ⟨b, off, spot⟩ := a
      have hs : spot = Option.none := by
        obtain ⟨cs', v1, v2⟩ := hV 0 (by omega)
        obtain ⟨_, hlen, hcell⟩ := World.cells?_some v1
        have h1 := hcell 0 (by omega)
        rw [List.getElem?_eq_getElem (by omega)] at h1
        simpa [Addr.add] using World.cell?_spot h1
      subst hs
      have hN : ∀ i, i < len → ∃ n, NodeAt (hp w) b (off + i * 4) n := by
        intro i hi
        obtain ⟨cs', v1, v2⟩ := hV i (by omega)
        rw [add_plain] at v1
        exact nodeAt_of_trod v1 v2
      obtain ⟨N, hN⟩ := @choose_lt NodeL ⟨⟨0, 0, 0, fun _ => 0, 0, fun _ => 0⟩⟩ _ _ hN
      exact ⟨len, N, .inr ⟨b, off, _, rfl, by omega, hN⟩, Nat.le_trans hl (maxLen_le hm)⟩
theorem tree_of_trod {v : Value} {d : DataW H} {p : List MemPlace} {base : Nat} (hv : Value.okWide Fabg.prog w .any base 25 v) (h : DataW.Trod enc Fabg.prog w 0 (fun _ => true) true 25 v d p) :
    ∃ c root cnt N, v = .agg #[c, i16 root] ∧ SlN (hp w) c cnt N ∧ cnt ≤ 9223372036854775807 := by
  obtain ⟨cs, rfl, hsz⟩ := okWide_struct Fabg.underlying25 hv
  rw [cells25] at hsz
  obtain ⟨fuel, hf⟩ := h
  obtain ⟨l⟩ := cs
  match l, hsz with
  | [c0, c1], _ =>
    obtain ⟨xs, k, _, _, _, hxl, hfs⟩ := DataW.trod_struct Fabg.underlying25 hf
    have k0 := hfs 0 _ rfl
    have k1 := hfs 1 _ rfl
    match xs, hxl with
    | [y0, y1], _ =>
      have t0 : DataW.trod enc Fabg.prog w 0 (fun _ => true) true k 22 [c0] = some y0 := k0
      have t1 : DataW.trod enc Fabg.prog w 0 (fun _ => true) true k 23 [c1] = some y1 := k1
      obtain ⟨cnt, N, hN, hc⟩ := slN_of_trod t0
      obtain ⟨z, e1, _, f1⟩ := DataW.trod_int Fabg.underlying23 t1
      simp only [List.cons.injEq, and_true] at e1
      rw [wf_i16 f1] at e1
      subst e1
      exact ⟨c0, _, cnt, N, rfl, hN, hc⟩
end
end Eng
end Go.Proofs.Ygcfab
