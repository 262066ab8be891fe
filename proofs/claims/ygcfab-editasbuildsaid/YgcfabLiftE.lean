/-
  From contracts over what is known of the heap to the rows: a slice of Ops.
-/
import Derived.Test.YgcfabLift
import Derived.Test.YgcfabEv2
set_option linter.unusedSimpArgs false
set_option linter.unusedVariables false
set_option maxRecDepth 100000
namespace Go.Proofs.Ygcfab
namespace Eng
open Go.ChangeShapes Go.WideShapes Go.ChangeAt Go.RowKit Go.Deep
theorem cells52 : Fabg.prog.cellsOf 52 = 8 := by kernel_rfl
theorem wf_u16 {n : Int} (h : (Lit.int .u16 n).wf = true) : Value.int .u16 n = u16 (UInt16.ofNat n.toNat) := by
  have h1 : 0 ≤ n ∧ n ≤ 65535 := by
    simp [Lit.wf, IntKind.min, IntKind.max, IntKind.signed, IntKind.bits] at h
    omega
  unfold u16
  rw [UInt16.toNat_ofNat']
  congr 1
  omega
section
variable {H : Type} {enc : TypeId × Value → H} {w : World} {fuel : Nat} {c : Value} {x : DataW H × List MemPlace}
theorem opA_of_trod {b o : Nat} {cs : List Value} (hcs : w.cells? 0 ⟨b, o, Option.none⟩ 8 = some cs) (h : DataW.trod enc Fabg.prog w 0 (fun _ => true) true fuel 52 cs = some x) : ∃ n, OpA (hp w) b o n := by
  obtain ⟨_, hlen, hcell⟩ := World.cells?_some hcs
  match cs, hlen with
  | [c0, c1, c2, c3, c4, c5, c6, c7], _ =>
    obtain ⟨xs, k, _, _, _, hxl, hf⟩ := DataW.trod_struct Fabg.underlying52 h
    have k0 := hf 0 _ rfl
    have k1 := hf 1 _ rfl
    have k2 := hf 2 _ rfl
    have k3 := hf 3 _ rfl
    have k4 := hf 4 _ rfl
    have k5 := hf 5 _ rfl
    have k6 := hf 6 _ rfl
    have k7 := hf 7 _ rfl
    match xs, hxl with
    | [y0, y1, y2, y3, y4, y5, y6, y7], _ =>
      have t0 : DataW.trod enc Fabg.prog w 0 (fun _ => true) true k 5 [c0] = some y0 := k0
      have t1 : DataW.trod enc Fabg.prog w 0 (fun _ => true) true k 5 [c1] = some y1 := k1
      have t2 : DataW.trod enc Fabg.prog w 0 (fun _ => true) true k 5 [c2] = some y2 := k2
      have t3 : DataW.trod enc Fabg.prog w 0 (fun _ => true) true k 5 [c3] = some y3 := k3
      have t4 : DataW.trod enc Fabg.prog w 0 (fun _ => true) true k 5 [c4] = some y4 := k4
      have t5 : DataW.trod enc Fabg.prog w 0 (fun _ => true) true k 50 [c5] = some y5 := k5
      have t6 : DataW.trod enc Fabg.prog w 0 (fun _ => true) true k 30 [c6] = some y6 := k6
      have t7 : DataW.trod enc Fabg.prog w 0 (fun _ => true) true k 9 [c7] = some y7 := k7
      clear k0 k1 k2 k3 k4 k5 k6 k7 hf h
      obtain ⟨z0, e0, _, f0⟩ := DataW.trod_int Fabg.underlying5 t0
      obtain ⟨z1, e1, _, f1⟩ := DataW.trod_int Fabg.underlying5 t1
      obtain ⟨z2, e2, _, f2⟩ := DataW.trod_int Fabg.underlying5 t2
      obtain ⟨z3, e3, _, f3⟩ := DataW.trod_int Fabg.underlying5 t3
      obtain ⟨z4, e4, _, f4⟩ := DataW.trod_int Fabg.underlying5 t4
      obtain ⟨z5, e5, _, f5⟩ := DataW.trod_int Fabg.underlying50 t5
      obtain ⟨z6, e6, _, f6⟩ := DataW.trod_int Fabg.underlying30 t6
      obtain ⟨z7, e7, _, f7⟩ := DataW.trod_string Fabg.underlying9 t7
      simp only [List.cons.injEq, and_true] at e0 e1 e2 e3 e4 e5 e6 e7
      have r : ∀ i v, [c0, c1, c2, c3, c4, c5, c6, c7][i]? = some v → i < 8 → rd (hp w) b (o + i) = some v := by
        intro i v hv hi
        rw [rd_hp, ← add_plain, hcell i hi, hv]
      refine ⟨⟨UInt8.ofNat z0.toNat, UInt8.ofNat z1.toNat, UInt8.ofNat z2.toNat, UInt8.ofNat z3.toNat, UInt8.ofNat z4.toNat, UInt16.ofNat z5.toNat, UInt64.ofNat z6.toNat, z7⟩, ?_, ?_, ?_, ?_, ?_, ?_, ?_, ?_⟩
      · have := r 0 c0 rfl (by omega)
        rw [e0, wf_u8 f0] at this
        exact this
      · have := r 1 c1 rfl (by omega)
        rw [e1, wf_u8 f1] at this
        exact this
      · have := r 2 c2 rfl (by omega)
        rw [e2, wf_u8 f2] at this
        exact this
      · have := r 3 c3 rfl (by omega)
        rw [e3, wf_u8 f3] at this
        exact this
      · have := r 4 c4 rfl (by omega)
        rw [e4, wf_u8 f4] at this
        exact this
      · have := r 5 c5 rfl (by omega)
        rw [e5, wf_u16 f5] at this
        exact this
      · have := r 6 c6 rfl (by omega)
        rw [e6, wf_u64 f6] at this
        exact this
      · have := r 7 c7 rfl (by omega)
        rw [e7] at this
        exact this
theorem slP_of_trod (h : DataW.trod enc Fabg.prog w 0 (fun _ => true) true fuel 47 [c] = some x) : ∃ a len cap F, c = .slice a len cap ∧ SlP (hp w) a len cap F := by
  rcases open_slice Fabg.underlying47 h with ⟨hc, _⟩ | ⟨a, len, cap, m, n, D, Pl, hc, _, hl, hm, hmm, _, hV⟩
  · cases hc
    exact ⟨_, 0, 0, fun _ => ⟨0, 0, 0, 0, 0, 0, 0, ByteArray.empty⟩, rfl, by omega, by omega, fun h => by omega⟩
  · cases hc
    simp only [if_true] at hmm
    subst hmm
    rw [cells52] at hV
    by_cases h0 : len = 0
    · subst h0; exact ⟨_, 0, _, fun _ => ⟨0, 0, 0, 0, 0, 0, 0, ByteArray.empty⟩, rfl, by omega, maxLen_le hm, fun h => by omega⟩
    · obtain ⟨b, off, spot⟩ := a
      have hs : spot = Option.none := by
        obtain ⟨cs', v1, v2⟩ := hV 0 (by omega)
        obtain ⟨_, hlen, hcell⟩ := World.cells?_some v1
        have h1 := hcell 0 (by omega)
        rw [List.getElem?_eq_getElem (by omega)] at h1
        simpa [Addr.add] using World.cell?_spot h1
      subst hs
      have hN : ∀ i, i < len → ∃ n, OpA (hp w) b (off + i * 8) n := by
        intro i hi
        obtain ⟨cs', v1, v2⟩ := hV i (by omega)
        rw [add_plain] at v1
        exact opA_of_trod v1 v2
      obtain ⟨N, hN⟩ := @choose_lt OpR ⟨⟨0, 0, 0, 0, 0, 0, 0, ByteArray.empty⟩⟩ _ _ hN
      exact ⟨_, len, _, N, rfl, hl, maxLen_le hm, fun _ => ⟨b, off, rfl, hN⟩⟩
end
end Eng
end Go.Proofs.Ygcfab
