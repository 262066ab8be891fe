/-
  'Rows.EditBitesSaid', proved.
-/
import Derived.Test.YgcfabLiftE
import Derived.Test.YgcfabEb8
set_option linter.unusedSimpArgs false
set_option linter.unusedVariables false
namespace Go.Proofs.Ygcfab
namespace Eng
open Go.ChangeShapes Go.WideShapes Go.ChangeAt Go.RowKit Go.Deep

set_option maxRecDepth 100000 in
theorem u8_of_trod {H : Type} {enc : TypeId × Value → H} {w : World} {base : Nat} {v : Value} {d : DataW H} {p : List MemPlace} (hv : Value.okWide Fabg.prog w .any base 5 v) (h : DataW.Trod enc Fabg.prog w 0 (fun _ => true) true 5 v d p) : ∃ u, v = u8 u ∧ p = [] := by
  obtain ⟨n, rfl⟩ := okWide_int Fabg.underlying5 hv
  obtain ⟨fuel, hf⟩ := h
  obtain ⟨z, e1, e2, e3⟩ := DataW.trod_int (cs := [.int .u8 n]) Fabg.underlying5 hf
  simp only [List.cons.injEq, and_true] at e1
  rw [e1, wf_u8 e3]
  refine ⟨_, rfl, ?_⟩
  have := congrArg Prod.snd e2
  exact this
set_option maxRecDepth 100000 in
theorem lifted13 (os : Os) (started : os.Started) (H : Type) (enc : TypeId × Value → H) :
    ReturnsInHanded {} Fabg.checked os 13 .any (Rows.editBitesSpec.pre6 enc Fabg.prog Fabg.f13 Rows.editBitesRow.domain false) (Rows.editBitesSpec.post enc Fabg.prog Fabg.f13 false true false false) := by
  refine returnsInHanded_of_change (C := Fabg.checked) own started (by kernel_rfl) Fabg.func13
    (ChangeSpec.witness6 (enc := enc) (C := Fabg.checked) false ⟨#[], #[.slice Option.none 0 0, .int .u8 0], []⟩ 8 (by kernel_rfl) (by kernel_rfl) (by kernel_rfl) (by kernel_rfl)) ?_
  intro W base args ds gs before hval0 hW hcnd _
  have hval : ∀ (j : Nat) t v, Fabg.f13.params[j]? = some t → args[j]? = some v → Value.okWide Fabg.prog W .any base t v := hval0
  have hW' := hW
  obtain ⟨p, q, hA0, hV, rfl, hfz, hnd⟩ := hW
  have hA : DataW.TrodAll enc Fabg.prog W 0 (fun _ => true) true Fabg.f13.params.toList args.toList ds p := hA0
  have hpar : Fabg.f13.params = #[47, 5] := by kernel_rfl
  rw [hpar] at hA hval
  obtain ⟨v0, vs0, d0, ds0, p0, q0, hargs, rfl, rfl, h0, r0⟩ := trodAll_cons hA
  obtain ⟨v1, vs1, d1, ds1, p1, q1, hargs1, rfl, rfl, h1, r1⟩ := trodAll_cons r0
  obtain ⟨rfl, rfl, rfl⟩ := trodAll_nil r1
  obtain rfl : args = #[v0, v1] := by cases args; simp_all
  obtain ⟨rfl, rfl⟩ := trodVars_none hV
  have h0k := h0
  have h1k := h1
  obtain ⟨a', len', cap', rfl⟩ := okWide_slice Fabg.underlying47 (hval 0 47 v0 rfl rfl)
  obtain ⟨fuel, hf⟩ := h0
  obtain ⟨a, len, cap, F, hc, hs⟩ := slP_of_trod (c := .slice a' len' cap') hf
  injection hc with e1 e2 e3
  subst e1 e2 e3
  obtain ⟨u, rfl, rfl⟩ := u8_of_trod (hval 1 5 v1 rfl rfl) h1
  clear hA0 hval0 hval
  simp only [List.append_nil] at hW'
  refine ((editBites_ok _ _ _ F u (hp W) hs).run W (sat_hp W)).mono ?_
  rintro e W' ⟨v, H', rfl, hrel, rfl, hle⟩
  subst hle
  have hb := below_of_rel hrel (Le.refl _)
  refine ⟨_, rfl, [d0, d1], [], p0, [], p0, [], hW', ?_, ?_, rfl, hb.frame _, fun h => by cases h⟩
  · exact trodAll_mk1 (shut_bool Fabg.underlying4 _)
  · have k0 := Below.trod laidOut (by kernel_rfl) (of_decide_eq_true (by kernel_rfl)) h0k hb (fun x hx => hW'.lt x hx)
    have k1 := Below.trod laidOut (by kernel_rfl) (of_decide_eq_true (by kernel_rfl)) h1k hb (fun x hx => by cases hx)
    have := trodAll_mk2 k0 k1
    rw [List.append_nil] at this
    exact this
theorem editBites : Rows.EditBitesSaid :=
  OpenClaim.holds_of_wide 13 Fabg.f13 rfl rfl rfl rfl rfl rfl rfl ⟨rfl, rfl, rfl, rfl, rfl⟩ rfl rfl rfl rfl rfl (by kernel_rfl) Fabg.func13 (by kernel_rfl)
    (of_decide_eq_true (by kernel_rfl)) (by unfold Func.isWrapper; first | (rw [if_pos (by decide +kernel)]; kernel_rfl) | (rw [if_neg (by decide +kernel)]; exact ⟨rfl, rfl⟩))
    (fun os started H enc _ => lifted13 os started H enc)
end Eng
theorem editBites : Rows.EditBitesSaid := Eng.editBites
end Go.Proofs.Ygcfab
