/-
  'Rows.EditAsBuildSaid', proved.
-/
import Derived.Test.YgcfabLiftE
import Derived.Test.YgcfabBd17
set_option linter.unusedSimpArgs false
set_option linter.unusedVariables false
namespace Go.Proofs.Ygcfab
namespace Eng
open Go.ChangeShapes Go.WideShapes Go.ChangeAt Go.RowKit Go.Deep

set_option maxRecDepth 100000 in
theorem lifted8 (os : Os) (started : os.Started) (H : Type) (enc : TypeId × Value → H) :
    ReturnsInHanded {} Fabg.checked os 8 .any (Rows.editAsBuildSpec.pre6 enc Fabg.prog Fabg.f8 Rows.editAsBuildRow.domain false) (Rows.editAsBuildSpec.post enc Fabg.prog Fabg.f8 false true false false) := by
  refine returnsInHanded_of_change (C := Fabg.checked) own started (by kernel_rfl) Fabg.func8
    (ChangeSpec.witness6 (enc := enc) (C := Fabg.checked) false ⟨#[], #[.slice Option.none 0 0], []⟩ 8 (by kernel_rfl) (by kernel_rfl) (by kernel_rfl) (by kernel_rfl)) ?_
  intro W base args ds gs before hval0 hW hcnd _
  have hval : ∀ (j : Nat) t v, Fabg.f8.params[j]? = some t → args[j]? = some v → Value.okWide Fabg.prog W .any base t v := hval0
  have hW' := hW
  obtain ⟨p, q, hA0, hV, rfl, hfz, hnd⟩ := hW
  have hA : DataW.TrodAll enc Fabg.prog W 0 (fun _ => true) true Fabg.f8.params.toList args.toList ds p := hA0
  have hpar : Fabg.f8.params = #[47] := by kernel_rfl
  rw [hpar] at hA hval
  obtain ⟨v0, vs0, d0, ds0, p0, q0, hargs, rfl, rfl, h0, r0⟩ := trodAll_cons hA
  obtain ⟨rfl, rfl, rfl⟩ := trodAll_nil r0
  obtain rfl : args = #[v0] := by cases args; simp_all
  obtain ⟨rfl, rfl⟩ := trodVars_none hV
  have h0k := h0
  obtain ⟨a', len', cap', rfl⟩ := okWide_slice Fabg.underlying47 (hval 0 47 v0 rfl rfl)
  obtain ⟨fuel, hf⟩ := h0
  obtain ⟨a, len, cap, F, hc, hs⟩ := slP_of_trod (c := .slice a' len' cap') hf
  injection hc with e1 e2 e3
  subst e1 e2 e3
  clear hA0 hval0 hval
  simp only [List.append_nil] at hW'
  refine ((editAsBuild_ok _ _ _ F (hp W) hs).run W (sat_hp W)).mono ?_
  rintro e W' ⟨v, H', rfl, hrel, rfl, hle⟩
  subst hle
  have hb := below_of_rel hrel (Le.refl _)
  refine ⟨_, rfl, [d0], [], p0, [], p0, [], hW', ?_, ?_, rfl, hb.frame _, fun h => by cases h⟩
  · exact trodAll_mk1 (shut_bool Fabg.underlying4 _)
  · exact trodAll_mk1 (Below.trod laidOut (by kernel_rfl) (of_decide_eq_true (by kernel_rfl)) h0k hb (fun x hx => hW'.lt x hx))
theorem editAsBuild : Rows.EditAsBuildSaid :=
  OpenClaim.holds_of_wide 8 Fabg.f8 rfl rfl rfl rfl rfl rfl rfl ⟨rfl, rfl, rfl, rfl, rfl⟩ rfl rfl rfl rfl rfl (by kernel_rfl) Fabg.func8 (by kernel_rfl)
    (of_decide_eq_true (by kernel_rfl)) (by unfold Func.isWrapper; first | (rw [if_pos (by decide +kernel)]; kernel_rfl) | (rw [if_neg (by decide +kernel)]; exact ⟨rfl, rfl⟩))
    (fun os started H enc _ => lifted8 os started H enc)
end Eng
theorem editAsBuild : Rows.EditAsBuildSaid := Eng.editAsBuild
end Go.Proofs.Ygcfab
