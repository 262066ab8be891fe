/-
  No cell of these rows narrows 'for every input' (looked for: loops, veiled, ifaces, maps, wideKeys, modest, calm, conditions, laid).
  DERIVED. THE GIVEN ROWS OF THIS SEAT. 11 by the template 'for every input the law returns true; each argument reads behind the call as it read before'; 0 by the template 'total and deterministic' (their statements: YgcfabTotals.lean).
  GIVEN WITH THE SEED: the statements are not yours to turn. If you find one false, say at which input.
  Laid BY PROGRAM, IN A SANDBOX (cutbox-rows.mjs): the forced cells as the released guide's own fill.sh prints them over the translation feb2b498d7792c47… (all of the seat's roots in one cut). By AI agents, Wed Nov 11 2026. No macro, syntax, notation, axiom, sorry.
-/
import Derived.Test.YgcfabChecked
import GoSem.Claim
import GoSem.ClaimJoined
import GoSem.ClaimMapViews
import Derived.JoinedTies
import Derived.KernelRfl
namespace Go.Proofs.Ygcfab
/- THE CELL 'sum', in the pinned program and in every row, IS THE sha256 OF THE DUMP (.gsa) THAT YgcfabProg.lean LOADS. Nothing in Lean hashes anything: it is a label: what it is worth is what the hold of that sum in a sandbox is worth. -/
noncomputable def Fabg.pinned : Pinned := { name := "ygcfab", sum := "feb2b498d7792c471550d132c97e4c0618a23149e4e8ab1edaffdd30ab2ccafa", checked := Fabg.checked }
namespace Rows
def none {H : Type} : Left H := { results := [], args := [] }

/-- 'law.CanonTight': WHATEVER THE INPUT: true; the input reads as it did. -/
def canonTightSpec : ChangeSpec := { name := "canonTight", fn := fun _ => fun
  | [d] => { results := [.lit (.bool true)], args := [d] }
  | _ => none }
def canonTightRow : OpenClaim := { program := "ygcfab", sum := "feb2b498d7792c471550d132c97e4c0618a23149e4e8ab1edaffdd30ab2ccafa", func := "wordview/law.CanonTight", spec := "canonTight", apart := false }
def CanonTightSaid : Prop := canonTightRow.holds Fabg.pinned (OpenSpec.ofChange canonTightSpec)

/-- ITS FALSE NEIGHBOUR: 'it returns false'. Refute it at one input. -/
def canonTightWrong : ChangeSpec := { name := "canonTight", fn := fun _ => fun
  | [d] => { results := [.lit (.bool false)], args := [d] }
  | _ => none }
def CanonTightWrongFalsely : Prop := canonTightRow.holds Fabg.pinned (OpenSpec.ofChange canonTightWrong)

/-- 'law.CanonOrder': WHATEVER THE INPUT: true; the input reads as it did. -/
def canonOrderSpec : ChangeSpec := { name := "canonOrder", fn := fun _ => fun
  | [d] => { results := [.lit (.bool true)], args := [d] }
  | _ => none }
def canonOrderRow : OpenClaim := { program := "ygcfab", sum := "feb2b498d7792c471550d132c97e4c0618a23149e4e8ab1edaffdd30ab2ccafa", func := "wordview/law.CanonOrder", spec := "canonOrder", recurses := true, apart := false }
def CanonOrderSaid : Prop := canonOrderRow.holds Fabg.pinned (OpenSpec.ofChange canonOrderSpec)

/-- ITS FALSE NEIGHBOUR: 'it returns false'. Refute it at one input. -/
def canonOrderWrong : ChangeSpec := { name := "canonOrder", fn := fun _ => fun
  | [d] => { results := [.lit (.bool false)], args := [d] }
  | _ => none }
def CanonOrderWrongFalsely : Prop := canonOrderRow.holds Fabg.pinned (OpenSpec.ofChange canonOrderWrong)

/-- 'law.SchemaCodes': WHATEVER THE INPUT: true; the input reads as it did. -/
def schemaCodesSpec : ChangeSpec := { name := "schemaCodes", fn := fun _ => fun
  | [d] => { results := [.lit (.bool true)], args := [d] }
  | _ => none }
def schemaCodesRow : OpenClaim := { program := "ygcfab", sum := "feb2b498d7792c471550d132c97e4c0618a23149e4e8ab1edaffdd30ab2ccafa", func := "wordview/law.SchemaCodes", spec := "schemaCodes", apart := false }
def SchemaCodesSaid : Prop := schemaCodesRow.holds Fabg.pinned (OpenSpec.ofChange schemaCodesSpec)

/-- ITS FALSE NEIGHBOUR: 'it returns false'. Refute it at one input. -/
def schemaCodesWrong : ChangeSpec := { name := "schemaCodes", fn := fun _ => fun
  | [d] => { results := [.lit (.bool false)], args := [d] }
  | _ => none }
def SchemaCodesWrongFalsely : Prop := schemaCodesRow.holds Fabg.pinned (OpenSpec.ofChange schemaCodesWrong)

/-- 'law.EditApart': WHATEVER THE INPUT: true; the input reads as it did. -/
def editApartSpec : ChangeSpec := { name := "editApart", fn := fun _ => fun
  | [d] => { results := [.lit (.bool true)], args := [d] }
  | _ => none }
def editApartRow : OpenClaim := { program := "ygcfab", sum := "feb2b498d7792c471550d132c97e4c0618a23149e4e8ab1edaffdd30ab2ccafa", func := "wordview/law.EditApart", spec := "editApart", apart := false }
def EditApartSaid : Prop := editApartRow.holds Fabg.pinned (OpenSpec.ofChange editApartSpec)

/-- ITS FALSE NEIGHBOUR: 'it returns false'. Refute it at one input. -/
def editApartWrong : ChangeSpec := { name := "editApart", fn := fun _ => fun
  | [d] => { results := [.lit (.bool false)], args := [d] }
  | _ => none }
def EditApartWrongFalsely : Prop := editApartRow.holds Fabg.pinned (OpenSpec.ofChange editApartWrong)

/-- 'law.EditCompact': WHATEVER THE INPUT: true; the input reads as it did. -/
def editCompactSpec : ChangeSpec := { name := "editCompact", fn := fun _ => fun
  | [d] => { results := [.lit (.bool true)], args := [d] }
  | _ => none }
def editCompactRow : OpenClaim := { program := "ygcfab", sum := "feb2b498d7792c471550d132c97e4c0618a23149e4e8ab1edaffdd30ab2ccafa", func := "wordview/law.EditCompact", spec := "editCompact", apart := false }
def EditCompactSaid : Prop := editCompactRow.holds Fabg.pinned (OpenSpec.ofChange editCompactSpec)

/-- ITS FALSE NEIGHBOUR: 'it returns false'. Refute it at one input. -/
def editCompactWrong : ChangeSpec := { name := "editCompact", fn := fun _ => fun
  | [d] => { results := [.lit (.bool false)], args := [d] }
  | _ => none }
def EditCompactWrongFalsely : Prop := editCompactRow.holds Fabg.pinned (OpenSpec.ofChange editCompactWrong)

/-- 'law.EditAsBuild': WHATEVER THE INPUT: true; the input reads as it did. -/
def editAsBuildSpec : ChangeSpec := { name := "editAsBuild", fn := fun _ => fun
  | [d] => { results := [.lit (.bool true)], args := [d] }
  | _ => none }
def editAsBuildRow : OpenClaim := { program := "ygcfab", sum := "feb2b498d7792c471550d132c97e4c0618a23149e4e8ab1edaffdd30ab2ccafa", func := "wordview/law.EditAsBuild", spec := "editAsBuild", apart := false }
def EditAsBuildSaid : Prop := editAsBuildRow.holds Fabg.pinned (OpenSpec.ofChange editAsBuildSpec)

/-- ITS FALSE NEIGHBOUR: 'it returns false'. Refute it at one input. -/
def editAsBuildWrong : ChangeSpec := { name := "editAsBuild", fn := fun _ => fun
  | [d] => { results := [.lit (.bool false)], args := [d] }
  | _ => none }
def EditAsBuildWrongFalsely : Prop := editAsBuildRow.holds Fabg.pinned (OpenSpec.ofChange editAsBuildWrong)

/-- 'law.EditStep': WHATEVER THE INPUT: true; the input reads as it did. -/
def editStepSpec : ChangeSpec := { name := "editStep", fn := fun _ => fun
  | [d1, d2] => { results := [.lit (.bool true)], args := [d1, d2] }
  | _ => none }
def editStepRow : OpenClaim := { program := "ygcfab", sum := "feb2b498d7792c471550d132c97e4c0618a23149e4e8ab1edaffdd30ab2ccafa", func := "wordview/law.EditStep", spec := "editStep", apart := false }
def EditStepSaid : Prop := editStepRow.holds Fabg.pinned (OpenSpec.ofChange editStepSpec)

/-- ITS FALSE NEIGHBOUR: 'it returns false'. Refute it at one input. -/
def editStepWrong : ChangeSpec := { name := "editStep", fn := fun _ => fun
  | [d1, d2] => { results := [.lit (.bool false)], args := [d1, d2] }
  | _ => none }
def EditStepWrongFalsely : Prop := editStepRow.holds Fabg.pinned (OpenSpec.ofChange editStepWrong)

/-- 'law.EditSound': WHATEVER THE INPUT: true; the input reads as it did. -/
def editSoundSpec : ChangeSpec := { name := "editSound", fn := fun _ => fun
  | [d] => { results := [.lit (.bool true)], args := [d] }
  | _ => none }
def editSoundRow : OpenClaim := { program := "ygcfab", sum := "feb2b498d7792c471550d132c97e4c0618a23149e4e8ab1edaffdd30ab2ccafa", func := "wordview/law.EditSound", spec := "editSound", apart := false }
def EditSoundSaid : Prop := editSoundRow.holds Fabg.pinned (OpenSpec.ofChange editSoundSpec)

/-- ITS FALSE NEIGHBOUR: 'it returns false'. Refute it at one input. -/
def editSoundWrong : ChangeSpec := { name := "editSound", fn := fun _ => fun
  | [d] => { results := [.lit (.bool false)], args := [d] }
  | _ => none }
def EditSoundWrongFalsely : Prop := editSoundRow.holds Fabg.pinned (OpenSpec.ofChange editSoundWrong)

/-- 'law.EditPlay': WHATEVER THE INPUT: true; the input reads as it did. -/
def editPlaySpec : ChangeSpec := { name := "editPlay", fn := fun _ => fun
  | [d1, d2] => { results := [.lit (.bool true)], args := [d1, d2] }
  | _ => none }
def editPlayRow : OpenClaim := { program := "ygcfab", sum := "feb2b498d7792c471550d132c97e4c0618a23149e4e8ab1edaffdd30ab2ccafa", func := "wordview/law.EditPlay", spec := "editPlay", apart := false }
def EditPlaySaid : Prop := editPlayRow.holds Fabg.pinned (OpenSpec.ofChange editPlaySpec)

/-- ITS FALSE NEIGHBOUR: 'it returns false'. Refute it at one input. -/
def editPlayWrong : ChangeSpec := { name := "editPlay", fn := fun _ => fun
  | [d1, d2] => { results := [.lit (.bool false)], args := [d1, d2] }
  | _ => none }
def EditPlayWrongFalsely : Prop := editPlayRow.holds Fabg.pinned (OpenSpec.ofChange editPlayWrong)

/-- 'law.EditCheckMeans': WHATEVER THE INPUT: true; the input reads as it did. -/
def editCheckMeansSpec : ChangeSpec := { name := "editCheckMeans", fn := fun _ => fun
  | [d] => { results := [.lit (.bool true)], args := [d] }
  | _ => none }
def editCheckMeansRow : OpenClaim := { program := "ygcfab", sum := "feb2b498d7792c471550d132c97e4c0618a23149e4e8ab1edaffdd30ab2ccafa", func := "wordview/law.EditCheckMeans", spec := "editCheckMeans", apart := false }
def EditCheckMeansSaid : Prop := editCheckMeansRow.holds Fabg.pinned (OpenSpec.ofChange editCheckMeansSpec)

/-- ITS FALSE NEIGHBOUR: 'it returns false'. Refute it at one input. -/
def editCheckMeansWrong : ChangeSpec := { name := "editCheckMeans", fn := fun _ => fun
  | [d] => { results := [.lit (.bool false)], args := [d] }
  | _ => none }
def EditCheckMeansWrongFalsely : Prop := editCheckMeansRow.holds Fabg.pinned (OpenSpec.ofChange editCheckMeansWrong)

/-- 'law.EditBites': WHATEVER THE INPUT: true; the input reads as it did. -/
def editBitesSpec : ChangeSpec := { name := "editBites", fn := fun _ => fun
  | [d1, d2] => { results := [.lit (.bool true)], args := [d1, d2] }
  | _ => none }
def editBitesRow : OpenClaim := { program := "ygcfab", sum := "feb2b498d7792c471550d132c97e4c0618a23149e4e8ab1edaffdd30ab2ccafa", func := "wordview/law.EditBites", spec := "editBites", apart := false }
def EditBitesSaid : Prop := editBitesRow.holds Fabg.pinned (OpenSpec.ofChange editBitesSpec)

/-- ITS FALSE NEIGHBOUR: 'it returns false'. Refute it at one input. -/
def editBitesWrong : ChangeSpec := { name := "editBites", fn := fun _ => fun
  | [d1, d2] => { results := [.lit (.bool false)], args := [d1, d2] }
  | _ => none }
def EditBitesWrongFalsely : Prop := editBitesRow.holds Fabg.pinned (OpenSpec.ofChange editBitesWrong)

end Rows
end Go.Proofs.Ygcfab
