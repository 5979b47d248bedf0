/- Part of the proof that for every input the function VersionFound returns true and each argument reads as it did. Texts: CdVersionFoundA. -/
import Derived.Test.YtehdcjbdhkkipaaGreatDoorRows
import Derived.ProofKit
set_option linter.unusedSimpArgs false
set_option linter.unusedVariables false
section
namespace Go.Proofs.YtehdcjbdhkkipaaGreatDoor
open Go.ChangeShapes Go.WideShapes Go.ChangeAt Go.WideMaps Go.WideElems Go.RowKit
set_option maxRecDepth 100000
set_option maxHeartbeats 4000000 in
theorem versionFound_facts:joinedFacts Tryz.prog 12 Tryz.f12 Rows.versionFoundSpec Rows.versionFoundRow=true:=by
 unfold joinedFacts
 simp only[Bool.and_eq_true]
 repeat' apply And.intro
 all_goals (as_aux_lemma=>kernel_rfl)
end Go.Proofs.YtehdcjbdhkkipaaGreatDoor
end
