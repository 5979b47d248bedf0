/- Part of the proof that for every input the function VersionLies returns true and each argument reads as it did. Texts: CdVersionLiesA. -/
import Derived.Test.YtehdcjbdhkkipaaGreatDoorRows
import Derived.ProofKit
set_option linter.unusedSimpArgs false
set_option linter.unusedVariables false
section
namespace Go.Proofs.YtehdcjbdhkkipaaGreatDoor
open Go.ChangeShapes Go.WideShapes Go.ChangeAt Go.WideMaps Go.WideElems Go.RowKit
set_option maxRecDepth 100000
set_option maxHeartbeats 4000000 in
theorem versionLies_facts:joinedFacts Tryz.prog 7 Tryz.f7 Rows.versionLiesSpec Rows.versionLiesRow=true:=by
 unfold joinedFacts
 simp only [Bool.and_eq_true]
 repeat' apply And.intro
 all_goals (as_aux_lemma=>kernel_rfl)
end Go.Proofs.YtehdcjbdhkkipaaGreatDoor
end
