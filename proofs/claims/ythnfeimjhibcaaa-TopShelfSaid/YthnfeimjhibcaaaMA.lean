/- Closed facts of the row of the statement TopShelf; no condition. Texts: CdTopShelfA. -/
import Derived.Test.YthnfeimjhibcaaaRows
import Derived.ProofKit
set_option linter.unusedSimpArgs false
set_option linter.unusedVariables false
section
namespace Go.Proofs.Ythnfeimjhibcaaa
open Go.ChangeShapes Go.WideShapes Go.ChangeAt Go.WideMaps Go.WideElems Go.RowKit
set_option maxRecDepth 100000
set_option maxHeartbeats 4000000 in
theorem topShelf_facts:joinedFacts Try.prog 4 Try.f4 Rows.topShelfSpec Rows.topShelfRow=true:=by
 unfold joinedFacts
 simp only [Bool.and_eq_true]
 repeat' apply And.intro
 all_goals (as_aux_lemma=>kernel_rfl)
end Go.Proofs.Ythnfeimjhibcaaa
end
