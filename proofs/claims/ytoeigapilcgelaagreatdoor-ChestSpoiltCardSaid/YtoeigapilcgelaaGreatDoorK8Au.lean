/- Part of the proofs of laws of the package chest. Texts: ChEval. -/
import Derived.Test.YtoeigapilcgelaaGreatDoorK8At
set_option linter.unusedSimpArgs false
set_option linter.unusedVariables false
section
namespace Go.Den.Ch
def figsD : List Fig := [⟨4,3,0⟩,⟨3,2,0⟩,⟨5,2,1⟩,⟨2,3,1⟩,⟨6,1,2⟩,⟨6,2,1⟩]
theorem e_wrong : wrongR clC [0,1,1,0,2] = (some ⟨4,3,1⟩,0) := by decide +kernel
theorem e_list : listB clC = true := by decide +kernel
theorem e_many : (rightsL clC).length = 2 := by decide +kernel
theorem e_best : bestR clC = ([0,0,1,0,2],3,0) := by decide +kernel
theorem e_known : knownR clC = ([(0,0),(0,1),(1,1),(0,1),(2,2)],0) := by decide +kernel
theorem e_groups : groupsR clC = ([0,1,2,1,3],0) := by decide +kernel
theorem e_out : outR clC [0,0,1,0,2] [2] = ([0,1,3],0) := by decide +kernel
theorem e_ease : easeR clC = ([0,1,1,1,2],5,0) := by decide +kernel
theorem e_later : laterR clC [0,0,1,0,2] ⟨3,2,2⟩ = ([0,0,1,0,2,1],0,0) := by decide +kernel
theorem e_room : roomR clD = (11,0) := by decide +kernel
theorem e_clash : clashR clD = ([0,1,2,4,5],0) := by decide +kernel
theorem e_chests : chestsR clD = ([0,0,0,0,0,1],2,0) := by decide +kernel
end Go.Den.Ch
end
