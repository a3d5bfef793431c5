/- morainelaw14's awake answers true: a closed run. Own work; a part of the proof of a claim. Conditions: none beyond those that stand in each theorem. -/
import Derived.Test.YteganidclpobeaaGreatEvT1
import Derived.Test.YteganidclpobeaaGreatEv23
import Derived.KernelRfl
set_option linter.unusedVariables false
set_option linter.unusedSimpArgs false
namespace Go.Den
open Go Go.Proofs
theorem aw14 : isTrue (runF Tryz.prog plansZ 3000 40 23 [] emptyH) = true := by kernel_rfl
end Go.Den
