/- Pc3: law 15's begun leaves that heap. Own work; a part of the proof of a claim. Conditions: none beyond those that stand in each theorem. -/
import Derived.Test.YteganidclpobeaaGreatPc1
import Derived.Test.YteganidclpobeaaGreatPc2
import Derived.Test.YteganidclpobeaaGreatEvT1
import Derived.KernelRfl
/- Pc3: law 15's begun leaves that heap. -/
set_option linter.unusedVariables false
set_option linter.unusedSimpArgs false
namespace Go.Den
open Go Go.Proofs
theorem begun15 : runIs (runF Tryz.prog plansZ 3000 40 82 [] emptyH) (.ptr 6 0) Hb15 = true := by kernel_rfl
end Go.Den
