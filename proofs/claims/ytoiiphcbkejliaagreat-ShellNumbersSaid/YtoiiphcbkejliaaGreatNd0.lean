/- A text of this claim. -/
import Derived.Test.YtoiiphcbkejliaaGreatProg
import Derived.KernelRfl
import Derived.Test.YtoiiphcbkejliaaGreatNb0
import Derived.Test.YtoiiphcbkejliaaGreatNcx0
set_option maxRecDepth 100000
set_option maxHeartbeats 8000000
set_option linter.defProp false
set_option linter.unusedVariables false
set_option linter.unusedSimpArgs false
namespace Go.Proofs.YtoiiphcbkejliaaGreat.Cd
open Go Go.Dx
noncomputable def qp:Program:=⟨Tryz.progTables,Array.replicate 386 dm⟩
end Go.Proofs.YtoiiphcbkejliaaGreat.Cd
