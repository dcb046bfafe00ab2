/- Texts of a small semantics over the model and of specifications of functions, joined: K13c. -/
import Derived.Test.YtlnndndpaakjfaaGreatDoorP25
set_option linter.unusedSimpArgs false
set_option linter.unusedVariables false
namespace Go.LI.T
open Go Go.LI Go.Proofs
set_option maxRecDepth 100000
set_option maxHeartbeats 4000000
theorem run13 : callX τ T13 (run τ T13 100000) 39 [] = some (.v (.bool true)) := by kernel_rfl
/-- known: it holds. -/
theorem known13 : CallSpec Tryz.prog 39 [] (.v (.bool true)) := callX_spec T13_ok 100000 run13
end Go.LI.T
