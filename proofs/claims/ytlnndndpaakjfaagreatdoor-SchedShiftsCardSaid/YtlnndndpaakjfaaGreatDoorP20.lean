/- Texts of a small semantics over the model and of specifications of functions, joined: C2f. -/
import Derived.Test.YtlnndndpaakjfaaGreatDoorP19
set_option linter.unusedSimpArgs false
set_option linter.unusedVariables false
namespace Go.Proofs.YtlnndndpaakjfaaGreatDoor.schedShifts
set_option maxRecDepth 100000
set_option maxHeartbeats 2000000
open Go Go.ChangeShapes Go.WideShapes Go.ChangeAt Go.RowKit
theorem facts : joinedFacts Tryz.prog 16 Tryz.f16 (OpenSpec.ofChange Rows.schedShiftsSpec).bare Rows.schedShiftsRow = true := by
  unfold joinedFacts
  repeat' (with_reducible refine Bool.and_eq_true_iff.2 ⟨?_, ?_⟩)
  all_goals as_aux_lemma => kernel_rfl
end Go.Proofs.YtlnndndpaakjfaaGreatDoor.schedShifts
