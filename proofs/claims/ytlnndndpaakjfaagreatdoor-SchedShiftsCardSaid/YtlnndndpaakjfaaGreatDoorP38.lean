/- The law SchedShifts answers true at every input, and leaves its arguments as they were: the whole statement, with no condition. -/
import Derived.Test.YtlnndndpaakjfaaGreatDoorP20
import Derived.Test.YtlnndndpaakjfaaGreatDoorP37
set_option linter.unusedSimpArgs false
set_option linter.unusedVariables false
namespace Go.Proofs.YtlnndndpaakjfaaGreatDoor.schedShifts
set_option maxRecDepth 100000
set_option maxHeartbeats 2000000
open Go Go.ChangeShapes Go.WideShapes Go.ChangeAt Go.RowKit

theorem said : Rows.SchedShiftsSaid :=
  OpenClaim.holds_of_cond 16 Tryz.f16 rfl rfl rfl rfl rfl rfl rfl ⟨rfl, rfl, rfl, rfl, rfl⟩ rfl rfl rfl rfl rfl named Tryz.func16 facts inst wrap
    (fun os started H enc _ F => by rw [OpenClaim.pre_eq_preRow]; exact lifted os started H enc F)

/-- No parameter wants a stand-in; the program's own looks are off. -/
theorem plain (f : FuncId) (fn : Func) (hf : Tryz.pinned.checked.prog.funcNamed "jigsaw/jigsawlaw13.SchedShifts" = some f) (hfn : Tryz.pinned.checked.prog.funcs[f]? = some fn) :
    true = Tryz.pinned.checked.prog.looks [] ∧ ∀ (j : Nat) t, fn.params[j]? = some t → Tryz.pinned.checked.prog.wantsStandIn t = false := by
  obtain rfl : f = 16 := Option.some.inj (named.symm.trans hf) |>.symm
  obtain rfl : fn = Tryz.f16 := (Option.some.inj (Tryz.func16.symm.trans hfn)).symm
  refine ⟨by kernel_rfl, fun j t ht => ?_⟩
  rw [Tryz.params16] at ht
  have hm : t ∈ #[47, 47, 2] := Array.mem_of_getElem? ht
  simp only [List.mem_toArray, List.mem_cons, List.not_mem_nil, or_false] at hm
  rcases hm with rfl | rfl | rfl
  · exact (show Tryz.prog.wantsStandIn 47 = false by kernel_rfl)
  · exact (show Tryz.prog.wantsStandIn 47 = false by kernel_rfl)
  · exact (show Tryz.prog.wantsStandIn 2 = false by kernel_rfl)
end Go.Proofs.YtlnndndpaakjfaaGreatDoor.schedShifts
namespace Go.Proofs.YtlnndndpaakjfaaGreatDoor.schedShifts
set_option maxRecDepth 100000
set_option maxHeartbeats 2000000
open Go Go.ChangeShapes Go.WideShapes Go.ChangeAt Go.RowKit
theorem wf : Rows.schedShiftsRow.wfByText (OpenSpec.ofChange Rows.schedShiftsSpec) = true := by kernel_rfl
theorem mainIs : Tryz.pinned.checked.prog.mainIs = some (true, "dbd05a2dd0c9a6ee3040f8ca955fce4d13163fd9ad8b651639741d51bbd05a85".toList) := by kernel_rfl
theorem goes : false = Rows.schedShiftsRow.goesBy Tryz.pinned.checked.prog := by kernel_rfl
theorem card : Rows.SchedShiftsCardSaid :=
  Claim7.holds_tied_plain_at .later [] _ _ _ _ said (fun _ h => by cases h) wf (fun _ h => by cases h) schedShifts_row_tie rfl ⟨rfl, rfl⟩ mainIs rfl plain goes
#print axioms card
end Go.Proofs.YtlnndndpaakjfaaGreatDoor.schedShifts
