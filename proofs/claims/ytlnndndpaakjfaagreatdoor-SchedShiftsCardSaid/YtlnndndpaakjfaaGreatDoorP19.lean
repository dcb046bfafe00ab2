/- Texts of a small semantics over the model and of specifications of functions, joined: C2a. -/
import Derived.Test.YtlnndndpaakjfaaGreatDoorP18
import Derived.Test.YtlnndndpaakjfaaGreatDoorCards
import Derived.Test.YtlnndndpaakjfaaGreatDoorTie
import Derived.WalkKit
import Derived.ProofKit
import Derived.OpenShut
import Derived.Deep.DeepHandedRow
import Derived.Lib.LaidTab
import Derived.Carry
set_option linter.unusedSimpArgs false
set_option linter.unusedVariables false
namespace Go.Proofs.YtlnndndpaakjfaaGreatDoor.schedShifts
set_option maxRecDepth 100000
set_option maxHeartbeats 2000000
open Go Go.ChangeShapes Go.WideShapes Go.ChangeAt Go.RowKit

theorem filter_range {p : Nat → Bool} {f : Nat} : ∀ n, (∀ i, i < n → p i = (i == f)) → (List.range n).filter p = if f < n then [f] else []
  | 0, _ => rfl
  | n + 1, h => by
    rw [List.range_succ, List.filter_append, filter_range n fun i hi => h i (by omega)]
    have hn := h n (by omega)
    by_cases e : n = f
    · subst e
      rw [if_neg (by omega), if_pos (by omega)]
      simp only [List.filter_cons, hn, beq_self_eq_true, if_true, List.filter_nil, List.nil_append]
    · have hn' : p n = false := by rw [hn]; simpa using e
      simp only [List.filter_cons, hn', Bool.false_eq_true, if_false, List.filter_nil, List.append_nil]
      by_cases e2 : f < n
      · rw [if_pos e2, if_pos (by omega)]
      · rw [if_neg e2, if_neg (by omega)]

theorem named_of {P : Program} {name : String} {f : Nat} (N : Nat) (hN : decide (P.funcs.size < N) = true) (hf : (P.funcs[f]?).any (·.name == name) = true) (h : ((List.range N).all fun i => i == f || !(P.funcs[i]?).any (·.name == name)) = true) : P.funcNamed name = some f := by
  have hN := of_decide_eq_true hN
  have hlt : f < P.funcs.size := by
    rcases Nat.lt_or_ge f P.funcs.size with h' | h'
    · exact h'
    · rw [Array.getElem?_eq_none h'] at hf; cases hf
  unfold Program.funcNamed
  rw [filter_range (f := f) _ fun i hi => ?_, if_pos hlt]
  by_cases e : i = f
  · subst e; rw [hf]; simp
  · have := List.all_eq_true.1 h i (by simp; omega)
    simp only [Bool.or_eq_true, beq_iff_eq, e, false_or, Bool.not_eq_true'] at this
    rw [this]; simp [e]

theorem named : Tryz.prog.funcNamed "jigsaw/jigsawlaw13.SchedShifts" = some 16 := named_of 400 (by kernel_rfl) (by kernel_rfl) (by kernel_rfl)
theorem inst : Tryz.f16.isInstance Tryz.prog Rows.schedShiftsRow.origin Rows.schedShiftsRow.targs := of_decide_eq_true (by kernel_rfl)
theorem wrap : Tryz.f16.isWrapper Tryz.prog Rows.schedShiftsRow.wrapper Rows.schedShiftsRow.mainSum := by unfold Func.isWrapper; first | (rw [if_pos (by decide +kernel)]; kernel_rfl) | (rw [if_neg (by decide +kernel)]; exact ⟨rfl, rfl⟩)
end Go.Proofs.YtlnndndpaakjfaaGreatDoor.schedShifts
