/- Texts of a small semantics over the model and of specifications of functions, joined: K13b. -/
import Derived.Test.YtlnndndpaakjfaaGreatDoorP22
import Derived.Test.YtlnndndpaakjfaaGreatDoorP24
set_option linter.unusedSimpArgs false
set_option linter.unusedVariables false
namespace Go.LI.T
open Go Go.LI Go.Proofs
set_option maxRecDepth 100000
set_option maxHeartbeats 4000000

theorem fnL13_ok : fnL13.all codeOkF = true := by kernel_rfl

theorem codeOkF_spec {f : Nat} {fn : Func} (h : codeOkF f = true) (hf : Tryz.prog.funcs[f]? = some fn) : (fn.name == "runtime.NumGoroutine") = false ∧ ∀ c, fn.body = some c → codeOk (hvX f) fn.ntmps c = true := by
  unfold codeOkF at h
  rw [hf] at h
  simp only at h
  split at h
  · rename_i c hc
    simp only [Bool.and_eq_true, Bool.not_eq_true'] at h
    refine ⟨h.2, fun c' hc' => ?_⟩
    rw [hc] at hc'
    cases hc'
    exact h.1
  · rename_i hc
    refine ⟨by simpa using h, fun c' hc' => ?_⟩
    rw [hc] at hc'
    cases hc'

theorem T13_ok : T13.Ok Tryz.prog τ := by
  have hfn : ∀ f fn, T13.fn f = some fn → Tryz.prog.funcs[f]? = some fn ∧ codeOkF f = true := by
    intro f fn h
    have h' : cond (memN f fnL13) (Tryz.prog.funcs[f]?) none = some fn := h
    cases hm : memN f fnL13 with
    | false => rw [hm] at h'; cases h'
    | true =>
      rw [hm] at h'
      exact ⟨h', List.all_eq_true.1 fnL13_ok f (memN_mem hm)⟩
  refine ⟨ok, mixed, fun f fn h => ?_, fun f fn c h hc => ?_, factX_ok, methX_ok, fun t n h => ?_, fun f caps objs ys h => ?_⟩
  · obtain ⟨h1, h2⟩ := hfn f fn h
    exact ⟨h1, (codeOkF_spec h2 h1).1⟩
  · obtain ⟨h1, h2⟩ := hfn f fn h
    exact (codeOkF_spec h2 h1).2 c hc
  · have h' : (if t = 84 then some 2 else none) = some n := h
    split at h'
    · rename_i ht; subst ht; cases h'; exact eq84
    · cases h'
  · have h' : iter13 f caps objs = some ys := h
    unfold iter13 at h'
    split at h'
    · cases h'
      exact it260 _ [(0, 5)] rfl (by simp) (by simp)
    · cases h'
end Go.LI.T
