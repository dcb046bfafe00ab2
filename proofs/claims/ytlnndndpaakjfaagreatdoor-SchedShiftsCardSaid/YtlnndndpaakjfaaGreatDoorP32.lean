/- Texts of a small semantics over the model and of specifications of functions, joined: S216b. -/
import Derived.Test.YtlnndndpaakjfaaGreatDoorP25
set_option linter.unusedSimpArgs false
set_option linter.unusedVariables false
namespace Go.LI.T
open Go Go.LI Go.Proofs
set_option maxRecDepth 100000
set_option maxHeartbeats 4000000

def onesC : Nat → List (List LV) → Bool
  | 0, [] => true
  | n + 1, [.v (.int .i64 x)] :: r => decide (x = 1) && onesC n r
  | _, _ => false

theorem onesC_eq : ∀ {n : Nat} {l : List (List LV)}, onesC n l = true → l = List.replicate n [.v (.int .i64 1)]
  | 0, [], _ => rfl
  | 0, _ :: _, h => by simp [onesC] at h
  | n + 1, [], h => by simp [onesC] at h
  | n + 1, x :: r, h => by
    unfold onesC at h
    split at h
    · rename_i h1 _; cases h1
    · rename_i m y r' h1 h2
      cases h1
      cases h2
      rw [Bool.and_eq_true, decide_eq_true_eq] at h
      rw [h.1, onesC_eq h.2, List.replicate_succ]
    · cases h

def onesR (n : Nat) : Option LV → Bool
  | some (.list l) => onesC n l
  | _ => false

theorem run216 : (List.range 101).all (fun n => onesR n (callX τ T13 (run τ T13 1000) 216 [.list [[.v (.int .i64 1)]], .v (.int .i64 (Int.ofNat n))])) = true := by kernel_rfl

/-- slices.Repeat, of one 1 -/
theorem f216 (n : Nat) (hn : n ≤ 100) : CallSpec Tryz.prog 216 [.list [[.v (.int .i64 1)]], .v (.int .i64 n)] (.list (List.replicate n [.v (.int .i64 1)])) := by
  have h := List.all_eq_true.1 run216 n (by simp; omega)
  unfold onesR at h
  split at h
  · rename_i r l heq
    rw [onesC_eq h] at heq
    exact callX_spec T13_ok 1000 heq
  · cases h
end Go.LI.T
