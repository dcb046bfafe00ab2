/- Texts of a small semantics over the model and of specifications of functions, joined: S260. -/
import Derived.Test.YtlnndndpaakjfaaGreatDoorP17
import Derived.Test.YtlnndndpaakjfaaGreatDoorP21
set_option linter.unusedSimpArgs false
set_option linter.unusedVariables false
namespace Go.LI.T
open Go Go.LI Go.Proofs
set_option maxRecDepth 100000
set_option maxHeartbeats 2000000

/-- From one number to another. -/
def fromTo (lo hi : Int) : List Int := (List.range (hi + 1 - lo).toNat).map fun (i : Nat) => lo + (i : Int)
/-- All numbers of some ranges. -/
def rangeVals (rs : List (Int × Int)) : List Int := rs.flatMap fun r => fromTo r.1 r.2
def rgC (r : Int × Int) : List LV := [.v (.int .i64 r.1), .v (.int .i64 r.2)]
def valsL (rs : List (Int × Int)) : List (List LV) := (rangeVals rs).map fun n => [LV.v (.int .i64 n)]

theorem fromTo_length (lo hi : Int) : (fromTo lo hi).length = (hi + 1 - lo).toNat := by simp [fromTo]

theorem rangeVals_take {rs : List (Int × Int)} {j : Nat} (hj : j < rs.length) : rangeVals (rs.take (j + 1)) = rangeVals (rs.take j) ++ fromTo rs[j].1 rs[j].2 := by
  unfold rangeVals
  rw [List.take_add_one, List.getElem?_eq_getElem hj, List.flatMap_append]
  simp

theorem rangeVals_get {rs : List (Int × Int)} {j : Nat} (hj : j < rs.length) {v : Int} (h1 : rs[j].1 ≤ v) (h2 : v ≤ rs[j].2) : (rangeVals rs)[(rangeVals (rs.take j)).length + (v - rs[j].1).toNat]? = some v := by
  have e : rangeVals rs = rangeVals (rs.take (j + 1)) ++ rangeVals (rs.drop (j + 1)) := by
    unfold rangeVals
    rw [← List.flatMap_append, List.take_append_drop]
  have hl : (v - rs[j].1).toNat < (rs[j].2 + 1 - rs[j].1).toNat := by omega
  rw [e, rangeVals_take hj, List.append_assoc, List.getElem?_append_right (by omega), List.getElem?_append_left (by rw [fromTo_length]; omega)]
  rw [Nat.add_sub_cancel_left]
  unfold fromTo
  rw [List.getElem?_map, List.getElem?_range hl]
  simp only [Option.map_some, Option.some.injEq]
  omega

/-- dom.Each: the iterator. -/
theorem it260 (L : LV) (rs : List (Int × Int)) (hL : L.asList = some (rs.map rgC)) (hb : ∀ r ∈ rs, r.2 < 9223372036854775807 ∧ -9223372036854775808 ≤ r.1) (hlen : rs.length < 1000000) : IterSpec Tryz.prog 260 [.el [L]] [] (valsL rs) := by
  have F := Facts.nil Tryz.prog
  obtain ⟨a1, a2, a3, a4, a5⟩ := asList_one hL
  refine IterSpec.of_LW Tryz.func260 (by kernel_rfl) rfl (by simp [Tryz.ntmps260]) (by kernel_rfl) (by intro l hl k hk; simp at hl; subst hl; cases hk) (by simp) fun l => ?_
  have hys : ∀ k, (valsL rs)[k]? = ((rangeVals rs)[k]?).map fun n => [LV.v (.int .i64 n)] := fun k => by unfold valsL; rw [List.getElem?_map]
  refine LW.sr ok F (by decide) (by simp [hL]; rfl) (LW.block (LW.loop (fun k s => ∃ j, k + j = rs.length ∧ s.t 0 = .v (.func (.yield l) #[] #[]) ∧ s.t 6 = L ∧ s.t 7 = .v (.int .i64 rs.length) ∧ s.t 8 = .v (.int .i64 j) ∧
      s.yl = some (Tryz.prog, l, valsL rs) ∧ s.st = true ∧ s.k = (rangeVals (rs.take j)).length)
    (k := rs.length) ⟨0, by simp, by simp, by simp, by simp, by simp, by simp, by simp, by simp [rangeVals]⟩ ?_))
  rintro k s ⟨j, hk, h0, h6, h7, h8, hyl, hst, hsk⟩
  refine LW.sr ok F (by decide) (by simp [h7, h8]; rfl) ?_
  refine LW.seq ?_
  by_cases hj : j < rs.length
  · refine LW.ct (by simp [hj]) (LW.skip ?_)
    have hbj := hb _ (List.getElem_mem hj)
    have hget := fun v h1 h2 => rangeVals_get (rs := rs) hj (v := v) h1 h2
    have htake := rangeVals_take hj
    generalize hr : rs[j] = r at *
    obtain ⟨lo, hi⟩ := r
    simp only at hbj hget htake
    refine LW.seq (LW.block ?_)
    refine LW.sr ok F (by decide) (by simp [h6, h8, hL, hj, hr, rgC]; rfl) ?_
    refine LW.sr ok F (by decide) (by simp; rfl) ?_
    refine LW.block (LW.loop (fun k2 s2 => ∃ v, k2 = (hi + 1 - v).toNat ∧ lo ≤ v ∧ (v ≤ hi + 1 ∨ v = lo) ∧ s2.t 0 = .v (.func (.yield l) #[] #[]) ∧ s2.t 6 = L ∧ s2.t 7 = .v (.int .i64 rs.length) ∧ s2.t 8 = .v (.int .i64 j) ∧
        s2.yl = some (Tryz.prog, l, valsL rs) ∧ s2.st = true ∧ s2.k = (rangeVals (rs.take j)).length + (v - lo).toNat ∧ s2.t 5 = .v (.int .i64 v) ∧ ∃ g, s2.t 4 = .ptr 4 g 0 ∧ s2.b 4 g = some [(.v (.int .i64 lo), (0, 0)), (.v (.int .i64 hi), (0, 0))])
      (k := (hi + 1 - lo).toNat) ⟨lo, rfl, Int.le_refl _, .inr rfl, by simp [h0], by simp [h6], by simp [h7], by simp [h8], by simp [hyl], by simp [hst], by simp [hsk], by simp, _, by simp; rfl, by simp⟩ ?_)
    rintro k2 s2 ⟨v, hk2, hlv, hvh, g0, g6, g7, g8, gyl, gst, gk, g5, g, g4, gb⟩
    refine LW.seq (LW.sr ok F (by decide) (by simp [g4, gb, g5]; rfl) ?_)
    by_cases hv : v ≤ hi
    · refine LW.ct (by simp [hv]) (LW.skip ?_)
      have hyv : (valsL rs)[s2.k]? = some [LV.v (.int .i64 v)] := by rw [hys, gk, hget v hlv hv]; rfl
      refine LW.seq (LW.block (LW.seq ?_))
      apply LW.yield (τ := τ) (Γ := envOf []) (i := 2) (l := l) (ys := valsL rs) ok (ofFacts_ok F)
      case hi => exact rfl
      case hn => decide
      case hpre => simp; rfl
      case hyl => simp [gyl]
      case hst => simp [gst]
      case hy => simp [g0]
      case hv => simp [g5, hyv]
      case hpl => simp [g5]
      intro b
      refine ⟨_, by simp; rfl, ?_⟩
      cases b with
      | false =>
        refine LW.ct (by simp) (LW.ret ?_)
        exact ⟨.inr rfl, fun h => by simp at h⟩
      | true =>
        refine LW.cf (by simp) (LW.skip ?_)
        have w : IntKind.i64.wrap (v + 1) = v + 1 := wrap64 (by omega) (by omega)
        refine LW.r ok F (by decide) (by simp [g5, w]; rfl) ?_
        refine ⟨_, ?_, v + 1, rfl, by omega, .inl (by omega), by simp [g0], by simp [g6], by simp [g7], by simp [g8], by simp [gyl], by simp, by simp [gk]; omega, by simp, g, by simp [g4], by simp [gb]⟩
        omega
    · refine LW.cf (by simp [hv]) (LW.exit ?_)
      refine LW.r ok F (by decide) (by simp [g8]; rfl) ?_
      refine ⟨k - 1, by omega, j + 1, by omega, by simp [g0], by simp [g6], by simp [g7], by simp [wrap_succ (show j < 9223372036854775807 by omega)], by simp [gyl], by simp [gst], ?_⟩
      rw [htake, List.length_append, fromTo_length]
      simp [gk]
      omega
  · refine LW.cf (by simp [hj]) (LW.exit ?_)
    refine ⟨.inl rfl, fun _ => ?_⟩
    have : j = rs.length := by omega
    subst this
    simp [valsL, hsk]
end Go.LI.T
