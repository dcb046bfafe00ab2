/- Texts of a small semantics over the model and of specifications of functions, joined: S16. -/
import Derived.Test.YtlnndndpaakjfaaGreatDoorP33
import Derived.Test.YtlnndndpaakjfaaGreatDoorP34
set_option linter.unusedSimpArgs false
set_option linter.unusedVariables false
namespace Go.LI.T
open Go Go.LI Go.Proofs
set_option maxRecDepth 100000
set_option linter.unusedSimpArgs false
set_option maxHeartbeats 4000000

theorem IntsAre.inj {l : LV} {a b : List Int} (h : IntsAre l a) (h' : IntsAre l b) : a = b := by
  have e : a.map (fun n => [LV.v (.int .i64 n)]) = b.map (fun n => [LV.v (.int .i64 n)]) := Option.some.inj (h.symm.trans h')
  have := congrArg (List.map fun l => match l with | [LV.v (.int .i64 n)] => n | _ => (0 : Int)) e
  simpa [Function.comp_def] using this

theorem ofFacts_self {f : Nat} {a : List LV} {r : LV} {l : List (Nat × List LV × LV)} : ofFacts ((f, a, r) :: l) f a = some r := by simp [ofFacts]
theorem ofFacts_skip {f : Nat} {a b : List LV} {r q : LV} {l : List (Nat × List LV × LV)} (h : a = b → r = q) (h2 : ofFacts l f b = some q) : ofFacts ((f, a, r) :: l) f b = some q := by
  by_cases e : a = b
  · simp [ofFacts, e, h e]
  · simp [ofFacts, e, h2]

def numsR (ns : List Int) : LV := .agg [.v (.bool true), seqV (numsC ns)]

/-- The law SchedShifts. -/
theorem f16 (A D : LV) (ss ds : List Int) (k : Int) (hS : IntsAre A ss) (hD : IntsAre D ds) : CallSpec Tryz.prog 16 [A, D, .v (.int .i64 k)] (.v (.bool true)) := by
  have F0 := Facts.nil Tryz.prog
  have F39 := Facts.cons known13 F0
  obtain ⟨p1, p2, p3, p4, p5⟩ := asList_one hS
  obtain ⟨q1, q2, q3, q4, q5⟩ := asList_one hD
  have hS' : A.asList = some (ss.map fun n => [LV.v (.int .i64 n)]) := hS
  have hD' : D.asList = some (ds.map fun n => [LV.v (.int .i64 n)]) := hD
  refine CallSpec.of_LW ok Tryz.func16 (by kernel_rfl) rfl (by simp [Tryz.ntmps16]) ?_
  refine LW.sr ok F0 (by decide) (by simp; rfl) ?_
  refine LW.seq ?_
  by_cases hl : ss.length = ds.length
  rotate_left
  · have hl' : ¬ (ss.length : Int) = ds.length := by omega
    refine LW.sr ok F0 (by decide) (by simp [p3, q3, hS', hD', hl, hl']; rfl) ?_
    refine LW.ct (by simp) (LW.sr ok F39 (by decide) (by simp [ofFacts]; rfl) (LW.ret ?_))
    show resL _ _ _ = _
    simp [Tryz.f16, resL, resOne]
  by_cases hn : 100 < ss.length
  · have hn' : (100 : Int) < ds.length := by omega
    refine LW.sr ok F0 (by decide) (by simp [p3, q3, hS', hD', hl, hn']; rfl) ?_
    refine LW.ct (by simp) (LW.sr ok F39 (by decide) (by simp [ofFacts]; rfl) (LW.ret ?_))
    show resL _ _ _ = _
    simp [Tryz.f16, resL, resOne]
  have hn' : ¬ (100 : Int) < ds.length := by omega
  refine LW.sr ok F0 (by decide) (by simp [p3, q3, hS', hD', hl, hn']; rfl) ?_
  refine LW.cf (by simp) (LW.skip ?_)
  refine LW.sr ok F0 (by decide) (by simp; rfl) ?_
  refine LW.sr ok F0 (by decide) (by simp; rfl) ?_
  have hones : ∀ j, (List.replicate j [LV.v (.int .i64 1)] : List (List LV)) = (List.replicate j (1 : Int)).map fun n => [LV.v (.int .i64 n)] := fun j => by simp
  refine LW.seq (LW.sr ok F0 (by decide) (by simp; rfl) (LW.block (LW.loop (fun c s => ∃ j, c + j = ss.length ∧ s.t 0 = A ∧ s.t 1 = D ∧ s.t 2 = .v (.int .i64 k) ∧ s.t 9 = .v (.int .i64 j) ∧
      Grows s 7 [40] ((List.replicate j (1 : Int)).map fun n => [LV.v (.int .i64 n)]) ∧ Grows s 8 [70] (((ss.take j).map (· + k)).map fun n => [LV.v (.int .i64 n)]) ∧ (∀ x ∈ ss.take j, -1000 ≤ x ∧ x ≤ 1000) ∧ (0 < j → -1000 ≤ k ∧ k ≤ 1000))
    (k := ss.length) ⟨0, by simp, by simp, by simp, by simp, by simp, .nil (by simp) (by simp), .nil (by simp) (by simp), by simp, by simp⟩ ?_)))
  rintro c s ⟨j, hk, g0, g1, g2, g9, g7, g8, hx, hkk⟩
  refine LW.seq (LW.sr ok F0 (by decide) (by simp [g0, g9, hS', p3]; rfl) ?_)
  by_cases hj : j < ss.length
  · refine LW.ct (by simp [hj]) (LW.skip ?_)
    obtain ⟨x, hxj⟩ : ∃ x, ss[j] = x := ⟨_, rfl⟩
    refine LW.seq (LW.block ?_)
    obtain ⟨tk7, w7, happ7, htk7, hT7⟩ := appendL_grows g7 39 [[.v (.int .i64 1)]] ⟨.int .i64, 1, 8, [.int .i64 0], []⟩ (by simp) (by intro e he; obtain ⟨x, _, rfl⟩ := List.mem_map.1 he; rfl) (by simp) (by simp) (by simp) (by simp; omega) (by simp; omega) (by simp)
    obtain rfl : tk7 = 40 := by simpa using hT7
    refine LW.sr ok F0 (by decide) (by simp; rw [happ7 _ _ (by simp) (by simp)]; simp; rfl) ?_
    refine LW.seq ?_
    by_cases c1 : x < -1000
    · refine LW.sr ok F0 (by decide) (by simp [g0, g2, g9, hS', p3, hj, hxj, c1]; rfl) ?_
      refine LW.ct (by simp) (LW.sr ok F39 (by decide) (by simp [ofFacts]; rfl) (LW.ret ?_))
      show resL _ _ _ = _
      simp [Tryz.f16, resL, resOne]
    by_cases c2 : 1000 < x
    · refine LW.sr ok F0 (by decide) (by simp [g0, g2, g9, hS', p3, hj, hxj, c1, c2]; rfl) ?_
      refine LW.ct (by simp) (LW.sr ok F39 (by decide) (by simp [ofFacts]; rfl) (LW.ret ?_))
      show resL _ _ _ = _
      simp [Tryz.f16, resL, resOne]
    by_cases c3 : k < -1000
    · refine LW.sr ok F0 (by decide) (by simp [g0, g2, g9, hS', p3, hj, hxj, c1, c2, c3]; rfl) ?_
      refine LW.ct (by simp) (LW.sr ok F39 (by decide) (by simp [ofFacts]; rfl) (LW.ret ?_))
      show resL _ _ _ = _
      simp [Tryz.f16, resL, resOne]
    by_cases c4 : 1000 < k
    · refine LW.sr ok F0 (by decide) (by simp [g0, g2, g9, hS', p3, hj, hxj, c1, c2, c3, c4]; rfl) ?_
      refine LW.ct (by simp) (LW.sr ok F39 (by decide) (by simp [ofFacts]; rfl) (LW.ret ?_))
      show resL _ _ _ = _
      simp [Tryz.f16, resL, resOne]
    refine LW.sr ok F0 (by decide) (by simp [g0, g2, g9, hS', p3, hj, hxj, c1, c2, c3, c4]; rfl) ?_
    refine LW.cf (by simp) (LW.skip ?_)
    have wx : IntKind.i64.wrap (x + k) = x + k := wrap_id (by omega) (by omega)
    obtain ⟨tk8, w8, happ8, htk8, hT8⟩ := appendL_grows (g8.keep (s' := s.setTok 40 w7) (by simp) (by simp) (by simp)) 69 [[.v (.int .i64 (x + k))]] ⟨.int .i64, 1, 8, [.int .i64 0], []⟩ (by simp) (by intro e he; obtain ⟨x, _, rfl⟩ := List.mem_map.1 he; rfl) (by simp) (by simp) (by simp) (by simp; omega) (by simp; omega) (by simp)
    obtain rfl : tk8 = 70 := by simpa using hT8
    simp only [setTok_t, setTok_o] at happ8
    refine LW.r ok F0 (by decide) (by simp [g0, g2, g9, hS', p3, hj, hxj, wx]; rw [happ8 _ _ (by rfl) (by simp)]; simp; rfl) ?_
    refine LW.r ok F0 (by decide) (by simp [g9]; rfl) ?_
    refine ⟨c - 1, by omega, j + 1, by omega, by simp [g0], by simp [g1], by simp [g2], by simp [wrap_succ (show j < 9223372036854775807 by omega)], Grows.new (tk := 40) (v := w7) (by simp) (by simp only [List.replicate_succ', List.map_append, List.map_cons, List.map_nil, List.map_replicate]; simp) (by simp) hT7 htk7 (by simp), Grows.new (tk := 70) (v := w8) (by intro h0; have := congrArg List.length h0; simp only [List.length_map, List.length_take, List.length_nil] at this; omega) (by rw [List.take_add_one, List.getElem?_eq_getElem hj, hxj]; simp) (by simp) hT8 htk8 (by simp), ?_, fun _ => by omega⟩
    intro y hy
    rw [List.take_add_one, List.getElem?_eq_getElem hj, hxj] at hy
    simp only [Option.toList_some, List.mem_append, List.mem_singleton] at hy
    rcases hy with hy | rfl
    · exact hx y hy
    · omega
  refine LW.cf (by simp [hj]) (LW.exit ?_)
  have hjn : j = ss.length := by omega
  subst hjn
  rw [List.take_length] at g8 hx
  have v7 := g7.val
  have v8 := g8.val
  have hkk' : 0 < ss.length → -1000 ≤ k ∧ k ≤ 1000 := hkk
  have hlk : (ss.map (· + k)).length = ds.length := by simpa using hl
  have hxs : ∀ x ∈ ss, -1000000 ≤ x ∧ x ≤ 1000000 := fun x hx' => by have := hx x hx'; omega
  have hxk : ∀ x ∈ ss, -1000000 ≤ x + k ∧ x + k ≤ 1000000 := fun x hx' => by
    have := hx x hx'
    have := hkk' (List.length_pos_of_mem hx')
    omega
  have hxk' : ∀ x ∈ ss.map (· + k), -1000000 ≤ x ∧ x ≤ 1000000 := fun x hx' => by
    obtain ⟨y, hy, rfl⟩ := List.mem_map.1 hx'
    exact hxk y hy
  generalize hre : (if ds.all wholeB = true then (0 : Int) else 50) = re
  obtain ⟨β, hβ⟩ : ∃ β, (holdsR true re true (oneByOne ss ds) 0).1 = β := ⟨_, rfl⟩
  obtain ⟨ε, hε⟩ : ∃ ε, (holdsR true re true (oneByOne ss ds) 0).2 = ε := ⟨_, rfl⟩
  have hres : resBE (holdsR true re true (oneByOne ss ds) 0) = .tup [.v (.bool β), .v (.int .i64 ε)] := by rw [resBE, hβ, hε]
  have d1 := disj13 ss ds hl (by omega) hxs
  have d2 := disj13 (ss.map (· + k)) ds hlk (by simp; omega) hxk'
  have d3 := cum13 (ss.map (· + k)) ds hlk (by simp; omega) hxk'
  have d4 := diffn13 ss ds 0 hl (by omega) hxs (by simpa using hxs)
  have d5 := diffn13 ss ds k hl (by omega) hxs hxk
  rw [oneByOne_shift] at d2 d3
  rw [List.length_map] at d3
  rw [show (ss.map (· + (0 : Int))) = ss by simp] at d4
  rw [hre, hres] at d1 d2 d3 d4 d5
  generalize hsh : ss.map (· + k) = sh at *
  have v7' : s.t 7 = intsV (List.replicate ss.length 1) := v7
  have v8' : s.t 8 = intsV sh := v8
  have a43 := f43 A ss hS (by omega)
  have b43 := f43 D ds hD (by omega)
  have hshl : sh.length = ss.length := by rw [← hsh]; simp
  have c43 := f43 (intsV sh) sh (intsV_are sh) (by omega)
  have e43 := f43 (intsV (List.replicate ss.length 1)) (List.replicate ss.length 1) (intsV_are _) (by simp; omega)
  have o1 : IntsAre (.list [[.v (.int .i64 1)]]) [1] := rfl
  have o43 := f43 (.list [[.v (.int .i64 1)]]) [1] rfl (by decide)
  obtain ⟨i1, i2, i3, i4, i5⟩ := asList_one (intsV_are sh)
  obtain ⟨j1, j2, j3, j4, j5⟩ := asList_one (intsV_are (List.replicate ss.length 1))
  obtain ⟨n1, n2, n3, n4, n5⟩ := asList_one (seqV_asList (numsC ss))
  obtain ⟨m1, m2, m3, m4, m5⟩ := asList_one (seqV_asList (numsC ds))
  obtain ⟨l1, l2, l3, l4, l5⟩ := asList_one (seqV_asList (numsC sh))
  obtain ⟨r1, r2, r3, r4, r5⟩ := asList_one (seqV_asList (numsC (List.replicate ss.length 1)))
  obtain ⟨u1, u2, u3, u4, u5⟩ := asList_one (seqV_asList (numsC [1]))
  have inj : ∀ {x y : LV} {p q : List Int}, IntsAre x p → IntsAre y q → ([x] : List LV) = [y] → (LV.agg [.v (.bool true), seqV (numsC p)]) = .agg [.v (.bool true), seqV (numsC q)] := by
    intro x y p q hx hy h
    simp only [List.cons.injEq, and_true] at h
    subst h
    rw [hx.inj hy]
  simp only [asV, asC, List.map_cons, List.map_nil, nilV] at d1 d2 d3 d4 d5
  -- disjunctive
  have F12 : Facts Tryz.prog _ := Facts.cons a43 (Facts.cons b43 (Facts.cons d1 F0))
  refine LW.sr ok F12 (by decide) (by simp [g0, g1, p1, p2, p3, q1, q2, q3, n1, n2, m1, m2, ofFacts_pair (inj hS hD), ofFacts_ne, ofFacts_self]; rfl) ?_
  have F13 : Facts Tryz.prog _ := Facts.cons c43 (Facts.cons b43 (Facts.cons d2 F0))
  refine LW.sr ok F13 (by decide) (by simp [g0, g1, v8', i1, i2, i3, q1, q2, q3, l1, l2, m1, m2, ofFacts_pair (inj (intsV_are sh) hD), ofFacts_ne, ofFacts_self]; rfl) ?_
  have F14 : Facts Tryz.prog _ := Facts.cons c43 (Facts.cons b43 (Facts.cons e43 (Facts.cons o43 (Facts.cons d3 F0))))
  refine LW.sr ok F14 (by decide) (by
    simp [g0, g1, v7', v8', i1, i2, i3, q1, q2, q3, l1, l2, m1, m2, j1, j2, j3, r1, r2, u1, u2, u4, ofFacts_skip (inj (intsV_are sh) hD) ofFacts_self, ofFacts_skip (inj (intsV_are sh) (intsV_are (List.replicate ss.length 1))) (ofFacts_skip (inj hD (intsV_are (List.replicate ss.length 1))) ofFacts_self),
      ofFacts_skip (inj (intsV_are sh) o1) (ofFacts_skip (inj hD o1) (ofFacts_skip (inj (intsV_are (List.replicate ss.length 1)) o1) ofFacts_self)), ofFacts_ne, ofFacts_self]; rfl) ?_
  have F15 : Facts Tryz.prog _ := Facts.cons a43 (Facts.cons b43 (Facts.cons d4 F0))
  refine LW.sr ok F15 (by decide) (by simp [g0, g1, p1, p2, p3, q1, q2, q3, n1, n2, m1, m2, ofFacts_skip (inj hS hD) ofFacts_self, ofFacts_ne, ofFacts_self]; rfl) ?_
  have F16 : Facts Tryz.prog _ := Facts.cons c43 (Facts.cons a43 (Facts.cons b43 (Facts.cons d5 F0)))
  refine LW.sr ok F16 (by decide) (by simp [g0, g1, v8', p1, p2, p3, i1, i2, i3, q1, q2, q3, l1, l2, n1, n2, m1, m2, ofFacts_skip (inj (intsV_are sh) hS) ofFacts_self, ofFacts_skip (inj (intsV_are sh) hD) (ofFacts_skip (inj hS hD) ofFacts_self), ofFacts_ne, ofFacts_self]; rfl) ?_
  by_cases h0 : ε = 0
  · refine LW.sr ok F39 (by decide) (by simp [h0, ofFacts_self]; rfl) (LW.retk ?_)
    simp [Tryz.f16, resL, resOne]
  · refine LW.sr ok F39 (by decide) (by simp [h0, ofFacts_self]; rfl) (LW.retk ?_)
    simp [Tryz.f16, resL, resOne]
end Go.LI.T
