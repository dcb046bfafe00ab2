/- Texts of a small semantics over the model and of specifications of functions, joined: S383. -/
import Derived.Test.YtlnndndpaakjfaaGreatDoorP30
set_option linter.unusedSimpArgs false
set_option linter.unusedVariables false
namespace Go.LI.T
open Go Go.LI Go.Proofs
set_option maxRecDepth 100000
set_option linter.unusedSimpArgs false
set_option maxHeartbeats 4000000

/-- Two lengths on a line that do not meet. -/
theorem f384 (a b p r : Int) (ha : -1000000000000 ≤ a ∧ a ≤ 1000000000000) (hb : -1000000000000 ≤ b ∧ b ≤ 1000000000000) (hp : -1000000000000 ≤ p ∧ p ≤ 1000000000000) (hr : -1000000000000 ≤ r ∧ r ≤ 1000000000000) :
    CallSpec Tryz.prog 384 [.v (.int .i64 a), .v (.int .i64 b), .v (.int .i64 p), .v (.int .i64 r)] (.v (.bool (apartF a b p r))) := by
  have F := Facts.nil Tryz.prog
  have w1 : IntKind.i64.wrap (a + p) = a + p := wrap_id (by omega) (by omega)
  have w2 : IntKind.i64.wrap (b + r) = b + r := wrap_id (by omega) (by omega)
  refine CallSpec.of_LW ok Tryz.func384 (by kernel_rfl) rfl (by simp [Tryz.ntmps384]) ?_
  refine LW.sr ok F (by decide) (by simp; rfl) ?_
  by_cases h : a + p ≤ b
  · refine LW.sr ok F (by decide) (by simp [w1, w2, h]; rfl) (LW.retk ?_)
    simp [Tryz.f384, resL, resOne, apartF, h]
  · refine LW.sr ok F (by decide) (by simp [w1, w2, h]; rfl) (LW.retk ?_)
    simp [Tryz.f384, resL, resOne, apartF, h]

/-- sched.holds of boxes -/
theorem f383 (X Y W H : LV) (bs : List Box) (hX : IntsAre X (bs.map Box.x)) (hY : IntsAre Y (bs.map Box.y)) (hW : IntsAre W (bs.map Box.w)) (hH : IntsAre H (bs.map Box.h)) (hn : bs.length < 100000)
    (hm : ∀ b ∈ bs, (-1000000000000 ≤ b.x ∧ b.x ≤ 1000000000000) ∧ (-1000000000000 ≤ b.y ∧ b.y ≤ 1000000000000) ∧ (-1000000000000 ≤ b.w ∧ b.w ≤ 1000000000000) ∧ (-1000000000000 ≤ b.h ∧ b.h ≤ 1000000000000)) :
    CallSpec Tryz.prog 383 [.agg [X, Y, W, H]] (.v (.bool (!((bs.map Box.w).any fun n => decide (n < 0)) && (!((bs.map Box.h).any fun n => decide (n < 0)) && boxF bs)))) := by
  obtain ⟨p1, p2, p3, p4, p5⟩ := asList_one hX
  obtain ⟨u1, u2, u3, u4, u5⟩ := asList_one hY
  obtain ⟨q1, q2, q3, q4, q5⟩ := asList_one hW
  obtain ⟨r1, r2, r3, r4, r5⟩ := asList_one hH
  have F0 := Facts.nil Tryz.prog
  have F : Facts Tryz.prog _ := Facts.cons (f267 W _ hW (by simp; omega)) (Facts.cons (f267 H _ hH (by simp; omega)) F0)
  have e12 : W = H → ((bs.map Box.w).any fun n => decide (n < 0)) = ((bs.map Box.h).any fun n => decide (n < 0)) := by
    intro h
    subst h
    have e : (bs.map Box.w).map (fun n => [LV.v (.int .i64 n)]) = (bs.map Box.h).map (fun n => [LV.v (.int .i64 n)]) := Option.some.inj (hW.symm.trans hH)
    have := congrArg (List.map fun l => match l with | [LV.v (.int .i64 n)] => n | _ => (0 : Int)) e
    have e2 : bs.map Box.w = bs.map Box.h := by simpa using this
    rw [e2]
  generalize hx : ((bs.map Box.w).any fun n => decide (n < 0)) = x at F e12 ⊢
  generalize hy : ((bs.map Box.h).any fun n => decide (n < 0)) = y at F e12 ⊢
  have hp : ofFacts ((267, [W], .v (.bool x)) :: (267, [H], .v (.bool y)) :: []) 267 [H] = some (.v (.bool y)) := ofFacts_pair (by
    intro h
    simp only [List.cons.injEq, and_true] at h
    rw [e12 h])
  have hp1 : ofFacts ((267, [W], .v (.bool x)) :: (267, [H], .v (.bool y)) :: []) 267 [W] = some (.v (.bool x)) := by simp [ofFacts]
  refine CallSpec.of_LW ok Tryz.func383 (by kernel_rfl) rfl (by simp [Tryz.ntmps383]) ?_
  refine LW.sr ok F0 (by decide) (by simp [p1, p2, q1, q2, r1, r2, u1, u2]; rfl) ?_
  refine LW.seq ?_
  cases x with
  | true =>
    refine LW.sr ok F (by decide) (by simp [q1, q2, q3, hp, hp1, -List.cons.injEq]; rfl) ?_
    refine LW.ct (by simp) (LW.sr ok F0 (by decide) (by simp; rfl) (LW.ret ?_))
    show resL _ _ _ = _
    simp [Tryz.f383, resL, resOne]
  | false =>
  cases y with
  | true =>
    refine LW.sr ok F (by decide) (by simp [q1, q2, q3, r1, r2, r3, hp, hp1]; rfl) ?_
    refine LW.ct (by simp) (LW.sr ok F0 (by decide) (by simp; rfl) (LW.ret ?_))
    show resL _ _ _ = _
    simp [Tryz.f383, resL, resOne]
  | false =>
  refine LW.sr ok F (by decide) (by simp [q1, q2, q3, r1, r2, r3, hp, hp1]; rfl) ?_
  refine LW.cf (by simp) (LW.skip ?_)
  refine LW.sr ok F0 (by decide) (by simp; rfl) ?_
  let J0 : S → Nat → Prop := fun s i => s.t 1 = .ptr 1 1 0 ∧ s.b 1 1 = some [(X, (0, 0)), (Y, (0, 0)), (W, (0, 0)), (H, (0, 0))] ∧ s.t 3 = .v (.func (.func 384) #[] #[]) ∧ s.t 16 = .v (.int .i64 bs.length) ∧ s.t 17 = .v (.int .i64 i)
  refine LW.seq (LW.sr ok F0 (by decide) (by simp [p1, p2, p3, hX.out]; rfl) (LW.block (LW.loop (fun k s => ∃ i, k + i = bs.length ∧ J0 s i ∧ ∀ (a c : Nat) (ha : a < bs.length) (hc : c < a), a < i → boxR bs[a] (bs[c]'(by omega)) = true)
    (k := bs.length) ⟨0, by simp, by simp [J0], by intro a c _ _ h; omega⟩ ?_)))
  rintro k s ⟨i, hk, ⟨g1, gb, g3, g16, g17⟩, hI⟩
  refine LW.sr ok F0 (by decide) (by simp [g16, g17]; rfl) ?_
  refine LW.seq ?_
  by_cases hi : i < bs.length
  · refine LW.ct (by simp [hi]) (LW.skip ?_)
    obtain ⟨bi, hbi⟩ : ∃ t, bs[i] = t := ⟨_, rfl⟩
    obtain ⟨⟨x1, x2⟩, ⟨x3, x4⟩, ⟨x5, x6⟩, x7, x8⟩ := hm bi (hbi ▸ List.getElem_mem hi)
    refine LW.seq (LW.block ?_)
    refine LW.sr ok F0 (by decide) (by simp [g17]; rfl) ?_
    refine LW.sr ok F0 (by decide) (by simp; rfl) ?_
    refine LW.block (LW.loop (fun k2 s => ∃ c, k2 + c = i ∧ J0 s i ∧ s.t 4 = .v (.int .i64 i) ∧ s.t 20 = .v (.int .i64 i) ∧ s.t 21 = .v (.int .i64 c) ∧ ∀ (c' : Nat) (hc : c' < i), c' < c → boxR bs[i] (bs[c']'(by omega)) = true)
      (k := i) ⟨0, by simp, by simp [J0, g1, gb, g3, g16, g17], by simp, by simp, by simp, by intro c _ h; omega⟩ ?_)
    rintro k2 s2 ⟨c, hk2, ⟨y1, yb, y3, y16, y17⟩, y4, y20, y21, hC⟩
    refine LW.sr ok F0 (by decide) (by simp [y20, y21]; rfl) ?_
    refine LW.seq ?_
    by_cases hc : c < i
    · refine LW.ct (by simp [hc]) (LW.skip ?_)
      obtain ⟨bc, hbc⟩ : ∃ t, bs[c]'(by omega) = t := ⟨_, rfl⟩
      have hcl : c < bs.length := by omega
      obtain ⟨⟨z1, z2⟩, ⟨z3, z4⟩, ⟨z5, z6⟩, z7, z8⟩ := hm bc (hbc ▸ List.getElem_mem hcl)
      refine LW.seq (LW.block ?_)
      refine LW.sr ok F0 (by decide) (by simp [y21]; rfl) ?_
      obtain ⟨pb, hpb⟩ : ∃ pb : Bool, pb = decide (0 < bi.w ∧ 0 < bi.h ∧ 0 < bc.w ∧ 0 < bc.h) := ⟨_, rfl⟩
      have hbox : boxR bi bc = !(pb && !apartF bi.x bc.x bi.w bc.w && !apartF bi.y bc.y bi.h bc.h) := by
        unfold boxR
        rw [hpb]
        congr 3
        exact decide_eq_decide.2 (by omega)
      have hmin : (0 < if bc.h < if bc.w < if bi.h < bi.w then bi.h else bi.w then bc.w else if bi.h < bi.w then bi.h else bi.w then bc.h else if bc.w < if bi.h < bi.w then bi.h else bi.w then bc.w else if bi.h < bi.w then bi.h else bi.w) ↔ pb = true := by
        rw [hpb, decide_eq_true_iff]
        repeat' split
        all_goals omega
      have F2 : Facts Tryz.prog _ := Facts.cons (f384 bi.x bc.x bi.w bc.w ⟨x1, x2⟩ ⟨z1, z2⟩ ⟨x5, x6⟩ ⟨z5, z6⟩) (Facts.cons (f384 bi.y bc.y bi.h bc.h ⟨x3, x4⟩ ⟨z3, z4⟩ ⟨x7, x8⟩ ⟨z7, z8⟩) F0)
      have e34 : ([.v (.int .i64 bi.x), .v (.int .i64 bc.x), .v (.int .i64 bi.w), .v (.int .i64 bc.w)] : List LV) = [.v (.int .i64 bi.y), .v (.int .i64 bc.y), .v (.int .i64 bi.h), .v (.int .i64 bc.h)] → apartF bi.x bc.x bi.w bc.w = apartF bi.y bc.y bi.h bc.h := by
        intro h
        simp only [List.cons.injEq, LV.v.injEq, Value.int.injEq, true_and, and_true] at h
        rw [h.1, h.2.1, h.2.2.1, h.2.2.2]
      clear hpb
      generalize apartF bi.x bc.x bi.w bc.w = v1 at F2 e34 hbox
      generalize apartF bi.y bc.y bi.h bc.h = v2 at F2 e34 hbox
      have hq2 : ofFacts ((384, [.v (.int .i64 bi.x), .v (.int .i64 bc.x), .v (.int .i64 bi.w), .v (.int .i64 bc.w)], .v (.bool v1)) :: (384, [.v (.int .i64 bi.y), .v (.int .i64 bc.y), .v (.int .i64 bi.h), .v (.int .i64 bc.h)], .v (.bool v2)) :: []) 384 [.v (.int .i64 bi.y), .v (.int .i64 bc.y), .v (.int .i64 bi.h), .v (.int .i64 bc.h)] = some (.v (.bool v2)) :=
        ofFacts_pair fun h => by rw [e34 h]
      have hq1 : ofFacts ((384, [.v (.int .i64 bi.x), .v (.int .i64 bc.x), .v (.int .i64 bi.w), .v (.int .i64 bc.w)], .v (.bool v1)) :: (384, [.v (.int .i64 bi.y), .v (.int .i64 bc.y), .v (.int .i64 bi.h), .v (.int .i64 bc.h)], .v (.bool v2)) :: []) 384 [.v (.int .i64 bi.x), .v (.int .i64 bc.x), .v (.int .i64 bi.w), .v (.int .i64 bc.w)] = some (.v (.bool v1)) := by simp [ofFacts]
      cases pb with
      | false =>
        refine LW.sd mixed ok F2 (by decide) (by decide +kernel) (by simp [y1, yb, y3, y4, q1, q2, q3, r1, r2, r3, u1, u2, u3, p1, p2, p3, hX.out, hY.out, hW.out, hH.out, hi, hcl, hbi, hbc, hmin, hq1, hq2]; rfl) ?_
        refine LW.cf (by simp) (LW.skip ?_)
        refine LW.r ok F0 (by decide) (by simp [y21]; rfl) ?_
        refine ⟨k2 - 1, by omega, c + 1, by omega, by simp [J0, y1, yb, y3, y16, y17], by simp [y4], by simp [y20], by simp [wrap_succ (show c < 9223372036854775807 by omega)], ?_⟩
        intro c' hc1 hc2
        by_cases e : c' = c
        · subst e; rw [hbi, hbc, hbox]; rfl
        · exact hC c' hc1 (by omega)
      | true =>
      cases v1 with
      | true =>
        refine LW.sd mixed ok F2 (by decide) (by decide +kernel) (by simp [y1, yb, y3, y4, q1, q2, q3, r1, r2, r3, u1, u2, u3, p1, p2, p3, hX.out, hY.out, hW.out, hH.out, hi, hcl, hbi, hbc, hmin, hq1, hq2]; rfl) ?_
        refine LW.cf (by simp) (LW.skip ?_)
        refine LW.r ok F0 (by decide) (by simp [y21]; rfl) ?_
        refine ⟨k2 - 1, by omega, c + 1, by omega, by simp [J0, y1, yb, y3, y16, y17], by simp [y4], by simp [y20], by simp [wrap_succ (show c < 9223372036854775807 by omega)], ?_⟩
        intro c' hc1 hc2
        by_cases e : c' = c
        · subst e; rw [hbi, hbc, hbox]; rfl
        · exact hC c' hc1 (by omega)
      | false =>
      cases v2 with
      | true =>
        refine LW.sd mixed ok F2 (by decide) (by decide +kernel) (by simp [y1, yb, y3, y4, q1, q2, q3, r1, r2, r3, u1, u2, u3, p1, p2, p3, hX.out, hY.out, hW.out, hH.out, hi, hcl, hbi, hbc, hmin, hq1, hq2]; rfl) ?_
        refine LW.cf (by simp) (LW.skip ?_)
        refine LW.r ok F0 (by decide) (by simp [y21]; rfl) ?_
        refine ⟨k2 - 1, by omega, c + 1, by omega, by simp [J0, y1, yb, y3, y16, y17], by simp [y4], by simp [y20], by simp [wrap_succ (show c < 9223372036854775807 by omega)], ?_⟩
        intro c' hc1 hc2
        by_cases e : c' = c
        · subst e; rw [hbi, hbc, hbox]; rfl
        · exact hC c' hc1 (by omega)
      | false =>
        refine LW.sd mixed ok F2 (by decide) (by decide +kernel) (by simp [y1, yb, y3, y4, q1, q2, q3, r1, r2, r3, u1, u2, u3, p1, p2, p3, hX.out, hY.out, hW.out, hH.out, hi, hcl, hbi, hbc, hmin, hq1, hq2]; rfl) ?_
        refine LW.ct (by simp) (LW.sr ok F0 (by decide) (by simp; rfl) (LW.ret ?_))
        show resL _ _ _ = _
        have hF : boxF bs = false := by
          rw [Bool.eq_false_iff]
          intro h
          have := pairsAll_iff.1 h i c hi hc
          rw [hbi, hbc, hbox] at this
          simp at this
        simp [Tryz.f383, resL, resOne, hF]
    refine LW.cf (by simp [hc]) (LW.exit ?_)
    refine LW.r ok F0 (by decide) (by simp [y17]; rfl) ?_
    refine ⟨k - 1, by omega, i + 1, by omega, by simp [J0, y1, yb, y3, y16, wrap_succ (show i < 9223372036854775807 by omega)], ?_⟩
    intro a c' ha hc' hai
    by_cases e : a = i
    · subst e; exact hC c' hc' (by omega)
    · exact hI a c' ha hc' (by omega)
  refine LW.cf (by simp [hi]) (LW.exit ?_)
  refine LW.sr ok F0 (by decide) (by simp; rfl) (LW.retk ?_)
  have hF : boxF bs = true := pairsAll_iff.2 fun a c ha hc => hI a c ha hc (by omega)
  simp [Tryz.f383, resL, resOne, hF]
end Go.LI.T
