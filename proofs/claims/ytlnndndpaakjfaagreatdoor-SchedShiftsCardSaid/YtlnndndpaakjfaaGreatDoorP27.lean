/- Texts of a small semantics over the model and of specifications of functions, joined: S162. -/
import Derived.Test.YtlnndndpaakjfaaGreatDoorP21
import Derived.Test.YtlnndndpaakjfaaGreatDoorP22
import Derived.Test.YtlnndndpaakjfaaGreatDoorP26
set_option linter.unusedSimpArgs false
set_option linter.unusedVariables false
namespace Go.LI.T
open Go Go.LI Go.Proofs
set_option maxRecDepth 100000
set_option maxHeartbeats 4000000

@[simp] theorem range2 : List.range 2 = [0, 1] := (rfl)
@[simp] theorem range3 : List.range 3 = [0, 1, 2] := (rfl)
@[simp] theorem range4 : List.range 4 = [0, 1, 2, 3] := (rfl)
@[simp] theorem range5 : List.range 5 = [0, 1, 2, 3, 4] := (rfl)

/-- Is none below 0? -/
def highF (a : Ag) : Bool := a.l.all fun t => decide (0 ≤ t.c.n)

theorem f279 (n : Int) : CallSpec Tryz.prog 279 [.v (.int .i64 n)] (.v (.bool (decide (n < 0)))) := by
  have F := Facts.nil Tryz.prog
  refine CallSpec.of_LW ok Tryz.func279 (by kernel_rfl) rfl (by simp [Tryz.ntmps279]) ?_
  refine LW.sr ok F (by decide) (by simp; rfl) ?_
  exact LW.sr ok F (by decide) (by simp; rfl) (LW.retk (by simp [Tryz.f279, resL, resOne]))

theorem seqV_ints (ns : List Int) : IntsAre (seqV (ns.map fun n => [LV.v (.int .i64 n)])) ns := by
  unfold IntsAre
  exact seqV_asList _

/-- cons.high -/
theorem f232 (A : LV) (a : Ag) (hA : ListAre TmAre A a.l) (hlen : a.l.length < 1000000) : CallSpec Tryz.prog 232 [.agg [.v (.bool a.array), A]] (.v (.bool (highF a))) := by
  obtain ⟨ts, ht, htl, _⟩ := id hA
  obtain ⟨t1, t2, t3, t4, t5⟩ := asList_one ht
  have h1 := f231 A a hA hlen
  have hs := seqV_ints (a.l.map fun t => t.c.n)
  rw [List.map_map] at hs
  have h2 := f278 _ _ 279 (fun n => decide (n < 0)) hs (fun n _ => f279 n) (by simpa using hlen)
  have e : (a.l.map fun t => t.c.n).any (fun n => decide (n < 0)) = !highF a := by
    rw [highF, List.not_all_eq_any_not, List.any_map]
    congr 1
    funext t
    simp [Function.comp, ← Int.not_le]
  rw [e] at h2
  have hpl := (asList_one hs).2.1
  have F := Facts.cons h1 (Facts.cons h2 (Facts.nil Tryz.prog))
  refine CallSpec.of_LW ok Tryz.func232 (by kernel_rfl) rfl (by simp [Tryz.ntmps232]) ?_
  refine LW.sr ok F (by decide) (by simp [t1]; rfl) ?_
  refine LW.sr ok F (by decide) (by simp [t1, t2]; simp [ofFacts, Function.comp_def] at hpl ⊢; simp [hpl]; rfl) (LW.retk ?_)
  simp [Tryz.f232, resL, resOne]

/-- .. as the value has it. -/
def highV (A : LV) : Bool := (A.asList.getD []).all fun e => match e with
  | [_, _, .v (.int _ n), _] => decide (0 ≤ n)
  | _ => true

theorem highV_eq {A : LV} {l : List Tm} (hA : ListAre TmAre A l) : highV A = l.all fun t => decide (0 ≤ t.c.n) := by
  obtain ⟨ts, ht, htl, _⟩ := id hA
  obtain ⟨_, hget⟩ := hA.get ht
  unfold highV
  rw [ht, Option.getD_some, Bool.eq_iff_iff, List.all_eq_true, List.all_eq_true]
  constructor
  · intro h t htm
    obtain ⟨i, hi, rfl⟩ := List.getElem_of_mem htm
    obtain ⟨S, he, _⟩ := hget i (by omega) hi
    have := h _ (List.getElem_mem (show i < ts.length by omega))
    rw [he] at this
    exact this
  · intro h e hem
    obtain ⟨i, hi, rfl⟩ := List.getElem_of_mem hem
    obtain ⟨S, he, _⟩ := hget i hi (by omega)
    rw [he]
    exact h _ (List.getElem_mem _)

/-- cons.rules: what begins so. -/
theorem f228 (name head : ByteArray) (X : LV) : CallSpec Tryz.prog 228 [.v (.string head), .el [.v (.string name), X]] (.v (.bool (hasPre name head))) := by
  have F := Facts.cons (f229 name head) (Facts.nil Tryz.prog)
  refine CallSpec.of_LW ok Tryz.func228 (by kernel_rfl) rfl (by simp [Tryz.ntmps228]) ?_
  refine LW.sr ok F (by decide) (by simp; rfl) ?_
  exact LW.sr ok F (by decide) (by simp; rfl) (LW.retk (by simp [Tryz.f228, resL, resOne]))

/-- The rules about arguments together, of the names that stand in these two families. -/
def rulesF (c : Cn) (reg : Bool) : Bool :=
  if c.name = n_sort ∨ c.name = n_inverse ∨ c.name = n_disjunctive then lensEq c 0 [0, 1]
  else if hasPre c.name h_fzn_bin = true then lensEq c 1 [1, 2] && ((c.args[2]?).map highF).getD false
  else if c.name = n_cumulative then lensEq c 0 [0, 1, 2]
  else if c.name = n_knapsack then lensEq c 0 [0, 1, 2] && ((c.args[0]?).map highF).getD false && ((c.args[1]?).map highF).getD false
  else if c.name = n_diffn then lensEq c 0 [0, 1, 2, 3]
  else if c.name = n_maximum_int ∨ c.name = n_minimum_int then decide (0 < ((c.args[1]?).map fun a => a.l.length).getD 0)
  else if c.name = n_table_int then decide (0 < ((c.args[0]?).map fun a => a.l.length).getD 0) && decide (((c.args[1]?).map fun a => a.l.length).getD 0 % ((c.args[0]?).map fun a => a.l.length).getD 0 = 0)
  else if c.name = n_regular then reg
  else true

/-- How many arguments the rules ask for. -/
structure Arity (c : Cn) : Prop where
  two : c.name = n_sort ∨ c.name = n_inverse ∨ c.name = n_disjunctive → 2 ≤ c.args.length
  bin : hasPre c.name h_fzn_bin = true → 3 ≤ c.args.length
  cum : c.name = n_cumulative → 3 ≤ c.args.length
  kna : c.name = n_knapsack → 3 ≤ c.args.length
  dif : c.name = n_diffn → 4 ≤ c.args.length
  max : c.name = n_maximum_int ∨ c.name = n_minimum_int → 2 ≤ c.args.length
  tab : c.name = n_table_int → 2 ≤ c.args.length
  lin : hasPre c.name h_int_lin = false ∧ hasPre c.name h_bool_lin = false ∧ hasPre c.name h_fzn_global = false

theorem ofFacts_two {f : Nat} {a b : List LV} {r q : LV} {l : List (Nat × List LV × LV)} (h : a ≠ b) : ofFacts ((f, a, r) :: l) f b = ofFacts l f b := by simp [ofFacts, h]

/-- cons.rules -/
theorem f162 (X : LV) (c : Cn) (reg : Bool) (hX : ListAre AgAre X c.args) (har : Arity c) (hsh : ∀ a ∈ c.args, a.l.length ≤ 1000)
    (hreg : c.name = n_regular → CallSpec Tryz.prog 233 [.agg [.v (.string c.name), X]] (.v (.bool reg))) :
    CallSpec Tryz.prog 162 [.agg [.v (.string c.name), X]] (.v (.bool (rulesF c reg))) := by
  obtain ⟨xs, hx, hxl, _⟩ := id hX
  obtain ⟨_, hget⟩ := hX.get hx
  obtain ⟨x1, x2, x3, x4, x5⟩ := asList_one hx
  have F := Facts.nil Tryz.prog
  have fac : ∀ h : ByteArray, Facts Tryz.prog [(228, [.v (.string h), .el [.v (.string c.name), X]], .v (.bool (hasPre c.name h)))] := fun h => Facts.cons (f228 c.name h X) (Facts.nil _)
  refine CallSpec.of_LW ok Tryz.func162 (by kernel_rfl) rfl (by simp [Tryz.ntmps162]) ?_
  refine LW.sr ok F (by decide) (by simp [x1]; rfl) ?_
  refine LW.sr ok F (by decide) (by simp; rfl) ?_
  refine LW.freeze 1 1 (cl := [(.v (.string c.name), (0, 0)), (X, (0, 0))]) (by simp) (by simp) (by simp [x2]) ?_
  obtain ⟨l1, l2, l3⟩ := har.lin
  have eqF : ∀ (is : List Nat) (i0 : Nat), is.head? = some i0 → (∀ i ∈ is, i < c.args.length) → is.length < 1000000 → Facts Tryz.prog [(230, [.agg [.v (.string c.name), X], .list (is.map fun i : Nat => [.v (.int .i64 i)])], .v (.bool (lensEq c i0 is)))] :=
    fun is i0 h1 h2 h3 => Facts.cons (f230 X _ c hX is i0 rfl h1 h2 h3) (Facts.nil _)
  refine LW.seq (LW.block (LW.seq (LW.sr ok (fac h_int_lin) (by decide) (by simp [fz, fz1, x2]; rfl) ?_)))
  refine LW.cf (by simp [l1]) (LW.sr ok (fac h_bool_lin) (by decide) (by simp [fz, fz1, x2]; rfl) ?_)
  refine LW.cf (by simp [l2]) (LW.sr ok F (by decide) (by simp [fz, fz1, x2]; rfl) ?_)
  have two : c.name = n_sort ∨ c.name = n_inverse ∨ c.name = n_disjunctive → Facts Tryz.prog [(230, [.agg [.v (.string c.name), X], .list [[.v (.int .i64 0)], [.v (.int .i64 1)]]], .v (.bool (lensEq c 0 [0, 1])))] := fun h =>
    eqF [0, 1] 0 rfl (by have := har.two h; intro i hi; simp at hi; omega) (by simp)
  by_cases hs1 : c.name = n_sort
  · refine LW.ct (by simp [hs1]) (LW.skip (LW.ct (by simp [hs1]) (LW.sr ok (two (.inl hs1)) (by decide) (by simp [fz, fz1, x2, x1]; rfl) (LW.ret ?_))))
    show resL _ _ _ = _
    simp [Tryz.f162, resL, resOne, rulesF, hs1]
  refine LW.cf (by simp [hs1]) (LW.sr ok F (by decide) (by simp [fz, fz1, x2]; rfl) ?_)
  by_cases hs2 : c.name = n_inverse
  · refine LW.ct (by simp [hs2]) (LW.skip (LW.ct (by simp [hs2]) (LW.sr ok (two (.inr (.inl hs2))) (by decide) (by simp [fz, fz1, x2, x1]; rfl) (LW.ret ?_))))
    show resL _ _ _ = _
    simp [Tryz.f162, resL, resOne, rulesF, hs2]
  refine LW.cf (by simp [hs2]) (LW.r ok F (by decide) (by simp [fz, fz1, x2]; rfl) ?_)
  by_cases hs3 : c.name = n_disjunctive
  · refine LW.ct (by simp [hs3]) (LW.sr ok (two (.inr (.inr hs3))) (by decide) (by simp [fz, fz1, x2, x1]; rfl) (LW.ret ?_))
    show resL _ _ _ = _
    simp [Tryz.f162, resL, resOne, rulesF, hs3]
  refine LW.cf (by simp [hs3]) (LW.sr ok (fac h_fzn_global) (by decide) (by simp [fz, fz1, x2]; rfl) ?_)
  refine LW.cf (by simp [l3]) (LW.sr ok (fac h_fzn_bin) (by decide) (by simp [fz, fz1, x2]; rfl) ?_)
  have hno2 : ¬ (c.name = n_sort ∨ c.name = n_inverse ∨ c.name = n_disjunctive) := by simp only [hs1, hs2, hs3, or_self, not_false_eq_true]
  have hR : rulesF c reg = if hasPre c.name h_fzn_bin = true then lensEq c 1 [1, 2] && ((c.args[2]?).map highF).getD false
      else if c.name = n_cumulative then lensEq c 0 [0, 1, 2]
      else if c.name = n_knapsack then lensEq c 0 [0, 1, 2] && ((c.args[0]?).map highF).getD false && ((c.args[1]?).map highF).getD false
      else if c.name = n_diffn then lensEq c 0 [0, 1, 2, 3]
      else if c.name = n_maximum_int ∨ c.name = n_minimum_int then decide (0 < ((c.args[1]?).map fun a => a.l.length).getD 0)
      else if c.name = n_table_int then decide (0 < ((c.args[0]?).map fun a => a.l.length).getD 0) && decide (((c.args[1]?).map fun a => a.l.length).getD 0 % ((c.args[0]?).map fun a => a.l.length).getD 0 = 0)
      else if c.name = n_regular then reg
      else true := by rw [rulesF, if_neg hno2]
  rw [hR]
  clear hR
  by_cases hb : hasPre c.name h_fzn_bin = true
  · have h3 := har.bin hb
    have hl2 : 2 < c.args.length := by omega
    obtain ⟨A2, hA2, hT2⟩ := hget 2 (by omega) hl2
    obtain ⟨ts2, ht2, _, _⟩ := id hT2
    obtain ⟨q1, q2, q3, q4, q5⟩ := asList_one ht2
    have g2 : c.args[2]? = some c.args[2] := List.getElem?_eq_getElem hl2
    have hhi := f232 A2 c.args[2] hT2 (by have := hsh _ (List.getElem_mem hl2); omega)
    have hz2 : (2 : Int) < xs.length := by omega
    have hx2 : xs[2]? = some [.v (.bool c.args[2].array), A2] := by rw [List.getElem?_eq_getElem (by omega), hA2]
    have F1 := Facts.cons hhi (eqF [1, 2] 1 rfl (by intro i hi; simp at hi; omega) (by simp))
    refine LW.ct (by simp [hb]) ?_
    cases hle : lensEq c 1 [1, 2] with
    | true =>
      rw [hle] at F1
      refine LW.sr ok F1 (by decide) (by simp [fz, fz1, x2, x1, ofFacts_ne, hx, hx2, hz2, q1, q2]; rfl) (LW.ret ?_)
      show resL _ _ _ = _
      simp [Tryz.f162, resL, resOne, hb, g2]
    | false =>
      rw [hle] at F1
      refine LW.sr ok F1 (by decide) (by simp [fz, fz1, x2, x1, ofFacts_ne, hx, hx2, hz2, q1, q2]; rfl) (LW.ret ?_)
      show resL _ _ _ = _
      simp [Tryz.f162, resL, resOne, hb]
  rw [if_neg hb]
  refine LW.cf (by simpa using hb) (LW.sr ok F (by decide) (by simp [fz, fz1, x2]; rfl) ?_)
  by_cases hc : c.name = n_cumulative
  · refine LW.ct (by simp [hc]) (LW.sr ok (eqF [0, 1, 2] 0 rfl (by have := har.cum hc; intro i hi; simp at hi; omega) (by simp)) (by decide) (by simp [fz, fz1, x2, x1]; rfl) (LW.ret ?_))
    show resL _ _ _ = _
    simp [Tryz.f162, resL, resOne, hc]
  rw [if_neg hc]
  refine LW.cf (by simp [hc]) (LW.sr ok F (by decide) (by simp [fz, fz1, x2]; rfl) ?_)
  by_cases hk : c.name = n_knapsack
  · have h3 := har.kna hk
    have hl0 : 0 < c.args.length := by omega
    have hl1 : 1 < c.args.length := by omega
    obtain ⟨A0, hA0, hT0⟩ := hget 0 (by omega) hl0
    obtain ⟨A1, hA1, hT1⟩ := hget 1 (by omega) hl1
    obtain ⟨ts0, ht0, _, _⟩ := id hT0
    obtain ⟨ts1, ht1, _, _⟩ := id hT1
    obtain ⟨q1, q2, q3, q4, q5⟩ := asList_one ht0
    obtain ⟨r1, r2, r3, r4, r5⟩ := asList_one ht1
    have g0 : c.args[0]? = some c.args[0] := List.getElem?_eq_getElem hl0
    have g1 : c.args[1]? = some c.args[1] := List.getElem?_eq_getElem hl1
    have hh0 := f232 A0 c.args[0] hT0 (by have := hsh _ (List.getElem_mem hl0); omega)
    have hh1 := f232 A1 c.args[1] hT1 (by have := hsh _ (List.getElem_mem hl1); omega)
    have hz0 : 0 < xs.length := by omega
    have hz1 : (1 : Int) < xs.length := by omega
    have hx0 : xs[0]? = some [.v (.bool c.args[0].array), A0] := by rw [List.getElem?_eq_getElem (by omega), hA0]
    have hx1 : xs[1]? = some [.v (.bool c.args[1].array), A1] := by rw [List.getElem?_eq_getElem (by omega), hA1]
    have FE := eqF [0, 1, 2] 0 rfl (by intro i hi; simp at hi; omega) (by simp)
    have F0 := Facts.cons hh0 (Facts.nil Tryz.prog)
    have F01 := Facts.cons hh0 (Facts.cons hh1 (Facts.nil Tryz.prog))
    have e0 : highV A0 = highF c.args[0] := highV_eq hT0
    have e1 : highV A1 = highF c.args[1] := highV_eq hT1
    rw [← e0] at hh0
    rw [← e1] at hh1
    have F3 := Facts.cons hh0 (Facts.cons hh1 FE)
    have hlook : ofFacts [(232, [.agg [.v (.bool c.args[0].array), A0]], .v (.bool (highV A0))), (232, [.agg [.v (.bool c.args[1].array), A1]], .v (.bool (highV A1))), (230, [.agg [.v (.string c.name), X], .list ([0, 1, 2].map fun i : Nat => [.v (.int .i64 i)])], .v (.bool (lensEq c 0 [0, 1, 2])))] 232 [.agg [.v (.bool c.args[1].array), A1]] = some (.v (.bool (highV A1))) := by
      simp only [ofFacts]
      by_cases h : [LV.agg [LV.v (.bool c.args[0].array), A0]] = [LV.agg [LV.v (.bool c.args[1].array), A1]]
      · rw [if_pos ⟨rfl, h⟩]
        simp only [List.cons.injEq, LV.agg.injEq, and_true] at h
        rw [h.2]
      · rw [if_neg (fun hh => h hh.2)]
        simp
    refine LW.ct (by simp [hk]) ?_
    cases hle : lensEq c 0 [0, 1, 2] with
    | false =>
      rw [hle] at F3
      refine LW.sr ok F3 (by decide) (by simp [fz, fz1, x2, x1, ofFacts_ne]; rfl) (LW.ret ?_)
      show resL _ _ _ = _
      simp [Tryz.f162, resL, resOne, hk]
    | true =>
      rw [hle] at F3 hlook
      cases hv0 : highV A0 with
      | false =>
        rw [hv0] at F3 hlook
        refine LW.sr ok F3 (by decide) (by simp [fz, fz1, x2, x1, ofFacts_ne, hx, hx0, hA0, hz0, q1, q2]; rfl) (LW.ret ?_)
        show resL _ _ _ = _
        simp [Tryz.f162, resL, resOne, hk, g0, ← e0, hv0]
      | true =>
        rw [hv0] at F3 hlook
        refine LW.sr ok F3 (by decide) (by simp at hlook; simp [fz, fz1, x2, x1, ofFacts_ne, hx, hx0, hx1, hA0, hz0, hz1, q1, q2, r1, r2, hlook]; rfl) (LW.ret ?_)
        show resL _ _ _ = _
        simp [Tryz.f162, resL, resOne, hk, g0, g1, ← e0, ← e1, hv0]
  rw [if_neg hk]
  refine LW.cf (by simp [hk]) (LW.sr ok F (by decide) (by simp [fz, fz1, x2]; rfl) ?_)
  by_cases hd : c.name = n_diffn
  · refine LW.ct (by simp [hd]) (LW.sr ok (eqF [0, 1, 2, 3] 0 rfl (by have := har.dif hd; intro i hi; simp at hi; omega) (by simp)) (by decide) (by simp [fz, fz1, x2, x1]; rfl) (LW.ret ?_))
    show resL _ _ _ = _
    simp [Tryz.f162, resL, resOne, hd]
  rw [if_neg hd]
  refine LW.cf (by simp [hd]) (LW.seq (LW.sr ok F (by decide) (by simp [fz, fz1, x2]; rfl) ?_))
  have mm : c.name = n_maximum_int ∨ c.name = n_minimum_int → ∃ A1 ts1, (1 : Int) < xs.length ∧ xs[1]? = some [.v (.bool (c.args.getD 1 ⟨false, []⟩).array), A1] ∧ A1.asList = some ts1 ∧ A1.one = true ∧ A1.plain = true ∧ ts1.length = ((c.args[1]?).map fun a => a.l.length).getD 0 := fun h => by
    have hl1 : 1 < c.args.length := har.max h
    obtain ⟨A1, hA1, hT1⟩ := hget 1 (by omega) hl1
    obtain ⟨ts1, ht1, htl1, _⟩ := id hT1
    obtain ⟨r1, r2, r3, r4, r5⟩ := asList_one ht1
    exact ⟨A1, ts1, by omega, by rw [List.getElem?_eq_getElem (by omega), hA1]; simp [List.getD, hl1], ht1, r1, r2, by simp [hl1, htl1]⟩
  by_cases hm1 : c.name = n_maximum_int
  · obtain ⟨A1, ts1, z1, z2, z3, z4, z5, z6⟩ := mm (.inl hm1)
    refine LW.ct (by simp [hm1]) (LW.skip (LW.ct (by simp [hm1]) (LW.sr ok F (by decide) (by simp [fz, fz1, x2, hx, z1, z2, z3, z5]; rfl) (LW.ret ?_))))
    show resL _ _ _ = _
    simp only [Tryz.f162, resL, resOne, hm1, ← z6]
    simp
  refine LW.cf (by simp [hm1]) (LW.r ok F (by decide) (by simp [fz, fz1, x2]; rfl) ?_)
  by_cases hm2 : c.name = n_minimum_int
  · obtain ⟨A1, ts1, z1, z2, z3, z4, z5, z6⟩ := mm (.inr hm2)
    refine LW.ct (by simp [hm2]) (LW.sr ok F (by decide) (by simp [fz, fz1, x2, hx, z1, z2, z3, z5]; rfl) (LW.ret ?_))
    show resL _ _ _ = _
    simp only [Tryz.f162, resL, resOne, hm2, ← z6]
    simp
  rw [if_neg (show ¬ (c.name = n_maximum_int ∨ c.name = n_minimum_int) by simp only [hm1, hm2, or_self, not_false_eq_true])]
  refine LW.cf (by simp [hm2]) (LW.sr ok F (by decide) (by simp [fz, fz1, x2]; rfl) ?_)
  by_cases ht : c.name = n_table_int
  · have hl1 := har.tab ht
    have hl0 : 0 < c.args.length := by omega
    obtain ⟨A0, hA0, hT0⟩ := hget 0 (by omega) hl0
    obtain ⟨A1, hA1, hT1⟩ := hget 1 (by omega) hl1
    obtain ⟨ts0, ht0, htl0, _⟩ := id hT0
    obtain ⟨ts1, ht1, htl1, _⟩ := id hT1
    obtain ⟨q1, q2, q3, q4, q5⟩ := asList_one ht0
    obtain ⟨r1, r2, r3, r4, r5⟩ := asList_one ht1
    have g0 : c.args[0]? = some c.args[0] := List.getElem?_eq_getElem hl0
    have g1 : c.args[1]? = some c.args[1] := List.getElem?_eq_getElem hl1
    have hz0 : 0 < xs.length := by omega
    have hz1 : (1 : Int) < xs.length := by omega
    have hx0 : xs[0]? = some [.v (.bool c.args[0].array), A0] := by rw [List.getElem?_eq_getElem (by omega), hA0]
    have hx1 : xs[1]? = some [.v (.bool c.args[1].array), A1] := by rw [List.getElem?_eq_getElem (by omega), hA1]
    refine LW.ct (by simp [ht]) ?_
    by_cases hp : 0 < ts0.length
    · have hne : ¬ ts0 = [] := by intro h; simp [h] at hp
      refine LW.sd mixed ok F (by decide) (by decide +kernel) (by simp [fz, fz1, x2, x1, x3, hx, hx0, hx1, hA0, hz0, hz1, q1, q2, q3, r1, r2, r3, ht0, ht1, hp, hne]; rfl) (LW.ret ?_)
      show resL _ _ _ = _
      have hmod : (ts1.length : Int).tmod ts0.length = ((c.args[1].l.length % c.args[0].l.length : Nat) : Int) := by rw [← htl0, ← htl1]; exact (Int.ofNat_tmod _ _).symm
      have hp0 : 0 < c.args[0].l.length := by omega
      simp [Tryz.f162, resL, resOne, ht, g0, g1, hp0, hmod]
      omega
    · have hne : ts0 = [] := by apply List.eq_nil_of_length_eq_zero; omega
      refine LW.sd mixed ok F (by decide) (by decide +kernel) (by simp [fz, fz1, x2, x1, x3, hx, hx0, hx1, hA0, hz0, hz1, q1, q2, q3, r1, r2, r3, ht0, ht1, hne]; rfl) (LW.ret ?_)
      show resL _ _ _ = _
      simp [Tryz.f162, resL, resOne, ht, g0, g1, ← htl0, hp]
  rw [if_neg ht]
  refine LW.cf (by simp [ht]) (LW.sr ok F (by decide) (by simp [fz, fz1, x2]; rfl) ?_)
  by_cases hr : c.name = n_regular
  · have FR := Facts.cons (hreg hr) (Facts.nil Tryz.prog)
    refine LW.ct (by simp [hr]) (LW.sr ok FR (by decide) (by simp [fz, fz1, x2, x1]; rfl) (LW.ret ?_))
    show resL _ _ _ = _
    simp [Tryz.f162, resL, resOne, hr]
  rw [if_neg hr]
  refine LW.cf (by simp [hr]) (LW.skip ?_)
  refine LW.sr ok F (by decide) (by simp; rfl) (LW.retk ?_)
  simp [Tryz.f162, resL, resOne]
end Go.LI.T
