/- Texts of a small semantics over the model and of specifications of functions, joined: S79, S153, Forms, S37, S267, SrtMLay, S101, S269. -/
import Derived.Test.YtlnndndpaakjfaaGreatDoorP17
import Derived.Test.YtlnndndpaakjfaaGreatDoorP21
import Derived.Test.YtlnndndpaakjfaaGreatDoorP22
import Derived.Test.YtlnndndpaakjfaaGreatDoorP24
import Derived.Test.YtlnndndpaakjfaaGreatDoorP25
import Derived.Test.YtlnndndpaakjfaaGreatDoorP26
import Derived.Test.YtlnndndpaakjfaaGreatDoorP27
import Derived.Shelf.SlSortCmp.WholeK
import Derived.Test.YtlnndndpaakjfaaGreatDoorProg
import Derived.KernelRfl
set_option linter.unusedSimpArgs false
set_option linter.unusedVariables false
namespace Go.LI.T
open Go Go.LI Go.Proofs
set_option maxRecDepth 100000
set_option maxHeartbeats 4000000

def numsL (es : List (List LV)) : List (List LV) := es.map fun e => [e.getD 1 .dead]
def colsL (cs : List (List LV)) : List (List LV) := cs.map fun a => [seqV (numsL ((a.getD 0 .dead).asList.getD []))]

/-- A region in which methods are called, and what comes behind it. -/
theorem LW.srm {P : Program} {τ : Tab} {n : Nat} {R : Exit → S → Prop} {s s' : S} {l : List (Nat × List LV × LV)} {id : Nat} {ops : Array Oper} {y : Code} (k : List (Nat × String × Nat)) (hτ : TabOk P τ) (hf : Facts P l) (hk : MFacts P k) (hn : dstsOk n ops = true)
    (hr : steps τ (envOf l [] (fun _ => false) k) ops ops.toList s = some s') (h : LW P n y R s') : LW P n (.seq (.region id ops false) y) R s :=
  LW.seq (LW.region hτ (envOf_ok hf (LFacts.nil P) hk) hn hr h)

theorem LW.rm {P : Program} {τ : Tab} {n : Nat} {R : Exit → S → Prop} {s s' : S} {l : List (Nat × List LV × LV)} {id : Nat} {ops : Array Oper} (k : List (Nat × String × Nat)) (hτ : TabOk P τ) (hf : Facts P l) (hk : MFacts P k) (hn : dstsOk n ops = true)
    (hr : steps τ (envOf l [] (fun _ => false) k) ops ops.toList s = some s') (h : R .normal s') : LW P n (.region id ops false) R s :=
  LW.region hτ (envOf_ok hf (LFacts.nil P) hk) hn hr h

/-- sched.means -/
theorem f79 (A : LV) (cs : List (List LV)) (name : ByteArray) (t f : Nat) (o : LV) (b : Bool) (hA : A.asList = some cs) (hlen : cs.length < 1000000)
    (hel : ∀ a ∈ cs, ∃ AL es, a = [AL] ∧ AL.asList = some es ∧ es.length < 1000000 ∧ ∀ e ∈ es, ∃ x n y, e = [x, .v (.int .i64 n), y] ∧ x.one = true ∧ y.one = true)
    (hask : CallSpec Tryz.prog 153 [.v (.string name), seqV (colsL cs)] (.ifc t o)) (hp : o.plain = true) (hmeth : MethOk Tryz.prog t "jigsaw/sched.holds" f) (hh : CallSpec Tryz.prog f [o] (.v (.bool b))) :
    CallSpec Tryz.prog 79 [.v (.string name), A] (.tup [.v (.bool b), .v (.int .i64 0)]) := by
  have F0 := Facts.nil Tryz.prog
  refine CallSpec.of_LW ok Tryz.func79 (by kernel_rfl) rfl (by simp [Tryz.ntmps79]) ?_
  refine LW.sr ok F0 (by decide) (by simp; rfl) ?_
  refine LW.sr ok F0 (by decide) (by simp; rfl) ?_
  refine LW.seq (LW.sr ok F0 (by decide) (by simp [hA]; rfl) (LW.block (LW.loop (fun k s => ∃ j, k + j = cs.length ∧ s.t 0 = .v (.string name) ∧ s.t 12 = A ∧ s.t 13 = .v (.int .i64 cs.length) ∧ s.t 14 = .v (.int .i64 j) ∧ Grows s 6 [34] (colsL (cs.take j)))
    (k := cs.length) ⟨0, by simp, by simp, by simp, by simp, by simp, .nil (by simp [colsL]) (by simp)⟩ ?_)))
  rintro k s ⟨j, hk, h0, h12, h13, h14, h6⟩
  refine LW.sr ok F0 (by decide) (by simp [h13, h14]; rfl) ?_
  refine LW.seq ?_
  by_cases hj : j < cs.length
  · obtain ⟨AL, es, ha, hes, hel2, hee⟩ := hel _ (List.getElem_mem hj)
    obtain ⟨q1, q2, q3, q4, q5⟩ := asList_one hes
    have hcol : colsL (cs.take (j + 1)) = colsL (cs.take j) ++ [[seqV (numsL es)]] := by
      simp [colsL, List.take_add_one, hj, ha, hes]
    have hsz : ∀ e ∈ colsL (cs.take j), e.length = 1 := by
      intro e he
      obtain ⟨x, _, rfl⟩ := List.mem_map.1 he
      rfl
    have hcl : (colsL (cs.take j)).length = j := by simp [colsL]; omega
    refine LW.ct (by simp [hj]) (LW.skip ?_)
    refine LW.seq (LW.block ?_)
    refine LW.sr ok F0 (by decide) (by simp [h12, h14, hA, hj, ha, q1]; rfl) ?_
    refine LW.sr ok F0 (by decide) (by simp; rfl) ?_
    refine LW.seq (LW.sr ok F0 (by decide) (by simp [hes]; rfl) (LW.block (LW.loop (fun k2 s2 => ∃ i, k2 + i = es.length ∧ s2.t 0 = .v (.string name) ∧ s2.t 12 = A ∧ s2.t 13 = .v (.int .i64 cs.length) ∧ s2.t 14 = .v (.int .i64 j) ∧ Grows s2 6 [34] (colsL (cs.take j)) ∧ s2.t 18 = AL ∧ s2.t 19 = .v (.int .i64 es.length) ∧ s2.t 20 = .v (.int .i64 i) ∧ Grows s2 9 [29] (numsL (es.take i)))
      (k := es.length) ⟨0, by simp, by simp [h0], by simp [h12], by simp [h13], by simp [h14], h6.keep (by simp) (by simp) (by simp), by simp, by simp, by simp, .nil (by simp [numsL]) (by simp)⟩ ?_)))
    rintro k2 s2 ⟨i, hk2, g0, g12, g13, g14, g6, g18, g19, g20, g9⟩
    refine LW.sr ok F0 (by decide) (by simp [g19, g20]; rfl) ?_
    refine LW.seq ?_
    by_cases hi : i < es.length
    · obtain ⟨x, n, y, he, hx1, hy1⟩ := hee _ (List.getElem_mem hi)
      have hnl : (numsL (es.take i)).length = i := by simp [numsL]; omega
      refine LW.ct (by simp [hi]) (LW.skip ?_)
      refine LW.seq (LW.block ?_)
      refine LW.sr ok F0 (by decide) (by simp [g18, g20, hes, hi, he, hx1, hy1]; rfl) ?_
      obtain ⟨tk, w, happ, htk, hT⟩ := appendL_grows g9 28 [[.v (.int .i64 n)]] ⟨.int .i64, 1, 8, [.int .i64 0], []⟩ (by simp) (by intro e he; obtain ⟨x, _, rfl⟩ := List.mem_map.1 he; rfl) (by simp) (by simp) (by simp) (by rw [hnl]; simp; omega) (by rw [hnl]; simp; omega) (by simp)
      have hT' : tk = 29 := by simpa using hT
      refine LW.r ok F0 (by decide) (by simp; rw [happ _ _ (by simp) (by simp)]; simp; rfl) ?_
      refine LW.r ok F0 (by decide) (by simp [g20]; rfl) ?_
      refine ⟨k2 - 1, by omega, i + 1, by omega, by simp [g0], by simp [g12], by simp [g13], by simp [g14], g6.keep (by simp) (by simp) (by simp [hT']), by simp [g18], by simp [g19], by simp [wrap_succ (show i < 9223372036854775807 by omega)], Grows.new (tk := tk) (v := w) ?_ ?_ (by simp) hT htk (by simp)⟩
      · intro h0
        have := congrArg List.length h0
        simp only [numsL, List.length_map, List.length_take, List.length_nil] at this
        omega
      · simp [numsL, List.take_add_one, hi, he]
    refine LW.cf (by simp [hi]) (LW.exit ?_)
    have hin : i = es.length := by omega
    subst hin
    rw [List.take_length] at g9
    have g9v := g9.val
    have hna := seqV_asList (numsL es)
    obtain ⟨n1, n2, n3, n4, n5⟩ := asList_one hna
    obtain ⟨tk, w, happ, htk, hT⟩ := appendL_grows g6 33 [[seqV (numsL es)]] ⟨.slice 2, 1, 24, [.slice none 0 0], []⟩ (by simp) hsz (by simp) (by simp) (by simp) (by rw [hcl]; simp; omega) (by rw [hcl]; simp; omega) (by simp)
    refine LW.r ok F0 (by decide) (by simp [g9v, n1, n4]; rw [happ _ _ (by simp) (by simp)]; simp; rfl) ?_
    refine LW.r ok F0 (by decide) (by simp [g14]; rfl) ?_
    refine ⟨k - 1, by omega, j + 1, by omega, by simp [g0], by simp [g12], by simp [g13], by simp [wrap_succ (show j < 9223372036854775807 by omega)], Grows.new (tk := tk) (v := w) ?_ ?_ (by simp) hT htk (by simp)⟩
    · rw [hcol]; simp
    · simp [hcol]
  refine LW.cf (by simp [hj]) (LW.exit ?_)
  have hjn : j = cs.length := by omega
  subst hjn
  rw [List.take_length] at h6
  have h6v := h6.val
  have hca := seqV_asList (colsL cs)
  obtain ⟨c1, c2, c3, c4, c5⟩ := asList_one hca
  have F1 := Facts.cons hask (Facts.cons hh F0)
  refine LW.srm [(t, "jigsaw/sched.holds", f)] ok F1 (by intro p hp; simp at hp; subst hp; exact hmeth) (by decide) (by simp [h0, h6v, c2, hp, ofFacts]; rfl) (LW.retk ?_)
  simp [Tryz.f79, resL, resOne]
end Go.LI.T
namespace Go.LI.T
open Go Go.LI Go.Proofs
set_option maxRecDepth 100000
set_option maxHeartbeats 4000000

/-- What the question of a constraint is (its type, its parts), from the arguments' lists. -/
def askV (name : ByteArray) (L : Nat → LV) (one : LV) (hd : Nat → Int) : LV :=
  if name = n_circuit ∨ name = n_subcircuit then .ifc 161 (.agg [L 0, .v (.bool (decide (name = n_subcircuit)))])
  else if name = n_cumulative then .ifc 164 (.agg [L 0, L 1, L 2, .v (.int .i64 (hd 3))])
  else if name = n_disjunctive then .ifc 164 (.agg [L 0, L 1, one, .v (.int .i64 1)])
  else if name = n_diffn then .ifc 166 (.agg [L 0, L 1, L 2, L 3])
  else if name = n_bin_packing then .ifc 215 (.agg [.v (.int .i64 (hd 0)), L 1, L 2])
  else if name = n_bin_packing_capa ∨ name = n_bin_packing_load then .ifc 168 (.agg [L 0, L 1, L 2, .v (.bool (decide (name = n_bin_packing_load)))])
  else .ifc 170 (.agg [L 0, L 1, L 2, .v (.int .i64 (hd 3)), .v (.int .i64 (hd 4))])

/-- How many lists a name's question takes. -/
def askN (name : ByteArray) : Nat :=
  if name = n_circuit ∨ name = n_subcircuit then 1
  else if name = n_cumulative then 4
  else if name = n_disjunctive then 2
  else if name = n_diffn then 4
  else if name = n_bin_packing then 3
  else if name = n_bin_packing_capa ∨ name = n_bin_packing_load then 3
  else 5

/-- Of which lists it takes the first number. -/
def askH (name : ByteArray) : List Nat :=
  if name = n_cumulative then [3] else if name = n_bin_packing then [0]
  else if name = n_circuit ∨ name = n_subcircuit ∨ name = n_disjunctive ∨ name = n_diffn ∨ name = n_bin_packing_capa ∨ name = n_bin_packing_load then [] else [3, 4]

theorem cells_one {l : LV} (h : l.one = true) : l.cells = [l] := by
  cases l <;> first | rfl | simp [LV.one] at h

/-- sched.ask -/
theorem f153 (A one : LV) (name : ByteArray) (cs : List (List LV)) (L : Nat → LV) (hd : Nat → Int) (hA : A.asList = some cs) (hn : askN name ≤ cs.length)
    (hL : ∀ i, i < askN name → cs[i]? = some [L i] ∧ ∃ es, (L i).asList = some es ∧ (i ∈ askH name → 0 < es.length ∧ es[0]? = some [.v (.int .i64 (hd i))]))
    (hrep : name = n_disjunctive → ∀ es, (L 0).asList = some es → CallSpec Tryz.prog 216 [.list [[.v (.int .i64 1)]], .v (.int .i64 es.length)] one ∧ one.one = true ∧ one.plain = true) :
    CallSpec Tryz.prog 153 [.v (.string name), A] (askV name L one hd) := by
  have F0 := Facts.nil Tryz.prog
  refine CallSpec.of_LW ok Tryz.func153 (by kernel_rfl) rfl (by simp [Tryz.ntmps153]) ?_
  refine LW.sr ok F0 (by decide) (by simp; rfl) ?_
  refine LW.seq (LW.sr ok F0 (by decide) (by simp; rfl) (LW.block (LW.seq (LW.sr ok F0 (by decide) (by simp; rfl) ?_))))
  have get : ∀ i, i < askN name → (i : Int) < cs.length ∧ i < cs.length ∧ cs[i]? = some [L i] ∧ (∀ h, cs[i]'h = [L i]) ∧ (L i).one = true ∧ (L i).plain = true ∧ (L i).hot = false ∧ (L i).cells = [L i] := fun i hi => by
    obtain ⟨h1, es, h2, _⟩ := hL i hi
    obtain ⟨q1, q2, q3, q4, _⟩ := asList_one h2
    exact ⟨by omega, by omega, h1, fun h => by rw [List.getElem?_eq_getElem h] at h1; exact Option.some.inj h1, q1, q2, q3, q4⟩
  have first : ∀ i, i < askN name → i ∈ askH name → ∃ es, (L i).asList = some es ∧ 0 < es.length ∧ es[0]? = some [.v (.int .i64 (hd i))] ∧ (∀ h, es[0]'h = [.v (.int .i64 (hd i))]) := fun i hi hm => by
    obtain ⟨_, es, h2, h3⟩ := hL i hi
    obtain ⟨h4, h5⟩ := h3 hm
    exact ⟨es, h2, h4, h5, fun h => by rw [List.getElem?_eq_getElem h] at h5; exact Option.some.inj h5⟩
  by_cases h1 : name = n_circuit
  · have e : askN name = 1 := by simp [askN, h1]
    obtain ⟨z0, zn, z1, zg, z2, z3, z4, z5⟩ := get 0 (by omega)
    refine LW.ct (by simp [h1]) (LW.skip (LW.ct (by simp [h1]) (LW.sr ok F0 (by decide) (by simp [hA, zn, zg, z2, z3, z4, z5]; rfl) (LW.ret ?_))))
    show resL _ _ _ = _
    simp [Tryz.f153, resL, resOne, askV, h1]
  refine LW.cf (by simp [h1]) (LW.r ok F0 (by decide) (by simp; rfl) ?_)
  by_cases h2 : name = n_subcircuit
  · have e : askN name = 1 := by simp [askN, h2]
    obtain ⟨z0, zn, z1, zg, z2, z3, z4, z5⟩ := get 0 (by omega)
    refine LW.ct (by simp [h2]) (LW.sr ok F0 (by decide) (by simp [hA, zn, zg, z2, z3, z4, z5]; rfl) (LW.ret ?_))
    show resL _ _ _ = _
    simp [Tryz.f153, resL, resOne, askV, h2]
  have h12 : ¬ (name = n_circuit ∨ name = n_subcircuit) := by simp only [h1, h2, or_self, not_false_eq_true]
  refine LW.cf (by simp [h2]) (LW.sr ok F0 (by decide) (by simp; rfl) ?_)
  by_cases h3 : name = n_cumulative
  · have e : askN name = 4 := by rw [askN, if_neg h12, if_pos h3]
    obtain ⟨y0, yn, y1, yg, y2, y3, y4, y5⟩ := get 0 (by omega)
    obtain ⟨z0, zn, z1, zg, z2, z3, z4, z5⟩ := get 1 (by omega)
    obtain ⟨w0, wn, w1, wg, w2, w3, w4, w5⟩ := get 2 (by omega)
    obtain ⟨v0, vn, v1, vg, v2, v3, v4, v5⟩ := get 3 (by omega)
    obtain ⟨es, u1, u2, u3, u4⟩ := first 3 (by omega) (by simp [askH, h3])
    refine LW.ct (by simp [h3]) (LW.sd mixed ok F0 (by decide) (by decide +kernel) (by simp at z0 w0 v0; simp [hA, yn, yg, y2, y3, y4, y5, z0, z1, z2, z3, z4, z5, w0, w1, w2, w3, w4, w5, v0, v1, v2, v3, v4, v5, u1, u2, u4]; rfl) (LW.ret ?_))
    show resL _ _ _ = _
    simp [Tryz.f153, resL, resOne, askV, h3]
  refine LW.cf (by simp [h3]) (LW.sr ok F0 (by decide) (by simp; rfl) ?_)
  by_cases h4 : name = n_disjunctive
  · have e : askN name = 2 := by rw [askN, if_neg h12, if_neg h3, if_pos h4]
    obtain ⟨y0, yn, y1, yg, y2, y3, y4, y5⟩ := get 0 (by omega)
    obtain ⟨z0, zn, z1, zg, z2, z3, z4, z5⟩ := get 1 (by omega)
    obtain ⟨_, es, hes, _⟩ := hL 0 (by omega)
    obtain ⟨r1, r2, r3⟩ := hrep h4 es hes
    have F1 := Facts.cons r1 F0
    refine LW.ct (by simp [h4]) (LW.sr ok F1 (by decide) (by simp [hA, yn, yg, y2, y3, y4, y5, hes]; rfl) ?_)
    refine LW.sd mixed ok F0 (by decide) (by decide +kernel) (by simp at z0; simp [hA, yn, yg, y2, y3, y4, y5, z0, z1, z2, z3, z4, z5, r2, r3, hot_of_plain r3, cells_one r2]; rfl) (LW.ret ?_)
    show resL _ _ _ = _
    simp [Tryz.f153, resL, resOne, askV, h4]
  refine LW.cf (by simp [h4]) (LW.sr ok F0 (by decide) (by simp; rfl) ?_)
  by_cases h5 : name = n_diffn
  · have e : askN name = 4 := by rw [askN, if_neg h12, if_neg h3, if_neg h4, if_pos h5]
    obtain ⟨y0, yn, y1, yg, y2, y3, y4, y5⟩ := get 0 (by omega)
    obtain ⟨z0, zn, z1, zg, z2, z3, z4, z5⟩ := get 1 (by omega)
    obtain ⟨w0, wn, w1, wg, w2, w3, w4, w5⟩ := get 2 (by omega)
    obtain ⟨v0, vn, v1, vg, v2, v3, v4, v5⟩ := get 3 (by omega)
    refine LW.ct (by simp [h5]) (LW.sd mixed ok F0 (by decide) (by decide +kernel) (by simp at z0 w0 v0; simp [hA, yn, yg, y2, y3, y4, y5, z0, z1, z2, z3, z4, z5, w0, w1, w2, w3, w4, w5, v0, v1, v2, v3, v4, v5]; rfl) (LW.ret ?_))
    show resL _ _ _ = _
    simp [Tryz.f153, resL, resOne, askV, h5]
  refine LW.cf (by simp [h5]) (LW.sr ok F0 (by decide) (by simp; rfl) ?_)
  by_cases h6 : name = n_bin_packing
  · have e : askN name = 3 := by rw [askN, if_neg h12, if_neg h3, if_neg h4, if_neg h5, if_pos h6]
    obtain ⟨y0, yn, y1, yg, y2, y3, y4, y5⟩ := get 0 (by omega)
    obtain ⟨z0, zn, z1, zg, z2, z3, z4, z5⟩ := get 1 (by omega)
    obtain ⟨w0, wn, w1, wg, w2, w3, w4, w5⟩ := get 2 (by omega)
    obtain ⟨es, u1, u2, u3, u4⟩ := first 0 (by omega) (by simp [askH, h6])
    refine LW.ct (by simp [h6]) (LW.sd mixed ok F0 (by decide) (by decide +kernel) (by simp at z0 w0; simp [hA, yn, yg, y2, y3, y4, y5, z0, z1, z2, z3, z4, z5, w0, w1, w2, w3, w4, w5, u1, u2, u4]; rfl) (LW.ret ?_))
    show resL _ _ _ = _
    simp [Tryz.f153, resL, resOne, askV, h6]
  refine LW.cf (by simp [h6]) (LW.seq (LW.sr ok F0 (by decide) (by simp; rfl) ?_))
  by_cases h7 : name = n_bin_packing_capa
  · have e : askN name = 3 := by rw [askN, if_neg h12, if_neg h3, if_neg h4, if_neg h5, if_neg h6, if_pos (.inl h7)]
    obtain ⟨y0, yn, y1, yg, y2, y3, y4, y5⟩ := get 0 (by omega)
    obtain ⟨z0, zn, z1, zg, z2, z3, z4, z5⟩ := get 1 (by omega)
    obtain ⟨w0, wn, w1, wg, w2, w3, w4, w5⟩ := get 2 (by omega)
    refine LW.ct (by simp [h7]) (LW.skip (LW.ct (by simp [h7]) (LW.sd mixed ok F0 (by decide) (by decide +kernel) (by simp at z0 w0; simp [hA, yn, yg, y2, y3, y4, y5, z0, z1, z2, z3, z4, z5, w0, w1, w2, w3, w4, w5]; rfl) (LW.ret ?_))))
    show resL _ _ _ = _
    simp [Tryz.f153, resL, resOne, askV, h7]
  refine LW.cf (by simp [h7]) (LW.r ok F0 (by decide) (by simp; rfl) ?_)
  by_cases h8 : name = n_bin_packing_load
  · have e : askN name = 3 := by rw [askN, if_neg h12, if_neg h3, if_neg h4, if_neg h5, if_neg h6, if_pos (.inr h8)]
    obtain ⟨y0, yn, y1, yg, y2, y3, y4, y5⟩ := get 0 (by omega)
    obtain ⟨z0, zn, z1, zg, z2, z3, z4, z5⟩ := get 1 (by omega)
    obtain ⟨w0, wn, w1, wg, w2, w3, w4, w5⟩ := get 2 (by omega)
    refine LW.ct (by simp [h8]) (LW.sd mixed ok F0 (by decide) (by decide +kernel) (by simp at z0 w0; simp [hA, yn, yg, y2, y3, y4, y5, z0, z1, z2, z3, z4, z5, w0, w1, w2, w3, w4, w5]; rfl) (LW.ret ?_))
    show resL _ _ _ = _
    simp [Tryz.f153, resL, resOne, askV, h8]
  have h78 : ¬ (name = n_bin_packing_capa ∨ name = n_bin_packing_load) := by simp only [h7, h8, or_self, not_false_eq_true]
  have e : askN name = 5 := by rw [askN, if_neg h12, if_neg h3, if_neg h4, if_neg h5, if_neg h6, if_neg h78]
  have eh : askH name = [3, 4] := by rw [askH, if_neg h3, if_neg h6, if_neg]; simp only [h1, h2, h4, h5, h7, h8, or_self, not_false_eq_true]
  obtain ⟨y0, yn, y1, yg, y2, y3, y4, y5⟩ := get 0 (by omega)
  obtain ⟨z0, zn, z1, zg, z2, z3, z4, z5⟩ := get 1 (by omega)
  obtain ⟨w0, wn, w1, wg, w2, w3, w4, w5⟩ := get 2 (by omega)
  obtain ⟨v0, vn, v1, vg, v2, v3, v4, v5⟩ := get 3 (by omega)
  obtain ⟨x0, xn, x1, xg, x2, x3, x4, x5⟩ := get 4 (by omega)
  obtain ⟨es, u1, u2, u3, u4⟩ := first 3 (by omega) (by simp [eh])
  obtain ⟨es', t1, t2, t3, t4⟩ := first 4 (by omega) (by simp [eh])
  refine LW.cf (by simp [h8]) (LW.skip ?_)
  refine LW.sd mixed ok F0 (by decide) (by decide +kernel) (by simp at z0 w0 v0 x0; simp [hA, yn, yg, y2, y3, y4, y5, z0, z1, z2, z3, z4, z5, w0, w1, w2, w3, w4, w5, v0, v1, v2, v3, v4, v5, x0, x1, x2, x3, x4, x5, u1, u2, u4, t1, t2, t4]; rfl) (LW.retk ?_)
  simp [Tryz.f153, resL, resOne, askV, h1, h2, h3, h4, h5, h6, h7, h8]
end Go.LI.T
namespace Go.LI.T
open Go Go.LI Go.Proofs
set_option maxRecDepth 100000
set_option maxHeartbeats 4000000

abbrev p_aI : ByteArray := ⟨#[97, 73]⟩
abbrev p_I : ByteArray := ⟨#[73]⟩
abbrev p_ai : ByteArray := ⟨#[97, 105]⟩
abbrev p_i : ByteArray := ⟨#[105]⟩
abbrev comma : ByteArray := ⟨#[44]⟩

/-- The forms, with their commas. -/
abbrev fm_aI : ByteArray := ⟨#[97, 73]⟩
abbrev fm_aI_aI : ByteArray := ⟨#[97, 73, 44, 97, 73]⟩
abbrev fm_aI3_I : ByteArray := ⟨#[97, 73, 44, 97, 73, 44, 97, 73, 44, 73]⟩
abbrev fm_aI4 : ByteArray := ⟨#[97, 73, 44, 97, 73, 44, 97, 73, 44, 97, 73]⟩

def strsV (ps : List ByteArray) : LV := .list (ps.map fun p => [.v (.string p)])

theorem split_aI : CallSpec Tryz.prog 160 [.v (.string fm_aI), .v (.string comma)] (strsV [p_aI]) := callX_spec T13_ok 1000 (by kernel_rfl)
theorem split_aI_aI : CallSpec Tryz.prog 160 [.v (.string fm_aI_aI), .v (.string comma)] (strsV [p_aI, p_aI]) := callX_spec T13_ok 1000 (by kernel_rfl)
theorem split_aI3_I : CallSpec Tryz.prog 160 [.v (.string fm_aI3_I), .v (.string comma)] (strsV [p_aI, p_aI, p_aI, p_I]) := callX_spec T13_ok 1000 (by kernel_rfl)
theorem split_aI4 : CallSpec Tryz.prog 160 [.v (.string fm_aI4), .v (.string comma)] (strsV [p_aI, p_aI, p_aI, p_aI]) := callX_spec T13_ok 1000 (by kernel_rfl)

theorem truths_disj : CallSpec Tryz.prog 122 [.v (.string n_disjunctive)] nilV := callX_spec T13_ok 1000 (by kernel_rfl)
theorem truths_cum : CallSpec Tryz.prog 122 [.v (.string n_cumulative)] nilV := callX_spec T13_ok 1000 (by kernel_rfl)
theorem truths_diffn : CallSpec Tryz.prog 122 [.v (.string n_diffn)] nilV := callX_spec T13_ok 1000 (by kernel_rfl)

theorem row_disj : (findRow n_disjunctive).form = fm_aI_aI ∧ (findRow n_disjunctive).fam = s_sched := ⟨by kernel_rfl, by kernel_rfl⟩
theorem row_cum : (findRow n_cumulative).form = fm_aI3_I ∧ (findRow n_cumulative).fam = s_sched := ⟨by kernel_rfl, by kernel_rfl⟩
theorem row_diffn : (findRow n_diffn).form = fm_aI4 ∧ (findRow n_diffn).fam = s_sched := ⟨by kernel_rfl, by kernel_rfl⟩
end Go.LI.T
namespace Go.LI.T
open Go Go.LI Go.Proofs
set_option maxRecDepth 100000
set_option linter.unusedSimpArgs false
set_option maxHeartbeats 4000000

/-- sched.Holds, by tool.Holds -/
theorem f37 (X L : LV) (name : ByteArray) (q : LV) (a b : LV) (hX : X.one = true) (hXp : X.plain = true) (hL : L.plain = true) (hL1 : L.one = true) (hr : q = .tup [a, b]) (ha : a.one = true) (hb : b.one = true) (ha2 : a.plain = true) (hb2 : b.plain = true)
    (h : CallSpec Tryz.prog 44 [.agg [.v (.string name), X], L, .v (.string s_sched), .v (.func (.func 79) #[] #[])] q) : CallSpec Tryz.prog 37 [.agg [.v (.string name), X], L] q := by
  subst hr
  have F0 := Facts.nil Tryz.prog
  have F := Facts.cons h F0
  refine CallSpec.of_LW ok Tryz.func37 (by kernel_rfl) rfl (by simp [Tryz.ntmps37]) ?_
  refine LW.sr ok F0 (by decide) (by simp [hX]; rfl) ?_
  refine LW.sr ok F (by decide) (by simp [hX, hXp, hL, hL1, ha, hb]; rfl) (LW.retk ?_)
  simp [Tryz.f37, resL, resOne, ha2, hb2]

def intsV (ns : List Int) : LV := seqV (ns.map fun n => [LV.v (.int .i64 n)])
theorem intsV_are (ns : List Int) : IntsAre (intsV ns) ns := seqV_asList _

/-- Constraints over numbers alone. -/
def asAg (ws : List (Bool × List Int)) : List Ag := ws.map fun q => numAg q.1 q.2
def asC (ws : List (Bool × List Int)) : List (List LV) := ws.map fun q => [.v (.bool q.1), seqV (numsC q.2)]
def asV (ws : List (Bool × List Int)) : LV := .list (asC ws)
def wholeB (n : Int) : Bool := decide (-1000000 ≤ n) && decide (n ≤ 1000000)
def askW (_ : Int) (t : Tm) : Bool := varOk [] t false || numOk t (-1000000) 1000000
def allW (ws : List (Bool × List Int)) : Bool := ws.all fun q => q.2.all wholeB

theorem askW_num (k : Int) (n : Int) : askW k (numTm n) = wholeB n := by
  simp [askW, varOk, numOk, numTm, wholeB]
  rfl

theorem asV_are (ws : List (Bool × List Int)) : ListAre AgAre (asV ws) (asAg ws) := by
  refine ⟨asC ws, rfl, by simp [asC, asAg], fun i e x he hx => ?_⟩
  simp only [asC, asAg, List.getElem?_map] at he hx
  obtain ⟨q, hq, rfl⟩ := Option.map_eq_some_iff.1 he
  rw [hq] at hx
  simp only [Option.map_some, Option.some.injEq] at hx
  subst hx
  refine ⟨seqV (numsC q.2), rfl, numsC q.2, seqV_asList _, by simp [numsC, numAg], fun i e x he hx => ?_⟩
  simp only [numsC, numAg, List.getElem?_map] at he hx
  obtain ⟨n, hn, rfl⟩ := Option.map_eq_some_iff.1 he
  rw [hn] at hx
  simp only [Option.map_some, Option.some.injEq] at hx
  subst hx
  exact ⟨nilV, rfl, rfl⟩

theorem agC_as (ws : List (Bool × List Int)) : (asC ws).map (agC []) = ws.map fun q => [seqV (q.2.map fun n => [LV.v (.bool false), .v (.int .i64 n), nilV])] := by
  simp only [asC, List.map_map]
  refine List.map_congr_left fun q _ => ?_
  simp only [Function.comp, agC, seqV_asList, Option.getD_some, numsC, List.map_map]
  congr 2

theorem cols_as (ws : List (Bool × List Int)) : colsL ((asC ws).map (agC [])) = ws.map fun q => [intsV q.2] := by
  rw [agC_as]
  simp only [colsL, List.map_map]
  refine List.map_congr_left fun q _ => ?_
  simp only [Function.comp, List.getD_cons_zero, seqV_asList, Option.getD_some, numsL, List.map_map, intsV]
  congr 2

theorem right_as {ws : List (Bool × List Int)} {parts : List ByteArray} {rules : Bool} (hl : parts.length = ws.length) (hh : ((asAg ws).zip parts).all (fun q => headOk q.1 q.2) = true) (hs : ∀ q ∈ ws, q.2.length ≤ 1000) :
    rightP (asAg ws) parts askW rules = if allW ws = true ∧ rules = true then 0 else 50 := by
  unfold rightP
  rw [if_neg (by simp [asAg, hl]), if_neg (by rw [hh]; simp)]
  have h3 : (asAg ws).any (fun a => decide (1000 < a.l.length)) = false := by
    rw [List.any_eq_false]
    intro a ha
    obtain ⟨q, hq, rfl⟩ := List.mem_map.1 ha
    have := hs q hq
    simp [numAg]
    omega
  rw [h3, if_neg (by simp)]
  have h4 : ((asAg ws).zip parts).all (fun q => q.1.l.all (askW (letN q.2))) = allW ws := by
    have e : ∀ (ws : List (Bool × List Int)) (ps : List ByteArray), ps.length = ws.length → ((asAg ws).zip ps).all (fun q => q.1.l.all (askW (letN q.2))) = allW ws := by
      intro ws
      induction ws with
      | nil => intro ps _; rfl
      | cons a ws ih =>
        intro ps hps
        cases ps with
        | nil => simp at hps
        | cons p ps =>
          have := ih ps (by simpa using hps)
          simp only [asAg, allW, List.map_cons, List.zip_cons_cons, List.all_cons] at this ⊢
          rw [this]
          congr 1
          simp only [numAg, List.all_map]
          congr 1
    exact e ws parts hl
  rw [h4]
  cases allW ws <;> cases rules <;> rfl

/-- sched.Holds of a constraint over numbers alone. -/
theorem holds13 (name form : ByteArray) (ws : List (Bool × List Int)) (parts : List ByteArray) (b : Bool) (hrow : (findRow name).form = form ∧ (findRow name).fam = s_sched) (hne : form ≠ ⟨#[]⟩)
    (hsplit : CallSpec Tryz.prog 160 [.v (.string form), .v (.string comma)] (strsV parts)) (hparts : ∀ p ∈ parts, p = p_aI ∨ p = p_I) (hl : parts.length = ws.length) (hlen : ws.length < 100)
    (hh : ((asAg ws).zip parts).all (fun q => headOk q.1 q.2) = true) (hs : ∀ q ∈ ws, q.2.length ≤ 1000) (htr : CallSpec Tryz.prog 122 [.v (.string name)] nilV) (har : Arity ⟨name, asAg ws⟩) (hreg : name ≠ n_regular)
    (hm : allW ws = true → rulesF ⟨name, asAg ws⟩ false = true → ∃ t f o, CallSpec Tryz.prog 153 [.v (.string name), seqV (ws.map fun q => [intsV q.2])] (.ifc t o) ∧ o.plain = true ∧ MethOk Tryz.prog t "jigsaw/sched.holds" f ∧ CallSpec Tryz.prog f [o] (.v (.bool b))) :
    CallSpec Tryz.prog 37 [.agg [.v (.string name), asV ws], nilV] (resBE (holdsR true (if allW ws = true ∧ rulesF ⟨name, asAg ws⟩ false = true then 0 else 50) true b 0)) := by
  have hX := asV_are ws
  have hre := right_as (rules := rulesF ⟨name, asAg ws⟩ false) hl hh hs
  have hK : BoolsAre nilV [] := rfl
  have h92 : CallSpec Tryz.prog 92 [.agg [.v (.string name), asV ws], nilV] (.v (.int .i64 (if allW ws = true ∧ rulesF ⟨name, asAg ws⟩ false = true then 0 else 50))) := by
    rw [← hre]
    refine f92 (asV ws) nilV (strsV parts) ⟨name, asAg ws⟩ form parts askW (rulesF ⟨name, asAg ws⟩ false) hX hK hrow.1 hne hsplit rfl (fun p hp => ?_) (by omega) (fun q hq t ht S hS => ?_) (fun _ _ _ _ => ?_)
    · rcases hparts p hp with rfl | rfl <;> decide
    · have : letN q.2 = 73 := by
        rcases hparts q.2 (List.of_mem_zip hq).2 with h | h <;> rw [h] <;> rfl
      rw [this]
      exact f225 nilV S [] t hK hS
    · exact f162 (asV ws) ⟨name, asAg ws⟩ false hX har (fun a ha => by
        obtain ⟨q, hq, rfl⟩ := List.mem_map.1 ha
        have := hs q hq
        simpa [numAg] using this) (fun h => absurd h hreg)
  have hnv : NoVars ⟨name, asAg ws⟩ := by
    intro a ha t ht
    obtain ⟨q, _, rfl⟩ := List.mem_map.1 ha
    obtain ⟨n, _, rfl⟩ := List.mem_map.1 ht
    show (-1 : Int) < 0
    omega
  have hlens : ∀ a ∈ asAg ws, a.l.length < 1000000 := fun a ha => by
    obtain ⟨q, hq, rfl⟩ := List.mem_map.1 ha
    have := hs q hq
    simp [numAg]
    omega
  have h93 := f93c (asV ws) ⟨name, asAg ws⟩ hX hnv (by simp [asAg]; omega) hlens
  have h44 := f44 (asV ws) nilV nilV ⟨name, asAg ws⟩ [] [] s_sched 79 (if allW ws = true ∧ rulesF ⟨name, asAg ws⟩ false = true then 0 else 50) 0 b [] rfl rfl rfl ⟨[], rfl, rfl, by simp⟩ (by simp) (fun _ => h92)
    (fun _ _ => ⟨h93, rfl, by simp, by simp⟩) (fun _ h0 _ => ?_)
  · have e : decide ((findRow name).fam = s_sched) = true := by simp [hrow.2]
    simp only [e] at h44
    exact f37 (asV ws) nilV name _ _ _ rfl rfl rfl rfl rfl rfl rfl rfl rfl h44
  · by_cases hc : allW ws = true ∧ rulesF ⟨name, asAg ws⟩ false = true
    · obtain ⟨t, f, o, h1, h2, h3, h4⟩ := hm hc.1 hc.2
      refine f95 (asV ws) nilV ⟨name, asAg ws⟩ (asC ws) [] 79 b 0 hX rfl rfl (by simp) (fun a ha t ht => ?_) (by simp [asC]; omega) hlens htr ?_
      · obtain ⟨q, _, rfl⟩ := List.mem_map.1 ha
        obtain ⟨n, _, rfl⟩ := List.mem_map.1 ht
        exact .inl rfl
      · rw [← cols_as] at h1
        refine f79 (seqV ((asC ws).map (agC []))) ((asC ws).map (agC [])) name t f o b (seqV_asList _) (by simp [asC]; omega) (fun a ha => ?_) h1 h2 h3 h4
        rw [agC_as] at ha
        obtain ⟨q, hq, rfl⟩ := List.mem_map.1 ha
        have := hs q hq
        refine ⟨_, _, rfl, seqV_asList _, by simp; omega, fun e he => ?_⟩
        obtain ⟨n, _, rfl⟩ := List.mem_map.1 he
        exact ⟨_, _, _, rfl, rfl, rfl⟩
    · rw [if_neg hc] at h0
      cases h0
end Go.LI.T
namespace Go.LI.T
open Go Go.LI Go.Proofs
set_option maxRecDepth 100000
set_option maxHeartbeats 2000000

theorem f309 (n : Int) : CallSpec Tryz.prog 309 [.v (.int .i64 n)] (.v (.bool (decide (n < 0)))) := by
  have F := Facts.nil Tryz.prog
  refine CallSpec.of_LW ok Tryz.func309 (by kernel_rfl) rfl (by simp [Tryz.ntmps309]) ?_
  refine LW.sr ok F (by decide) (by simp; rfl) ?_
  refine LW.sr ok F (by decide) (by simp; rfl) (LW.retk ?_)
  simp [Tryz.f309, resL, resOne]

/-- sched.low -/
theorem f267 (l : LV) (ns : List Int) (hl : IntsAre l ns) (hlen : ns.length < 1000000) : CallSpec Tryz.prog 267 [l] (.v (.bool (ns.any fun n => decide (n < 0)))) := by
  obtain ⟨q1, q2, q3, q4, q5⟩ := asList_one hl
  have F := Facts.cons (f278 l ns 309 (fun n => decide (n < 0)) hl (fun n _ => f309 n) hlen) (Facts.nil Tryz.prog)
  refine CallSpec.of_LW ok Tryz.func267 (by kernel_rfl) rfl (by simp [Tryz.ntmps267]) ?_
  refine LW.sr ok F (by decide) (by simp; rfl) ?_
  refine LW.sr ok F (by decide) (by simp [q1, q2, q3]; rfl) (LW.retk ?_)
  simp [Tryz.f267, resL, resOne]
end Go.LI.T
/- slices.SortFunc of moments: its code is the one of the shelf. The fields are what the kit's own command prints. -/
namespace Go.Proofs
open Go.Shelf
set_option maxRecDepth 100000
def Tryz.sortMom_ren : Go.Shelf.Ren := ⟨fun | 6 => 268 | 15 => 235 | 14 => 310 | 28 => 290 | 29 => 291 | 20 => 331 | 21 => 332 | 22 => 333 | 23 => 334 | 24 => 335 | 25 => 336 | 26 => 337 | 27 => 338 | 46 => 347 | 47 => 317 | 48 => 318 | 49 => 348 | 50 => 349 | 57 => 360 | n => n, fun | 22 => 241 | 24 => 243 | 25 => 246 | 3 => 3 | 39 => 225 | 0 => 0 | 53 => 261 | 55 => 263 | 4 => 4 | 46 => 254 | 45 => 253 | 50 => 188 | 5 => 5 | 9 => 9 | 66 => 284 | 70 => 288 | 76 => 301 | 77 => 302 | n => n, fun | n => n⟩
theorem Tryz.sortMom : Go.Proofs.SlLaysF0.n6 Tryz.prog Tryz.sortMom_ren where
  mixed := by kernel_rfl
  f6 := ⟨ "slices.SortFunc[[]jigsaw/sched.moment,jigsaw/sched.moment]", by decide, Tryz.func268.trans (congrArg some (by kernel_rfl))⟩
  f14 := ⟨ "slices.pdqsortCmpFunc[jigsaw/sched.moment]", by decide, Tryz.func310.trans (congrArg some (by kernel_rfl))⟩
  f15 := Tryz.func235.trans (congrArg some (by kernel_rfl))
  f20 := ⟨ "slices.insertionSortCmpFunc[jigsaw/sched.moment]", by decide, Tryz.func331.trans (congrArg some (by kernel_rfl))⟩
  f21 := ⟨ "slices.heapSortCmpFunc[jigsaw/sched.moment]", by decide, Tryz.func332.trans (congrArg some (by kernel_rfl))⟩
  f22 := ⟨ "slices.breakPatternsCmpFunc[jigsaw/sched.moment]", by decide, Tryz.func333.trans (congrArg some (by kernel_rfl))⟩
  f23 := ⟨ "slices.choosePivotCmpFunc[jigsaw/sched.moment]", by decide, Tryz.func334.trans (congrArg some (by kernel_rfl))⟩
  f24 := ⟨ "slices.reverseRangeCmpFunc[jigsaw/sched.moment]", by decide, Tryz.func335.trans (congrArg some (by kernel_rfl))⟩
  f25 := ⟨ "slices.partialInsertionSortCmpFunc[jigsaw/sched.moment]", by decide, Tryz.func336.trans (congrArg some (by kernel_rfl))⟩
  f26 := ⟨ "slices.partitionEqualCmpFunc[jigsaw/sched.moment]", by decide, Tryz.func337.trans (congrArg some (by kernel_rfl))⟩
  f27 := ⟨ "slices.partitionCmpFunc[jigsaw/sched.moment]", by decide, Tryz.func338.trans (congrArg some (by kernel_rfl))⟩
  f28 := Tryz.func290.trans (congrArg some (by kernel_rfl))
  f29 := Tryz.func291.trans (congrArg some (by kernel_rfl))
  f46 := ⟨ "slices.siftDownCmpFunc[jigsaw/sched.moment]", by decide, Tryz.func347.trans (congrArg some (by kernel_rfl))⟩
  f47 := Tryz.func317.trans (congrArg some (by kernel_rfl))
  f48 := Tryz.func318.trans (congrArg some (by kernel_rfl))
  f49 := ⟨ "slices.medianAdjacentCmpFunc[jigsaw/sched.moment]", by decide, Tryz.func348.trans (congrArg some (by kernel_rfl))⟩
  f50 := ⟨ "slices.medianCmpFunc[jigsaw/sched.moment]", by decide, Tryz.func349.trans (congrArg some (by kernel_rfl))⟩
  f57 := ⟨ "slices.order2CmpFunc[jigsaw/sched.moment]", by decide, Tryz.func360.trans (congrArg some (by kernel_rfl))⟩
  t0 := Tryz.underlying0
  a0 := Tryz.isAgg0
  z0 := Tryz.sizeOf0
  v0 := Tryz.zeroValue0
  t3 := Tryz.underlying3
  a3 := Tryz.isAgg3
  z3 := Tryz.sizeOf3
  v3 := Tryz.zeroValue3
  t4 := Tryz.underlying4
  a4 := Tryz.isAgg4
  z4 := Tryz.sizeOf4
  v4 := Tryz.zeroValue4
  t5 := Tryz.underlying5
  a5 := Tryz.isAgg5
  z5 := Tryz.sizeOf5
  v5 := Tryz.zeroValue5
  t9 := Tryz.underlying9
  a9 := Tryz.isAgg9
  z9 := Tryz.sizeOf9
  v9 := Tryz.zeroValue9
  t22 := Tryz.underlying241
  a22 := Tryz.isAgg241
  z22 := Tryz.sizeOf241
  v22 := Tryz.zeroValue241
  t25 := Tryz.underlying246
  a25 := Tryz.isAgg246
  z25 := Tryz.sizeOf246
  v25 := Tryz.zeroValue246
  t39 := Tryz.underlying225
  a39 := Tryz.isAgg225
  z39 := Tryz.sizeOf225
  v39 := Tryz.zeroValue225
  t45 := Tryz.underlying253
  a45 := Tryz.isAgg253
  z45 := Tryz.sizeOf253
  v45 := Tryz.zeroValue253
  t46 := Tryz.underlying254
  a46 := Tryz.isAgg254
  z46 := Tryz.sizeOf254
  v46 := Tryz.zeroValue254
  t50 := Tryz.underlying188
  a50 := Tryz.isAgg188
  z50 := Tryz.sizeOf188
  v50 := Tryz.zeroValue188
  t53 := Tryz.underlying261
  a53 := Tryz.isAgg261
  z53 := Tryz.sizeOf261
  v53 := Tryz.zeroValue261
  t55 := Tryz.underlying263
  a55 := Tryz.isAgg263
  z55 := Tryz.sizeOf263
  v55 := Tryz.zeroValue263
  t66 := Tryz.underlying284
  a66 := Tryz.isAgg284
  z66 := Tryz.sizeOf284
  v66 := Tryz.zeroValue284
  t70 := Tryz.underlying288
  a70 := Tryz.isAgg288
  z70 := Tryz.sizeOf288
  v70 := Tryz.zeroValue288
  t76 := Tryz.underlying301
  a76 := Tryz.isAgg301
  z76 := Tryz.sizeOf301
  v76 := Tryz.zeroValue301
  t77 := Tryz.underlying302
  a77 := Tryz.isAgg302
  z77 := Tryz.sizeOf302
  v77 := Tryz.zeroValue302
end Go.Proofs
namespace Go.LI.T
open Go Go.LI Go.Proofs
set_option maxRecDepth 100000
set_option maxHeartbeats 2000000

/-- cmp.isNaN, Less, Compare at int64 -/
theorem f237 (x : Int) : CallSpec Tryz.prog 237 [.v (.int .i64 x)] (.v (.bool false)) := by
  have F := Facts.nil Tryz.prog
  refine CallSpec.of_LW ok Tryz.func237 (by kernel_rfl) rfl (by simp [Tryz.ntmps237]) ?_
  refine LW.sr ok F (by decide) (by simp; rfl) ?_
  refine LW.sr ok F (by decide) (by simp; rfl) (LW.retk (by simp [Tryz.f237, resL, resOne]))

theorem f171 (x y : Int) : CallSpec Tryz.prog 171 [.v (.int .i64 x), .v (.int .i64 y)] (.v (.bool (decide (x < y)))) := by
  have F := Facts.cons (f237 x) (Facts.nil Tryz.prog)
  refine CallSpec.of_LW ok Tryz.func171 (by kernel_rfl) rfl (by simp [Tryz.ntmps171]) ?_
  refine LW.sr ok F (by decide) (by simp; rfl) ?_
  refine LW.sr ok F (by decide) (by simp; rfl) (LW.retk (by simp [Tryz.f171, resL, resOne]))

def cmpI (x y : Int) : Int := if x < y then -1 else if y < x then 1 else 0

theorem f167 (x y : Int) : CallSpec Tryz.prog 167 [.v (.int .i64 x), .v (.int .i64 y)] (.v (.int .i64 (cmpI x y))) := by
  have F0 := Facts.nil Tryz.prog
  have F := Facts.cons (f237 x) (Facts.nil Tryz.prog)
  have F' := Facts.cons (f237 y) (Facts.nil Tryz.prog)
  refine CallSpec.of_LW ok Tryz.func167 (by kernel_rfl) rfl (by simp [Tryz.ntmps167]) ?_
  refine LW.sr ok F (by decide) (by simp; rfl) ?_
  refine LW.sr ok F (by decide) (by simp; rfl) ?_
  refine LW.sr ok F' (by decide) (by simp; rfl) ?_
  refine LW.seq (LW.sr ok F0 (by decide) (by simp; rfl) (LW.cf (by simp) (LW.skip ?_)))
  refine LW.seq (LW.sr ok F0 (by decide) (by simp; rfl) (LW.cf (by simp) (LW.skip ?_)))
  refine LW.seq (LW.sr ok F0 (by decide) (by simp; rfl) ?_)
  by_cases h : x < y
  · refine LW.ct (by simp [h]) (LW.sr ok F0 (by decide) (by simp; rfl) (LW.ret ?_))
    show resL _ _ _ = _
    simp [Tryz.f167, resL, resOne, cmpI, h]
  · refine LW.cf (by simp [h]) (LW.skip ?_)
    refine LW.seq (LW.sr ok F0 (by decide) (by simp; rfl) ?_)
    by_cases h2 : y < x
    · refine LW.ct (by simp [h2]) (LW.sr ok F0 (by decide) (by simp; rfl) (LW.ret ?_))
      show resL _ _ _ = _
      simp [Tryz.f167, resL, resOne, cmpI, h, h2]
    · refine LW.cf (by simp [h2]) (LW.skip ?_)
      refine LW.sr ok F0 (by decide) (by simp; rfl) (LW.retk ?_)
      simp [Tryz.f167, resL, resOne, cmpI, h, h2]

/-- Does a list rise? -/
def risesI (xs : List Int) : Prop := ∀ (i : Nat) (h : i + 1 < xs.length), xs[i] ≤ xs[i + 1]

open Classical in
/-- slices.IsSorted at int64 -/
theorem f101 (l : LV) (xs : List Int) (hl : IntsAre l xs) (hlen : xs.length < 9223372036854775807) :
    CallSpec Tryz.prog 101 [l] (.v (.bool (decide (risesI xs)))) := by
  have F := Facts.nil Tryz.prog
  have h0 : l.asList = _ := hl
  obtain ⟨a1, a2, a3, a4, a5⟩ := asList_one hl
  refine CallSpec.of_LW ok Tryz.func101 (by kernel_rfl) rfl (by simp [Tryz.ntmps101]) ?_
  refine LW.sr ok F (by decide) (by simp; rfl) ?_
  have hw : IntKind.i64.wrap ((xs.length : Int) - 1) = (xs.length : Int) - 1 := wrap64 (by omega) (by omega)
  refine LW.seq (LW.sr ok F (by decide) (by simp [h0, hw]; rfl) (LW.block (LW.loop (fun k s => s.t 0 = l ∧ s.t 3 = .v (.int .i64 ((k : Int) - 1)) ∧ k ≤ xs.length ∧ ∀ (i : Nat) (h : i + 1 < xs.length), k ≤ i + 1 → xs[i] ≤ xs[i + 1])
      (k := xs.length) ⟨by simp, by simp, Nat.le_refl _, fun i h1 h2 => by omega⟩ ?_)))
  rintro k s ⟨h1, h3, hk, hr⟩
  refine LW.seq (LW.sr ok F (by decide) (by simp [h3]; rfl) ?_)
  by_cases hj : 1 < k
  · refine LW.ct (by simp; omega) (LW.skip ?_)
    refine LW.seq (LW.block ?_)
    obtain ⟨j, rfl⟩ : ∃ j, k = j + 2 := ⟨k - 2, by omega⟩
    have h3 : s.t 3 = .v (.int .i64 ((j : Int) + 1)) := by rw [h3]; congr 2; omega
    have hk1 : j + 1 < xs.length := by omega
    have hk2 : j < xs.length := by omega
    have e1 : xs[j + 1]? = some xs[j + 1] := List.getElem?_eq_getElem hk1
    have e2 : xs[j]? = some xs[j] := List.getElem?_eq_getElem hk2
    have w1 : IntKind.i64.wrap (j : Int) = (j : Int) := wrap64 (by omega) (by omega)
    have c1 : (0 : Int) ≤ (j : Int) + 1 := by omega
    have c2 : (j : Int) + 1 < xs.length := by omega
    have c5 : ((j : Int) + 1).toNat = j + 1 := by omega
    generalize hx : xs[j + 1] = x at e1
    generalize hy : xs[j] = y at e2
    have F2 := Facts.cons (f171 x y) (Facts.nil Tryz.prog)
    refine LW.sd mixed ok F2 (by decide) (by decide +kernel) (by simp [h1, h3, h0, w1, c1, c2, c5, hk1, hk2, hx, hy]; rfl) ?_
    by_cases hlt : x < y
    · refine LW.ct (by simp [hlt]) (LW.sr ok F (by decide) (by simp; rfl) (LW.ret ?_))
      show resL _ _ _ = _
      have : ¬ risesI xs := fun h => by
        have := h j hk1
        omega
      simp [Tryz.f101, resL, resOne, this]
    · refine LW.cf (by simp [hlt]) (LW.skip ?_)
      refine LW.r ok F (by decide) (by simp [h3, w1]; rfl) ?_
      refine ⟨j + 1, by omega, by simp [h1], by simp, by omega, fun i h1 h2 => ?_⟩
      by_cases hi : j + 2 ≤ i + 1
      · exact hr i h1 hi
      · have e : i = j := by omega
        subst e
        omega
  · refine LW.cf (by simp; omega) (LW.exit ?_)
    have : risesI xs := fun i h => hr i h (by omega)
    refine LW.sr ok F (by decide) (by simp; rfl) (LW.retk ?_)
    simp [Tryz.f101, resL, resOne, this]
end Go.LI.T
namespace Go.LI.T
open Go Go.LI Go.Proofs
set_option maxRecDepth 100000
set_option maxHeartbeats 2000000

/-- cmp.Or, of two -/
theorem f270 (a b : Int) : CallSpec Tryz.prog 270 [.list [[.v (.int .i64 a)], [.v (.int .i64 b)]]] (.v (.int .i64 (if a = 0 then b else a))) := by
  have F := Facts.nil Tryz.prog
  refine CallSpec.of_LW ok Tryz.func270 (by kernel_rfl) rfl (by simp [Tryz.ntmps270]) ?_
  refine LW.sr ok F (by decide) (by simp; rfl) ?_
  refine LW.sr ok F (by decide) (by simp; rfl) ?_
  refine LW.seq (LW.sr ok F (by decide) (by simp; rfl) (LW.block (LW.loop (fun k s => ∃ j, k + j = 2 ∧ s.t 3 = .v (.int .i64 0) ∧ s.t 6 = .list [[.v (.int .i64 a)], [.v (.int .i64 b)]] ∧ s.t 7 = .v (.int .i64 2) ∧ s.t 8 = .v (.int .i64 j) ∧ (1 ≤ j → a = 0) ∧ (2 ≤ j → b = 0))
    (k := 2) ⟨0, by simp, by simp, by simp, by simp, by simp, by omega, by omega⟩ ?_)))
  rintro k s ⟨j, hk, h3, h6, h7, h8, ha, hb⟩
  refine LW.sr ok F (by decide) (by simp [h7, h8]; rfl) ?_
  refine LW.seq ?_
  have hj : j = 0 ∨ j = 1 ∨ j = 2 := by omega
  rcases hj with rfl | rfl | rfl
  · refine LW.ct (by simp) (LW.skip ?_)
    refine LW.seq (LW.block ?_)
    refine LW.sr ok F (by decide) (by simp [h6, h8]; rfl) ?_
    refine LW.sr ok F (by decide) (by simp [h3]; rfl) ?_
    by_cases h0 : a = 0
    · refine LW.cf (by simp [h0]) (LW.skip ?_)
      refine LW.r ok F (by decide) (by simp [h8]; rfl) ?_
      exact ⟨1, by omega, 1, rfl, by simp [h3], by simp [h6], by simp [h7], by simp; decide, fun _ => h0, by omega⟩
    · refine LW.ct (by simp [h0]) (LW.sr ok F (by decide) (by simp; rfl) (LW.ret ?_))
      show resL _ _ _ = _
      simp [Tryz.f270, resL, resOne, h0]
  · have h0 := ha (by omega)
    refine LW.ct (by simp) (LW.skip ?_)
    refine LW.seq (LW.block ?_)
    refine LW.sr ok F (by decide) (by simp [h6, h8]; rfl) ?_
    refine LW.sr ok F (by decide) (by simp [h3]; rfl) ?_
    by_cases h1 : b = 0
    · refine LW.cf (by simp [h1]) (LW.skip ?_)
      refine LW.r ok F (by decide) (by simp [h8]; rfl) ?_
      exact ⟨0, by omega, 2, rfl, by simp [h3], by simp [h6], by simp [h7], by simp; decide, fun _ => h0, fun _ => h1⟩
    · refine LW.ct (by simp [h1]) (LW.sr ok F (by decide) (by simp; rfl) (LW.ret ?_))
      show resL _ _ _ = _
      simp [Tryz.f270, resL, resOne, h0]
  · refine LW.cf (by simp) (LW.exit ?_)
    refine LW.sr ok F (by decide) (by simp [h3]; rfl) (LW.retk ?_)
    simp [Tryz.f270, resL, resOne, ha (by omega), hb (by omega)]

/-- How two moments are compared. -/
def cmpM (x y : Int × Int) : Int := if cmpI x.1 y.1 = 0 then cmpI x.2 y.2 else cmpI x.1 y.1

theorem ofFacts_pair {f : Nat} {a b : List LV} {r q : LV} {l : List (Nat × List LV × LV)} (h : a = b → r = q) : ofFacts ((f, a, r) :: (f, b, q) :: l) f b = some q := by
  by_cases e : a = b
  · simp [ofFacts, e, h e]
  · simp [ofFacts, e]

/-- The order of moments. -/
theorem f269 (x y : Int × Int) : CallSpec Tryz.prog 269 [.agg [.v (.int .i64 x.1), .v (.int .i64 x.2)], .agg [.v (.int .i64 y.1), .v (.int .i64 y.2)]] (.v (.int .i64 (cmpM x y))) := by
  have F0 := Facts.nil Tryz.prog
  have F := Facts.cons (f167 x.1 y.1) (Facts.cons (f167 x.2 y.2) (Facts.cons (f270 (cmpI x.1 y.1) (cmpI x.2 y.2)) F0))
  have hp : ∀ {l : List (Nat × List LV × LV)}, ofFacts ((167, [.v (.int .i64 x.1), .v (.int .i64 y.1)], .v (.int .i64 (cmpI x.1 y.1))) :: (167, [.v (.int .i64 x.2), .v (.int .i64 y.2)], .v (.int .i64 (cmpI x.2 y.2))) :: l) 167 [.v (.int .i64 x.2), .v (.int .i64 y.2)] = some (.v (.int .i64 (cmpI x.2 y.2))) := ofFacts_pair (by
    intro h
    simp only [List.cons.injEq, LV.v.injEq, Value.int.injEq, true_and, and_true] at h
    rw [h.1, h.2])
  refine CallSpec.of_LW ok Tryz.func269 (by kernel_rfl) rfl (by simp [Tryz.ntmps269]) ?_
  refine LW.sr ok F0 (by decide) (by simp; rfl) ?_
  refine LW.sd mixed ok F (by decide) (by decide +kernel) (by simp [hp, ofFacts_ne]; rfl) (LW.retk ?_)
  simp [Tryz.f269, resL, resOne, cmpM]
end Go.LI.T
