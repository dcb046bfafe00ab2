/- Texts of a small semantics over the model and of specifications of functions, joined: S219. -/
import Derived.Test.YtlnndndpaakjfaaGreatDoorP17
import Derived.Test.YtlnndndpaakjfaaGreatDoorP25
import Derived.Test.YtlnndndpaakjfaaGreatDoorP28
import Derived.Test.YtlnndndpaakjfaaGreatDoorP29
set_option linter.unusedSimpArgs false
set_option linter.unusedVariables false
namespace Go.LI.T
open Go Go.LI Go.Proofs
set_option maxRecDepth 100000
set_option linter.unusedSimpArgs false
set_option maxHeartbeats 4000000

theorem wrap_id {n : Int} (h : -9223372036854775808 ≤ n) (h' : n < 9223372036854775808) : IntKind.i64.wrap n = n := by rw [IntKind.wrap_i64]; omega

theorem moms_len (ts : List Task) : (moms ts).length ≤ 2 * ts.length := by
  induction ts with
  | nil => simp [moms]
  | cons t ts ih =>
    have : moms (t :: ts) = (if 0 < t.d then [(t.s, t.r), (t.s + t.d, -t.r)] else []) ++ moms ts := by simp [moms]
    rw [this, List.length_append]
    split <;> simp <;> omega

theorem cellsM_keys (m : Int × Int) : ∀ c ∈ cellsM m, c.keys = [] := by
  intro c hc
  simp only [cellsM, List.mem_cons, List.not_mem_nil, or_false] at hc
  rcases hc with rfl | rfl <;> rfl
theorem cellsM_keys2 (a b : Int × Int) : ∀ z ∈ [cellsM a, cellsM b], ∀ c ∈ z, c.keys = [] := by
  intro z hz
  simp only [List.mem_cons, List.not_mem_nil, or_false] at hz
  rcases hz with rfl | rfl <;> exact cellsM_keys _
theorem flatM_keys (ms : List (Int × Int)) : ∀ c ∈ (ms.flatMap cellsM).map (fun c => (c, ((0, 0) : Tag))), c.1.keys = [] := by
  intro c hc
  obtain ⟨x, hx, rfl⟩ := List.mem_map.1 hc
  obtain ⟨m, _, hm⟩ := List.mem_flatMap.1 hx
  exact cellsM_keys m x hm

def TI243 : TI := ⟨.struct [(0, 1), (1, 1)], 2, 16, [.int .i64 0, .int .i64 0], [2, 2]⟩

/-- A row of moments. -/
def rowAt (s : S) (t d : Nat) (ms : List (Int × Int)) : Prop :=
  (ms = [] ∧ s.t t = nilV) ∨ ∃ g, ms ≠ [] ∧ s.t t = .rs d g 0 ms.length 2 ∧ s.b d g = some ((ms.flatMap cellsM).map fun c => (c, (0, 0)))

theorem IntsAre.out {l : LV} {ns : List Int} (h : IntsAre l ns) : l.asList = some (ns.map fun n => [LV.v (.int .i64 n)]) := h

theorem chunks_flatM (ms : List (Int × Int)) : chunks 2 ms.length (ms.flatMap cellsM) = ms.map cellsM := by
  unfold chunks
  induction ms with
  | nil => rfl
  | cons m ms ih =>
    rw [List.length_cons, List.range_succ_eq_map, List.map_cons, List.map_map, List.map_cons, ← ih, List.flatMap_cons]
    congr 1
    refine List.map_congr_left fun i _ => ?_
    simp only [Function.comp]
    rw [show (i + 1) * 2 = (cellsM m).length + i * 2 by simp [cellsM]; omega, List.drop_append]
    rw [List.drop_eq_nil_of_le (by omega : (cellsM m).length ≤ (cellsM m).length + i * 2), Nat.add_sub_cancel_left, List.nil_append]

/-- A row of moments is no longer written. -/
theorem freezeRow {P : Program} {n : Nat} {c : Code} {R : Exit → S → Prop} {s : S} {ms : List (Int × Int)} {t d b g : Nat} {cl : List (LV × Tag)} (hrow : rowAt s t d ms) (hm : ∀ g, s.mkd d g = false) (hbd : b ≠ d) (hb : s.t b = .ptr b g 0) (hcl : s.b b g = some cl) (hp : ∀ q ∈ cl, q.1.plain = true)
    (h : ∀ s2 : S, s2.t b = .ptr b g 0 → s2.b b g = some cl → (s2.t t).asList = some (ms.map cellsM) → LW P n c R s2) : LW P n c R s := by
  rcases hrow with ⟨rfl, h3⟩ | ⟨gg, hne, h3, hb3⟩
  · exact h s hb hcl (by rw [h3]; rfl)
  · refine LW.freeze d gg hb3 (hm gg) ?_ (h _ ?_ ?_ ?_)
    · simp only [List.all_map, List.all_eq_true]
      intro x hx
      obtain ⟨m, _, hx⟩ := List.mem_flatMap.1 hx
      simp only [cellsM, List.mem_cons, List.not_mem_nil, or_false] at hx
      rcases hx with rfl | rfl <;> rfl
    · rw [freeze_t, hb]
      simp [fz, hbd]
    · rw [freeze_b, if_neg (by simp [hbd]), hcl]
      simp only [Option.map_some, Option.some.injEq]
      conv => rhs; rw [← List.map_id cl]
      refine List.map_congr_left fun q hq => ?_
      rw [fz_plain (hp q hq)]
      rfl
    · rw [freeze_t, h3]
      have hl := flatM_len ms
      have e : fz d gg (((ms.flatMap cellsM).map fun c => (c, ((0, 0) : Tag))).map (·.1)) (.rs d gg 0 ms.length 2) = .list (ms.map cellsM) := by
        simp only [fz, and_self, if_true, List.length_map, Nat.zero_add, Nat.zero_mul, List.drop_zero, hl, Nat.le_refl]
        rw [List.map_map]
        have : ((fun x => x.1) ∘ fun (c : LV) => (c, ((0, 0) : Tag))) = id := rfl
        rw [this, List.map_id, chunks_flatM]
      rw [e]; rfl

theorem flatM_un (ms : List (Int × Int)) (ks : List (Nat × Nat)) : (ms.flatMap cellsM).map (LV.un ks) = ms.flatMap cellsM := by
  conv => rhs; rw [← List.map_id (ms.flatMap cellsM)]
  refine List.map_congr_left fun x hx => ?_
  obtain ⟨m, _, hx⟩ := List.mem_flatMap.1 hx
  simp only [cellsM, List.mem_cons, List.not_mem_nil, or_false] at hx
  rcases hx with rfl | rfl <;> rfl

theorem LW.rl {P : Program} {τ : Tab} {n : Nat} {R : Exit → S → Prop} {s s' : S} {l : List (Nat × List LV × LV)} {id : Nat} {ops : Array Oper} (rm : Nat → Bool) {m : List (Nat × List LV × Lend)} (hτ : TabOk P τ) (hf : Facts P l) (hm : LFacts P m) (hn : dstsOk n ops = true)
    (hr : steps τ (envOf l m rm) ops ops.toList s = some s') (h : R .normal s') : LW P n (.region id ops false) R s := LW.region hτ (envOf_ok hf hm) hn hr h

theorem sortM_nil : sortM [] = [] := List.eq_nil_of_length_eq_zero (by rw [sortM_length _ (by simp)]; rfl)

theorem f268n : CallSpec Tryz.prog 268 [nilV, .v (.func (.func 269) #[] #[])] (.tup []) := callX_spec T13_ok 1000 (by kernel_rfl)

/-- sched.holds of tasks -/
theorem f219 (L0 L1 L2 : LV) (ts : List Task) (b : Int) (h0 : IntsAre L0 (ts.map Task.s)) (h1 : IntsAre L1 (ts.map Task.d)) (h2 : IntsAre L2 (ts.map Task.r)) (hn : ts.length < 100000)
    (hS : ∀ t ∈ ts, -1000000000000 ≤ t.s ∧ t.s ≤ 1000000000000) (hD : ∀ t ∈ ts, -1000000000000 ≤ t.d ∧ t.d ≤ 1000000000000) (hR : ∀ t ∈ ts, -1000000000000 ≤ t.r ∧ t.r ≤ 1000000000000) :
    CallSpec Tryz.prog 219 [.agg [L0, L1, L2, .v (.int .i64 b)]] (.v (.bool (!((ts.map Task.d).any fun n => decide (n < 0)) && (!((ts.map Task.r).any fun n => decide (n < 0)) && (!decide (b < 0) && fits b 0 (sortM (moms ts))))))) := by
  obtain ⟨p1, p2, p3, p4, p5⟩ := asList_one h0
  obtain ⟨q1, q2, q3, q4, q5⟩ := asList_one h1
  obtain ⟨r1, r2, r3, r4, r5⟩ := asList_one h2
  have F0 := Facts.nil Tryz.prog
  have F : Facts Tryz.prog _ := Facts.cons (f267 L1 _ h1 (by simp; omega)) (Facts.cons (f267 L2 _ h2 (by simp; omega)) F0)
  have e12 : L1 = L2 → ts.map Task.d = ts.map Task.r := by
    intro h
    subst h
    have e : (ts.map Task.d).map (fun n => [LV.v (.int .i64 n)]) = (ts.map Task.r).map (fun n => [LV.v (.int .i64 n)]) := Option.some.inj (h1.symm.trans h2)
    have := congrArg (List.map fun l => match l with | [LV.v (.int .i64 n)] => n | _ => (0 : Int)) e
    simpa using this
  have e12' : L1 = L2 → ((ts.map Task.d).any fun n => decide (n < 0)) = ((ts.map Task.r).any fun n => decide (n < 0)) := fun h => by rw [e12 h]
  generalize hx : ((ts.map Task.d).any fun n => decide (n < 0)) = x at F e12' ⊢
  generalize hy : ((ts.map Task.r).any fun n => decide (n < 0)) = y at F e12' ⊢
  have hp : ofFacts ((267, [L1], .v (.bool x)) :: (267, [L2], .v (.bool y)) :: []) 267 [L2] = some (.v (.bool y)) := ofFacts_pair (by
    intro h
    simp only [List.cons.injEq, and_true] at h
    rw [e12' h])
  have hp1 : ofFacts ((267, [L1], .v (.bool x)) :: (267, [L2], .v (.bool y)) :: []) 267 [L1] = some (.v (.bool x)) := by simp [ofFacts]
  refine CallSpec.of_LW ok Tryz.func219 (by kernel_rfl) rfl (by simp [Tryz.ntmps219]) ?_
  refine LW.sr ok F0 (by decide) (by simp [p1, p2, q1, q2, r1, r2]; rfl) ?_
  refine LW.seq ?_
  cases x with
  | true =>
    refine LW.sr ok F (by decide) (by simp [q1, q2, q3, hp, hp1, -List.cons.injEq]; rfl) ?_
    refine LW.ct (by simp) (LW.sr ok F0 (by decide) (by simp; rfl) (LW.ret ?_))
    show resL _ _ _ = _
    simp [Tryz.f219, resL, resOne]
  | false =>
  cases y with
  | true =>
    refine LW.sr ok F (by decide) (by simp [q1, q2, q3, r1, r2, r3, hp, hp1]; rfl) ?_
    refine LW.ct (by simp) (LW.sr ok F0 (by decide) (by simp; rfl) (LW.ret ?_))
    show resL _ _ _ = _
    simp [Tryz.f219, resL, resOne]
  | false =>
  by_cases c3 : b < 0
  · refine LW.sr ok F (by decide) (by simp [q1, q2, q3, r1, r2, r3, hp, hp1, c3]; rfl) ?_
    refine LW.ct (by simp) (LW.sr ok F0 (by decide) (by simp; rfl) (LW.ret ?_))
    show resL _ _ _ = _
    simp [Tryz.f219, resL, resOne, c3]
  refine LW.sr ok F (by decide) (by simp [q1, q2, q3, r1, r2, r3, hp, hp1, c3]; rfl) ?_
  refine LW.cf (by simp) (LW.skip ?_)
  refine LW.sr ok F0 (by decide) (by simp; rfl) ?_
  refine LW.seq (LW.sr ok F0 (by decide) (by simp [p1, p2, p3, h0.out]; rfl) (LW.block (LW.loop (fun k s => ∃ j, k + j = ts.length ∧ s.t 1 = .ptr 1 1 0 ∧ s.b 1 1 = some [(L0, (0, 0)), (L1, (0, 0)), (L2, (0, 0)), (.v (.int .i64 b), (0, 0))] ∧
      s.t 23 = L0 ∧ s.t 24 = .v (.int .i64 ts.length) ∧ s.t 25 = .v (.int .i64 j) ∧ (∀ g, s.mkd 59 g = false) ∧ rowAt s 3 59 (moms (ts.take j)))
    (k := ts.length) ⟨0, by simp, by simp, by simp, by simp, by simp, by simp, by simp, .inl ⟨by simp [moms], by simp [nilV]⟩⟩ ?_)))
  rintro k s ⟨j, hk, g1, gb, g23, g24, g25, gm, g3⟩
  refine LW.sr ok F0 (by decide) (by simp [g24, g25]; rfl) ?_
  refine LW.seq ?_
  by_cases hj : j < ts.length
  · refine LW.ct (by simp [hj]) (LW.skip ?_)
    obtain ⟨t, ht⟩ : ∃ t, ts[j] = t := ⟨_, rfl⟩
    have htm : t ∈ ts := ht ▸ List.getElem_mem hj
    obtain ⟨b1, b2⟩ := hS t htm
    obtain ⟨b3, b4⟩ := hD t htm
    obtain ⟨b5, b6⟩ := hR t htm
    refine LW.seq (LW.block ?_)
    refine LW.sr ok F0 (by decide) (by simp [g23, g25, h0.out, hj, ht]; rfl) ?_
    refine LW.sr ok F0 (by decide) (by simp [g1, gb, q1, q2, q3, h1.out, hj, ht]; rfl) ?_
    have hmo : moms (ts.take (j + 1)) = moms (ts.take j) ++ (if 0 < t.d then [(t.s, t.r), (t.s + t.d, -t.r)] else []) := by
      simp [moms, List.take_add_one, hj, ht]
    have hml : (moms (ts.take j)).length ≤ 2 * j := by
      have := moms_len (ts.take j)
      simp at this
      omega
    by_cases hd : 0 < t.d
    · refine LW.ct (by simp [hd]) ?_
      have w1 : IntKind.i64.wrap (t.s + t.d) = t.s + t.d := wrap_id (by omega) (by omega)
      have w2 : IntKind.i64.wrap (-t.r) = -t.r := wrap_id (by omega) (by omega)
      rcases g3 with ⟨he, g3⟩ | ⟨gg, hne, g3, gb3⟩
      · refine LW.dh (fun d => decide (d = 59)) (fun d => decide (d = 59)) mixed ok F0 (LFacts.nil _) (by decide) (by decide +kernel) (by simp [g1, gb, q1, q2, q3, r1, r2, r3, h1.out, h2.out, hj, ht]; rw [nextH_append_nil (e := 243) (ti := TI243) (ys := [cellsM (t.s, t.r), cellsM (t.s + t.d, -t.r)]) (by simp [g3, nilV]) (by simp [w1, w2, cellsM]) (by simp [TI243]) (by simp) (by simp [cellsM, TI243]) (cellsM_keys2 _ _) (by simp [TI243]) (by simp [TI243]) (by simp) (by simp [TI243]) (by simp)]; simp [TI243]; rfl) ?_
        refine LW.r ok F0 (by decide) (by simp [g25]; rfl) ?_
        refine ⟨k - 1, by omega, j + 1, by omega, by simp [g1], by simp [gb], by simp [g23], by simp [g24], by simp [wrap_succ (show j < 9223372036854775807 by omega)], by simp [gm], ?_⟩
        rw [hmo, he, if_pos hd]
        refine .inr ⟨_, by simp, by simp; rfl, by simp [TI243, cellsM]⟩
      · refine LW.dh (fun d => decide (d = 59)) (fun d => decide (d = 59)) mixed ok F0 (LFacts.nil _) (by decide) (by decide +kernel) (by simp [g1, gb, q1, q2, q3, r1, r2, r3, h1.out, h2.out, hj, ht]; rw [nextH_append_row (e := 243) (d0 := 59) (g0 := gg) (n := (moms (ts.take j)).length) (cells := ((moms (ts.take j)).flatMap cellsM).map fun c => (c, (0, 0))) (ti := TI243) (ys := [cellsM (t.s, t.r), cellsM (t.s + t.d, -t.r)]) (by simp [g3, TI243]) (by simp [gb3]) (by rw [List.length_map, flatM_len]; rfl) (by simp [w1, w2, cellsM]) (by simp [TI243]) rfl (by simp [cellsM, TI243]) (cellsM_keys2 _ _) (flatM_keys _) (by simp [TI243]) (by simp [TI243]) (by simp; omega) (by simp [TI243]; omega) (by simp)]; simp [TI243]; rfl) ?_
        refine LW.r ok F0 (by decide) (by simp [g25]; rfl) ?_
        refine ⟨k - 1, by omega, j + 1, by omega, by simp [g1], by simp [gb], by simp [g23], by simp [g24], by simp [wrap_succ (show j < 9223372036854775807 by omega)], by simp [gm], ?_⟩
        rw [hmo, if_pos hd]
        refine .inr ⟨_, by simp, by simp; rfl, by simp [TI243, cellsM]⟩
    · refine LW.cf (by simp [hd]) (LW.skip ?_)
      refine LW.r ok F0 (by decide) (by simp [g25]; rfl) ?_
      refine ⟨k - 1, by omega, j + 1, by omega, by simp [g1], by simp [gb], by simp [g23], by simp [g24], by simp [wrap_succ (show j < 9223372036854775807 by omega)], by simp [gm], ?_⟩
      rw [hmo, if_neg hd, List.append_nil]
      simpa [rowAt] using g3
  refine LW.cf (by simp [hj]) (LW.exit ?_)
  have hjn : j = ts.length := by omega
  subst hjn
  rw [List.take_length] at g3
  generalize hms : moms ts = ms at g3 ⊢
  have hml : ms.length ≤ 2 * ts.length := hms ▸ moms_len ts
  refine LW.seq (LW.mono (R := fun e s1 => e = .normal ∧ s1.t 1 = .ptr 1 1 0 ∧ s1.b 1 1 = some [(L0, (0, 0)), (L1, (0, 0)), (L2, (0, 0)), (.v (.int .i64 b), (0, 0))] ∧ (∀ g, s1.mkd 59 g = false) ∧ rowAt s1 3 59 (sortM ms)) ?_ ?_)
  · rcases g3 with ⟨he, g3⟩ | ⟨gg, hne, g3, gb3⟩
    · have F1 := Facts.cons f268n F0
      refine LW.r ok F1 (by decide) (by simp [g3, ofFacts, nilV]; rfl) ?_
      exact ⟨rfl, by simp [g1], by simp [gb], by simp [gm], .inl ⟨by rw [he]; exact sortM_nil, by simp [g3]⟩⟩
    · have hsl : (sortM ms).length = ms.length := sortM_length ms (by omega)
      have hq : LendFact Tryz.prog 268 [.rs 59 gg 0 ms.length 2, .v (.func (.func 269) #[] #[])] ⟨[(59, gg)], [ms.flatMap cellsM], .tup [], [some ((sortM ms).flatMap cellsM)]⟩ :=
        ⟨rfl, by simp, [.rs lentBase 0 0 ms.length 2, .v (.func (.func 269) #[] #[])], by simp [LV.un], f268 ms hne (by omega)⟩
      refine LW.rl (fun _ => false) ok F0 (LFacts.cons hq (LFacts.nil _)) (by decide) (by
        simp [g3]
        rw [lendL_of (g := 268) (ls := [.rs 59 gg 0 ms.length 2, .v (.func (.func 269) #[] #[])]) (q := ⟨[(59, gg)], [ms.flatMap cellsM], .tup [], [some ((sortM ms).flatMap cellsM)]⟩)]
        · rfl
        · rfl
        · exact ofLends_same (by
            simp [look, gb3, flatM_un]
            exact List.map_id _)
        · rfl) ?_
      refine ⟨rfl, by simp [g1], by simp [gb], by intro g; simp [gm], .inr ⟨gg, ?_, by simp [g3, hsl], by simp [flatM_un, Function.comp]⟩⟩
      intro h0
      rw [h0] at hsl
      cases ms with
      | nil => exact hne rfl
      | cons _ _ => simp at hsl
  rintro e s1 ⟨rfl, k1, kb, km, k3⟩
  show LW _ _ _ _ s1
  refine freezeRow k3 km (by decide) k1 kb (by simp [p2, q2, r2]) ?_
  clear k1 kb km k3
  intro s2 k1 kb k3
  generalize hsr : sortM ms = srt at k3 ⊢
  have hsl : srt.length ≤ 2 * ts.length := by rw [← hsr, sortM_length ms (by omega)]; exact hml
  have hmag : ∀ m ∈ srt, -1000000000000 ≤ m.2 ∧ m.2 ≤ 1000000000000 := by
    intro m hm
    rw [← hsr] at hm
    have hm := (sortM_spec ms (by omega)).1.mem_iff.1 hm
    rw [← hms] at hm
    obtain ⟨t, ht, _, h⟩ := moms_mem hm
    have := hR t ht
    rcases h with rfl | rfl <;> simp only <;> omega
  obtain ⟨m1, m2, m3, m4, m5⟩ := asList_one k3
  refine LW.sr ok F0 (by decide) (by simp; rfl) ?_
  refine LW.seq (LW.sr ok F0 (by decide) (by simp [m1, m2, m3, k3]; rfl) (LW.block (LW.loop (fun k s => ∃ j n, k + j = srt.length ∧ s.t 1 = .ptr 1 1 0 ∧ s.b 1 1 = some [(L0, (0, 0)), (L1, (0, 0)), (L2, (0, 0)), (.v (.int .i64 b), (0, 0))] ∧
      (s.t 63).asList = some (srt.map cellsM) ∧ s.t 64 = .v (.int .i64 srt.length) ∧ s.t 65 = .v (.int .i64 j) ∧ s.t 6 = .v (.int .i64 n) ∧ -(1000000000000 * j) ≤ n ∧ n ≤ 1000000000000 * j ∧ fits b 0 srt = fits b n (srt.drop j))
    (k := srt.length) ⟨0, 0, by simp, by simp [k1], by simp [kb], by simp [k3], by simp, by simp, by simp, by simp, by simp, by simp⟩ ?_)))
  rintro k s ⟨j, n, hk, g1, gb, g63, g64, g65, g6, n1, n2, hf⟩
  refine LW.sr ok F0 (by decide) (by simp [g64, g65]; rfl) ?_
  refine LW.seq ?_
  by_cases hj : j < srt.length
  · refine LW.ct (by simp [hj]) (LW.skip ?_)
    obtain ⟨m, hm⟩ : ∃ m, srt[j] = m := ⟨_, rfl⟩
    obtain ⟨b1, b2⟩ := hmag m (hm ▸ List.getElem_mem hj)
    have hf2 : fits b n (srt.drop j) = (decide (n + m.2 ≤ b) && fits b (n + m.2) (srt.drop (j + 1))) := by
      rw [List.drop_eq_getElem_cons hj, hm]; rfl
    have w1 : IntKind.i64.wrap (n + m.2) = n + m.2 := wrap_id (by omega) (by omega)
    refine LW.seq (LW.block ?_)
    refine LW.sr ok F0 (by decide) (by simp [g63, g65, hj, hm, cellsM]; rfl) ?_
    refine LW.sr ok F0 (by decide) (by simp [g6, w1]; rfl) ?_
    refine LW.sr ok F0 (by decide) (by simp [g1, gb]; rfl) ?_
    by_cases hb : b < n + m.2
    · refine LW.ct (by simp [hb]) (LW.sr ok F0 (by decide) (by simp; rfl) (LW.ret ?_))
      show resL _ _ _ = _
      simp [Tryz.f219, resL, resOne, hf, hf2]
      omega
    · refine LW.cf (by simp [hb]) (LW.skip ?_)
      refine LW.r ok F0 (by decide) (by simp [g65]; rfl) ?_
      refine ⟨k - 1, by omega, j + 1, n + m.2, by omega, by simp [g1], by simp [gb], by simp [g63], by simp [g64], by simp [wrap_succ (show j < 9223372036854775807 by omega)], by simp, by omega, by omega, ?_⟩
      rw [hf, hf2]
      simp
      omega
  refine LW.cf (by simp [hj]) (LW.exit ?_)
  refine LW.sr ok F0 (by decide) (by simp; rfl) (LW.retk ?_)
  have : srt.drop j = [] := List.drop_eq_nil_of_le (by omega)
  simp [Tryz.f219, resL, resOne, hf, this, fits]
  omega
end Go.LI.T
