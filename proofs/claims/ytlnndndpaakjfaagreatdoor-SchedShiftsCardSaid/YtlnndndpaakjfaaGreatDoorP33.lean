/- Texts of a small semantics over the model and of specifications of functions, joined: S16a. -/
import Derived.Test.YtlnndndpaakjfaaGreatDoorP28
import Derived.Test.YtlnndndpaakjfaaGreatDoorP30
import Derived.Test.YtlnndndpaakjfaaGreatDoorP31
import Derived.Test.YtlnndndpaakjfaaGreatDoorP32
set_option linter.unusedSimpArgs false
set_option linter.unusedVariables false
namespace Go.LI.T
open Go Go.LI Go.Proofs Go.Sort
set_option maxRecDepth 100000
set_option linter.unusedSimpArgs false
set_option maxHeartbeats 4000000

def tasksOf (ss ds : List Int) : List Task := List.zipWith (fun s d => ⟨s, d, 1⟩) ss ds

theorem tasksOf_s : ∀ {ss ds : List Int}, ss.length = ds.length → (tasksOf ss ds).map Task.s = ss
  | [], [], _ => rfl
  | a :: ss, b :: ds, h => by
    have := tasksOf_s (ss := ss) (ds := ds) (by simpa using h)
    simp only [tasksOf, List.zipWith_cons_cons, List.map_cons] at this ⊢
    rw [this]
theorem tasksOf_d : ∀ {ss ds : List Int}, ss.length = ds.length → (tasksOf ss ds).map Task.d = ds
  | [], [], _ => rfl
  | a :: ss, b :: ds, h => by
    have := tasksOf_d (ss := ss) (ds := ds) (by simpa using h)
    simp only [tasksOf, List.zipWith_cons_cons, List.map_cons] at this ⊢
    rw [this]
theorem tasksOf_r : ∀ {ss ds : List Int}, ss.length = ds.length → (tasksOf ss ds).map Task.r = List.replicate ss.length 1
  | [], [], _ => rfl
  | a :: ss, b :: ds, h => by
    have := tasksOf_r (ss := ss) (ds := ds) (by simpa using h)
    simp only [tasksOf, List.zipWith_cons_cons, List.map_cons, List.length_cons, List.replicate_succ] at this ⊢
    rw [this]
theorem tasksOf_one {ss ds : List Int} : ∀ t ∈ tasksOf ss ds, t.r = 1 ∧ t.s ∈ ss ∧ t.d ∈ ds := by
  induction ss generalizing ds with
  | nil => intro t ht; simp [tasksOf] at ht
  | cons a ss ih =>
    cases ds with
    | nil => intro t ht; simp [tasksOf] at ht
    | cons b ds =>
      intro t ht
      simp only [tasksOf, List.zipWith_cons_cons, List.mem_cons] at ht
      rcases ht with rfl | ht
      · simp
      · obtain ⟨h1, h2, h3⟩ := ih t ht
        exact ⟨h1, by simp [h2], by simp [h3]⟩
theorem tasksOf_shift {ss ds : List Int} (k : Int) : tasksOf (ss.map (· + k)) ds = (tasksOf ss ds).map fun t => { t with s := t.s + k } := by
  induction ss generalizing ds with
  | nil => simp [tasksOf]
  | cons a ss ih =>
    cases ds with
    | nil => simp [tasksOf]
    | cons b ds =>
      have := ih (ds := ds)
      simp only [tasksOf, List.map_cons, List.zipWith_cons_cons] at this ⊢
      rw [this]

/-- Do the tasks follow one another? -/
def oneByOne (ss ds : List Int) : Bool := !(ds.any fun n => decide (n < 0)) && cumF (tasksOf ss ds) 1

theorem oneByOne_shift (ss ds : List Int) (k : Int) : oneByOne (ss.map (· + k)) ds = oneByOne ss ds := by
  unfold oneByOne
  rw [tasksOf_shift, cum_shift]

theorem ltOf_cmpM (x y : Int × Int) : ltOf cmpM x y = decide (x.1 < y.1 ∨ (x.1 = y.1 ∧ x.2 < y.2)) := by
  simp only [ltOf, cmpM, cmpI]
  repeat' split
  all_goals simp
  all_goals omega

theorem sortM_pairwise (ms : List (Int × Int)) (h : ms.length < 4611686018427387904) : (sortM ms).Pairwise momLe := by
  obtain ⟨h1, h2⟩ := sortM_spec ms h
  have hl := h1.length_eq
  rw [List.pairwise_iff_getElem]
  intro i j hi hj hij
  have := h2 i j hij (by omega)
  rw [getElem!_pos _ j (by omega), getElem!_pos _ i (by omega)] at this
  rw [ltOf_cmpM, decide_eq_false_iff_not] at this
  unfold momLe
  generalize (sortM ms)[i] = x at *
  generalize (sortM ms)[j] = y at *
  omega

theorem fits_sort {ts : List Task} {b : Int} (hn : ts.length < 100000) (hb : 0 ≤ b) (hr : ∀ t ∈ ts, 0 ≤ t.r) : fits b 0 (sortM (moms ts)) = cumF ts b := by
  have hm := moms_len ts
  exact fits_law (sortM_spec _ (by omega)).1 (sortM_pairwise _ (by omega)) hb hr

theorem wholeB_iff {ns : List Int} : ns.all wholeB = true ↔ ∀ n ∈ ns, -1000000 ≤ n ∧ n ≤ 1000000 := by
  simp [wholeB]

theorem ints_get {q : List (List Int)} {i : Nat} {ns : List Int} (h : q[i]? = some ns) : (q.map fun l => [intsV l])[i]? = some [intsV ns] := by simp [h]

/-- disjunctive, over numbers -/
theorem disj13 (ss ds : List Int) (hl : ss.length = ds.length) (hn : ss.length ≤ 100) (hS : ∀ s ∈ ss, -1000000 ≤ s ∧ s ≤ 1000000) :
    CallSpec Tryz.prog 37 [.agg [.v (.string n_disjunctive), asV [(true, ss), (true, ds)]], nilV] (resBE (holdsR true (if ds.all wholeB = true then 0 else 50) true (oneByOne ss ds) 0)) := by
  have hss : ss.all wholeB = true := wholeB_iff.2 hS
  have hall : allW [(true, ss), (true, ds)] = ds.all wholeB := by simp [allW, hss]
  have hru : rulesF ⟨n_disjunctive, asAg [(true, ss), (true, ds)]⟩ false = true := by
    have : rulesF ⟨n_disjunctive, asAg [(true, ss), (true, ds)]⟩ false = lensEq ⟨n_disjunctive, asAg [(true, ss), (true, ds)]⟩ 0 [0, 1] := by
      unfold rulesF; rw [if_pos (.inr (.inr rfl))]
    rw [this]
    simp [lensEq, asAg, numAg, hl]
  have h := holds13 n_disjunctive fm_aI_aI [(true, ss), (true, ds)] [p_aI, p_aI] (oneByOne ss ds) row_disj (by decide) split_aI_aI (by simp) rfl (by simp) ?_ ?_ truths_disj ?_ (by decide) ?_
  · rw [hall, hru] at h
    simpa using h
  · rfl
  · intro q hq
    simp only [List.mem_cons, List.not_mem_nil, or_false] at hq
    rcases hq with rfl | rfl <;> simp only <;> omega
  · exact ⟨fun _ => by simp [asAg], fun h => absurd h (show ¬ (hasPre n_disjunctive h_fzn_bin = true) by decide), fun h => absurd h (show ¬ (n_disjunctive = n_cumulative) by decide), fun h => absurd h (show ¬ (n_disjunctive = n_knapsack) by decide), fun h => absurd h (show ¬ (n_disjunctive = n_diffn) by decide), fun h => absurd h (show ¬ (n_disjunctive = n_maximum_int ∨ n_disjunctive = n_minimum_int) by decide), fun h => absurd h (show ¬ (n_disjunctive = n_table_int) by decide), show hasPre n_disjunctive h_int_lin = false ∧ hasPre n_disjunctive h_bool_lin = false ∧ hasPre n_disjunctive h_fzn_global = false by decide⟩
  · intro ha _
    rw [hall] at ha
    have hD := wholeB_iff.1 ha
    refine ⟨164, 219, .agg [intsV ss, intsV ds, .list (List.replicate ss.length [.v (.int .i64 1)]), .v (.int .i64 1)], ?_, rfl, methX_ok _ _ _ rfl, ?_⟩
    · have := f153 (seqV [[intsV ss], [intsV ds]]) (.list (List.replicate ss.length [.v (.int .i64 1)])) n_disjunctive [[intsV ss], [intsV ds]] (fun i => if i = 0 then intsV ss else intsV ds) (fun _ => 0) (seqV_asList _) (Nat.le_refl _) (fun i hi => ?_) (fun _ es hes => ?_)
      · exact this
      · have hi' : i < 2 := hi
        have hi2 : i = 0 ∨ i = 1 := by omega
        rcases hi2 with rfl | rfl
        · exact ⟨rfl, _, intsV_are ss, fun h => absurd h (by decide)⟩
        · exact ⟨rfl, _, intsV_are ds, fun h => absurd h (by decide)⟩
      · have : es = ss.map fun n => [LV.v (.int .i64 n)] := Option.some.inj (hes.symm.trans (intsV_are ss))
        subst this
        refine ⟨?_, rfl, rfl⟩
        simpa using f216 ss.length hn
    · have h219 := f219 (intsV ss) (intsV ds) (.list (List.replicate ss.length [.v (.int .i64 1)])) (tasksOf ss ds) 1 (by rw [tasksOf_s hl]; exact intsV_are ss) (by rw [tasksOf_d hl]; exact intsV_are ds) (by rw [tasksOf_r hl]; simp [IntsAre, LV.asList]) (by simp [tasksOf]; omega)
        (fun t ht => by have := hS _ (tasksOf_one t ht).2.1; omega) (fun t ht => by have := hD _ (tasksOf_one t ht).2.2; omega) (fun t ht => by have := (tasksOf_one t ht).1; omega)
      rw [tasksOf_d hl, tasksOf_r hl, fits_sort (by simp [tasksOf]; omega) (by decide) (fun t ht => by have := (tasksOf_one t ht).1; omega)] at h219
      have hrep : ((List.replicate ss.length (1 : Int)).any fun n => decide (n < 0)) = false := by
        rw [List.any_eq_false]
        intro x hx
        rw [List.eq_of_mem_replicate hx]
        decide
      rw [hrep] at h219
      simpa [oneByOne] using h219

/-- cumulative, over numbers, each taking one of one -/
theorem cum13 (ss ds : List Int) (hl : ss.length = ds.length) (hn : ss.length ≤ 100) (hS : ∀ s ∈ ss, -1000000 ≤ s ∧ s ≤ 1000000) :
    CallSpec Tryz.prog 37 [.agg [.v (.string n_cumulative), asV [(true, ss), (true, ds), (true, List.replicate ss.length 1), (false, [1])]], nilV] (resBE (holdsR true (if ds.all wholeB = true then 0 else 50) true (oneByOne ss ds) 0)) := by
  have hss : ss.all wholeB = true := wholeB_iff.2 hS
  have hones : (List.replicate ss.length (1 : Int)).all wholeB = true := wholeB_iff.2 fun n hn => by rw [List.eq_of_mem_replicate hn]; decide
  have h1 : ([1] : List Int).all wholeB = true := by decide
  have hall : allW [(true, ss), (true, ds), (true, List.replicate ss.length 1), (false, [1])] = ds.all wholeB := by simp only [allW, List.all_cons, hss, hones, h1, List.all_nil, Bool.true_and, Bool.and_true]
  have hru : rulesF ⟨n_cumulative, asAg [(true, ss), (true, ds), (true, List.replicate ss.length 1), (false, [1])]⟩ false = true := by
    have : rulesF ⟨n_cumulative, asAg [(true, ss), (true, ds), (true, List.replicate ss.length 1), (false, [1])]⟩ false = lensEq ⟨n_cumulative, asAg [(true, ss), (true, ds), (true, List.replicate ss.length 1), (false, [1])]⟩ 0 [0, 1, 2] := by
      unfold rulesF; rw [if_neg (show ¬ (n_cumulative = n_sort ∨ n_cumulative = n_inverse ∨ n_cumulative = n_disjunctive) by decide), if_neg (show ¬ hasPre n_cumulative h_fzn_bin = true by decide), if_pos rfl]
    rw [this]
    simp [lensEq, asAg, numAg, hl]
  have h := holds13 n_cumulative fm_aI3_I [(true, ss), (true, ds), (true, List.replicate ss.length 1), (false, [1])] [p_aI, p_aI, p_aI, p_I] (oneByOne ss ds) row_cum (by decide) split_aI3_I (by simp) rfl (by simp) ?_ ?_ truths_cum ?_ (by decide) ?_
  · rw [hall, hru] at h
    simpa using h
  · rfl
  · intro q hq
    simp only [List.mem_cons, List.not_mem_nil, or_false] at hq
    rcases hq with rfl | rfl | rfl | rfl <;> simp <;> omega
  · exact ⟨fun h => absurd h (show ¬ (n_cumulative = n_sort ∨ n_cumulative = n_inverse ∨ n_cumulative = n_disjunctive) by decide), fun h => absurd h (show ¬ (hasPre n_cumulative h_fzn_bin = true) by decide), fun _ => by simp [asAg], fun h => absurd h (show ¬ (n_cumulative = n_knapsack) by decide), fun h => absurd h (show ¬ (n_cumulative = n_diffn) by decide), fun h => absurd h (show ¬ (n_cumulative = n_maximum_int ∨ n_cumulative = n_minimum_int) by decide), fun h => absurd h (show ¬ (n_cumulative = n_table_int) by decide), show hasPre n_cumulative h_int_lin = false ∧ hasPre n_cumulative h_bool_lin = false ∧ hasPre n_cumulative h_fzn_global = false by decide⟩
  · intro ha _
    rw [hall] at ha
    have hD := wholeB_iff.1 ha
    refine ⟨164, 219, .agg [intsV ss, intsV ds, intsV (List.replicate ss.length 1), .v (.int .i64 1)], ?_, rfl, methX_ok _ _ _ rfl, ?_⟩
    · have := f153 (seqV [[intsV ss], [intsV ds], [intsV (List.replicate ss.length 1)], [intsV [1]]]) nilV n_cumulative [[intsV ss], [intsV ds], [intsV (List.replicate ss.length 1)], [intsV [1]]] (fun i => if i = 0 then intsV ss else if i = 1 then intsV ds else if i = 2 then intsV (List.replicate ss.length 1) else intsV [1]) (fun _ => 1) (seqV_asList _) (Nat.le_refl _) (fun i hi => ?_) (fun h => absurd h (by decide))
      · exact this
      · have hi' : i < 4 := hi
        have hi2 : i = 0 ∨ i = 1 ∨ i = 2 ∨ i = 3 := by omega
        rcases hi2 with rfl | rfl | rfl | rfl
        · exact ⟨rfl, _, intsV_are ss, fun h => absurd h (by decide)⟩
        · exact ⟨rfl, _, intsV_are ds, fun h => absurd h (by decide)⟩
        · exact ⟨rfl, _, intsV_are (List.replicate ss.length 1), fun h => absurd h (by decide)⟩
        · exact ⟨rfl, _, intsV_are [1], fun _ => ⟨by simp, rfl⟩⟩
    · have h219 := f219 (intsV ss) (intsV ds) (intsV (List.replicate ss.length 1)) (tasksOf ss ds) 1 (by rw [tasksOf_s hl]; exact intsV_are ss) (by rw [tasksOf_d hl]; exact intsV_are ds) (by rw [tasksOf_r hl]; exact intsV_are _) (by simp [tasksOf]; omega)
        (fun t ht => by have := hS _ (tasksOf_one t ht).2.1; omega) (fun t ht => by have := hD _ (tasksOf_one t ht).2.2; omega) (fun t ht => by have := (tasksOf_one t ht).1; omega)
      rw [tasksOf_d hl, tasksOf_r hl, fits_sort (by simp [tasksOf]; omega) (by decide) (fun t ht => by have := (tasksOf_one t ht).1; omega)] at h219
      have hrep : ((List.replicate ss.length (1 : Int)).any fun n => decide (n < 0)) = false := by
        rw [List.any_eq_false]
        intro x hx
        rw [List.eq_of_mem_replicate hx]
        decide
      rw [hrep] at h219
      simpa [oneByOne] using h219
def boxesOf (xs ys ds : List Int) : List Box := List.zipWith (fun p d => ⟨p.1, p.2, d, d⟩) (xs.zip ys) ds

theorem boxesOf_eq (ss ds : List Int) (k : Int) : boxesOf (ss.map (· + k)) ss ds = ((tasksOf ss ds).map boxOf).map fun b => { b with x := b.x + k, y := b.y + 0 } := by
  induction ss generalizing ds with
  | nil => simp [boxesOf, tasksOf]
  | cons a ss ih =>
    cases ds with
    | nil => simp [boxesOf, tasksOf]
    | cons b ds =>
      have := ih ds
      simp only [boxesOf, tasksOf, List.map_cons, List.zip_cons_cons, List.zipWith_cons_cons] at this ⊢
      rw [this]
      simp [boxOf]

/-- diffn, over numbers, of squares that stand at the diagonal -/
theorem diffn13 (ss ds : List Int) (k : Int) (hl : ss.length = ds.length) (hn : ss.length ≤ 100) (hS : ∀ s ∈ ss, -1000000 ≤ s ∧ s ≤ 1000000) (hS' : ∀ s ∈ ss, -1000000 ≤ s + k ∧ s + k ≤ 1000000) :
    CallSpec Tryz.prog 37 [.agg [.v (.string n_diffn), asV [(true, ss.map (· + k)), (true, ss), (true, ds), (true, ds)]], nilV] (resBE (holdsR true (if ds.all wholeB = true then 0 else 50) true (oneByOne ss ds) 0)) := by
  have hss : ss.all wholeB = true := wholeB_iff.2 hS
  have hsk : (ss.map (· + k)).all wholeB = true := wholeB_iff.2 fun n hn => by
    obtain ⟨s, hs, rfl⟩ := List.mem_map.1 hn
    exact hS' s hs
  have hall : allW [(true, ss.map (· + k)), (true, ss), (true, ds), (true, ds)] = ds.all wholeB := by simp only [allW, List.all_cons, hss, hsk, List.all_nil, Bool.true_and, Bool.and_true, Bool.and_self]
  have hru : rulesF ⟨n_diffn, asAg [(true, ss.map (· + k)), (true, ss), (true, ds), (true, ds)]⟩ false = true := by
    have : rulesF ⟨n_diffn, asAg [(true, ss.map (· + k)), (true, ss), (true, ds), (true, ds)]⟩ false = lensEq ⟨n_diffn, asAg [(true, ss.map (· + k)), (true, ss), (true, ds), (true, ds)]⟩ 0 [0, 1, 2, 3] := by
      unfold rulesF; rw [if_neg (show ¬ (n_diffn = n_sort ∨ n_diffn = n_inverse ∨ n_diffn = n_disjunctive) by decide), if_neg (show ¬ hasPre n_diffn h_fzn_bin = true by decide), if_neg (show ¬ n_diffn = n_cumulative by decide), if_neg (show ¬ n_diffn = n_knapsack by decide), if_pos rfl]
    rw [this]
    simp [lensEq, asAg, numAg, hl]
  have h := holds13 n_diffn fm_aI4 [(true, ss.map (· + k)), (true, ss), (true, ds), (true, ds)] [p_aI, p_aI, p_aI, p_aI] (oneByOne ss ds) row_diffn (by decide) split_aI4 (by simp) rfl (by simp) ?_ ?_ truths_diffn ?_ (by decide) ?_
  · rw [hall, hru] at h
    simpa using h
  · rfl
  · intro q hq
    simp only [List.mem_cons, List.not_mem_nil, or_false] at hq
    rcases hq with rfl | rfl | rfl | rfl <;> simp <;> omega
  · exact ⟨fun h => absurd h (show ¬ (n_diffn = n_sort ∨ n_diffn = n_inverse ∨ n_diffn = n_disjunctive) by decide), fun h => absurd h (show ¬ (hasPre n_diffn h_fzn_bin = true) by decide), fun h => absurd h (show ¬ (n_diffn = n_cumulative) by decide), fun h => absurd h (show ¬ (n_diffn = n_knapsack) by decide), fun _ => by simp [asAg], fun h => absurd h (show ¬ (n_diffn = n_maximum_int ∨ n_diffn = n_minimum_int) by decide), fun h => absurd h (show ¬ (n_diffn = n_table_int) by decide), show hasPre n_diffn h_int_lin = false ∧ hasPre n_diffn h_bool_lin = false ∧ hasPre n_diffn h_fzn_global = false by decide⟩
  · intro ha _
    rw [hall] at ha
    have hD := wholeB_iff.1 ha
    refine ⟨166, 383, .agg [intsV (ss.map (· + k)), intsV ss, intsV ds, intsV ds], ?_, rfl, methX_ok _ _ _ rfl, ?_⟩
    · have := f153 (seqV [[intsV (ss.map (· + k))], [intsV ss], [intsV ds], [intsV ds]]) nilV n_diffn [[intsV (ss.map (· + k))], [intsV ss], [intsV ds], [intsV ds]] (fun i => if i = 0 then intsV (ss.map (· + k)) else if i = 1 then intsV ss else intsV ds) (fun _ => 1) (seqV_asList _) (Nat.le_refl _) (fun i hi => ?_) (fun h => absurd h (by decide))
      · exact this
      · have hi' : i < 4 := hi
        have hi2 : i = 0 ∨ i = 1 ∨ i = 2 ∨ i = 3 := by omega
        rcases hi2 with rfl | rfl | rfl | rfl
        · exact ⟨rfl, _, intsV_are (ss.map (· + k)), fun h => absurd h (by decide)⟩
        · exact ⟨rfl, _, intsV_are ss, fun h => absurd h (by decide)⟩
        · exact ⟨rfl, _, intsV_are ds, fun h => absurd h (by decide)⟩
        · exact ⟨rfl, _, intsV_are ds, fun h => absurd h (by decide)⟩
    · have hbe : boxesOf (ss.map (· + k)) ss ds = ((tasksOf ss ds).map boxOf).map fun b => { b with x := b.x + k, y := b.y + 0 } := boxesOf_eq ss ds k
      have gx : (((tasksOf ss ds).map boxOf).map fun b => ({ b with x := b.x + k, y := b.y + 0 } : Box)).map Box.x = ss.map (· + k) := by
        conv => rhs; rw [← tasksOf_s hl]
        simp only [List.map_map]; rfl
      have gy : (((tasksOf ss ds).map boxOf).map fun b => ({ b with x := b.x + k, y := b.y + 0 } : Box)).map Box.y = ss := by
        conv => rhs; rw [← tasksOf_s hl]
        simp only [List.map_map]
        refine List.map_congr_left fun t _ => ?_
        simp [boxOf]
      have gw : (((tasksOf ss ds).map boxOf).map fun b => ({ b with x := b.x + k, y := b.y + 0 } : Box)).map Box.w = ds := by
        conv => rhs; rw [← tasksOf_d hl]
        simp only [List.map_map]; rfl
      have gh : (((tasksOf ss ds).map boxOf).map fun b => ({ b with x := b.x + k, y := b.y + 0 } : Box)).map Box.h = ds := by
        conv => rhs; rw [← tasksOf_d hl]
        simp only [List.map_map]; rfl
      have h383 := f383 (intsV (ss.map (· + k))) (intsV ss) (intsV ds) (intsV ds) (((tasksOf ss ds).map boxOf).map fun b => { b with x := b.x + k, y := b.y + 0 }) (by rw [gx]; exact intsV_are _) (by rw [gy]; exact intsV_are _) (by rw [gw]; exact intsV_are _) (by rw [gh]; exact intsV_are _) (by simp [tasksOf]; omega)
        (fun b hb => by
          simp only [List.map_map, List.mem_map] at hb
          obtain ⟨t, ht, rfl⟩ := hb
          obtain ⟨_, t2, t3⟩ := tasksOf_one t ht
          have a1 := hS _ t2
          have a2 := hS' _ t2
          have a3 := hD _ t3
          simp only [Function.comp, boxOf]
          omega)
      rw [gw, gh, box_shift, box_cum (fun t ht => (tasksOf_one t ht).1)] at h383
      have e : (!(ds.any fun n => decide (n < 0)) && (!(ds.any fun n => decide (n < 0)) && cumF (tasksOf ss ds) 1)) = oneByOne ss ds := by
        unfold oneByOne
        cases (ds.any fun n => decide (n < 0)) <;> rfl
      rw [e] at h383
      exact h383
end Go.LI.T
