/- Texts of a small semantics over the model and of specifications of functions, joined: SrtM, PTasks, PTasks2. -/
import Derived.Test.YtlnndndpaakjfaaGreatDoorP07
import Derived.Test.YtlnndndpaakjfaaGreatDoorP28
set_option linter.unusedSimpArgs false
set_option linter.unusedVariables false
/- slices.SortFunc of moments, as a call that is lent the row. -/
namespace Go.LI.T
open Go Go.LI Go.Proofs Go.Sort Go.RowKit
set_option maxRecDepth 100000
set_option maxHeartbeats 2000000

def encM (m : Int × Int) : List Value := [.int .i64 m.1, .int .i64 m.2]
def cellsM (m : Int × Int) : List LV := [.v (.int .i64 m.1), .v (.int .i64 m.2)]

theorem world_grown {w w' : World} (h : Go.LI.Below w.heap.size w w') : ∃ q os, w' = grow (w.drewN q) os := by
  refine ⟨w'.drawn - w.drawn, w'.heap.extract w.heap.size w'.heap.size, ?_⟩
  obtain ⟨h1, h2, h3, h4, h5, h6⟩ := h
  cases w; cases w'
  simp only [grow, World.drewN] at *
  subst h1 h2 h3
  congr 1
  · apply Array.ext_getElem?
    intro k
    rw [Array.getElem?_append]
    split
    · rename_i hk; exact h5 k hk
    · rename_i hk
      rw [Array.getElem?_extract]
      split
      · rename_i hk2
        rw [show _ + (k - _) = k from by omega]
      · rename_i hk2
        exact Array.getElem?_eq_none (by omega)
  · omega

theorem repT_v {G : Gh} {W : World} {x u : Value} (h : RepT G W (.v x) u) : u = x := by cases h; rfl

theorem cmpLays_M (blk off size : Nat) (w : World) : CmpLays Tryz.prog 269 #[] encM 2 cmpM blk off size w := by
  intro m os dk _ x y
  rcases f269 x y with ⟨_, h⟩ | h
  · refine Calls.mono (h (fun _ _ => False) (sortWorldK encM 2 w blk off m dk os) [.agg (encM x).toArray, .agg (encM y).toArray] (fun _ _ h => h.elim) rfl (fun i l u h1 h2 => ?_)) ?_
    · match i with
      | 0 => cases h1; cases h2
             refine .agg rfl (by simp [encM, Value.oneCell']) fun i l u h1 h2 => ?_
             match i with
             | 0 => cases h1; cases h2; exact .v _ rfl
             | 1 => cases h1; cases h2; exact .v _ rfl
      | 1 => cases h1; cases h2
             refine .agg rfl (by simp [encM, Value.oneCell']) fun i l u h1 h2 => ?_
             match i with
             | 0 => cases h1; cases h2; exact .v _ rfl
             | 1 => cases h1; cases h2; exact .v _ rfl
    · rintro e w' ⟨u, rfl, hb, hr⟩
      cases hr
      exact ⟨rfl, world_grown hb⟩
  · obtain ⟨u, h1, _⟩ := h (fun _ _ => False) w [.agg (encM x).toArray, .agg (encM y).toArray] rfl (fun i l u h1 h2 => by
      match i with
      | 0 => cases h1; cases h2
             refine .agg rfl (by simp [encM, Value.oneCell']) fun i l u h1 h2 => ?_
             match i with
             | 0 => cases h1; cases h2; exact .v _ rfl
             | 1 => cases h1; cases h2; exact .v _ rfl
      | 1 => cases h1; cases h2
             refine .agg rfl (by simp [encM, Value.oneCell']) fun i l u h1 h2 => ?_
             match i with
             | 0 => cases h1; cases h2; exact .v _ rfl
             | 1 => cases h1; cases h2; exact .v _ rfl)
    have := enters_of Tryz.func269 (by kernel_rfl) rfl [.agg (encM x).toArray, .agg (encM y).toArray].toArray w
    rw [this] at h1
    cases h1

theorem swo_M : SWO (ltOf cmpM) := by
  have key : ∀ x y, ltOf cmpM x y = decide (x.1 < y.1 ∨ (x.1 = y.1 ∧ x.2 < y.2)) := by
    intro x y
    simp only [ltOf, cmpM, cmpI]
    repeat' split
    all_goals simp
    all_goals omega
  refine ⟨fun x => ?_, fun x y z h1 h2 => ?_, fun x y z h1 h2 => ?_⟩
  · rw [key]; simp
  · rw [key] at *; simp at *; omega
  · rw [key] at *; simp at *; omega

/-- The moments in order. -/
def sortM (ms : List (Int × Int)) : List (Int × Int) := (pdq (ltOf cmpM) ms.toArray 0 ms.length (Lib.bitLen ms.length) true true).toList

theorem sortM_spec (ms : List (Int × Int)) (h : ms.length < 4611686018427387904) : (sortM ms).Perm ms ∧ ∀ i j, i < j → j < ms.length → ltOf cmpM (sortM ms)[j]! (sortM ms)[i]! = false := by
  have hp := pdq_sorts (ltOf cmpM) swo_M ms.toArray 0 ms.length (Lib.bitLen ms.length) true true (Nat.zero_le _) (by simp) (Or.inl rfl)
  obtain ⟨⟨h1, h2, h3⟩, h4⟩ := hp
  simp only [List.size_toArray] at h1
  refine ⟨?_, fun i j hij hj => ?_⟩
  · have e1 : (pdq (ltOf cmpM) ms.toArray 0 ms.length (Lib.bitLen ms.length) true true).extract 0 ms.length = pdq (ltOf cmpM) ms.toArray 0 ms.length (Lib.bitLen ms.length) true true :=
      Array.extract_eq_self_of_le (by omega)
    have e2 : ms.toArray.extract 0 ms.length = ms.toArray := by
      have : ms.length = ms.toArray.size := by simp
      rw [this]; simp
    rw [e1, e2] at h3
    simpa [sortM] using h3
  · have := h4 i j (Nat.zero_le _) hij hj
    unfold sortM
    simpa only [Array.getElem!_toList] using this

theorem sortM_length (ms : List (Int × Int)) (h : ms.length < 4611686018427387904) : (sortM ms).length = ms.length := (sortM_spec ms h).1.length_eq

theorem flatM_len (ms : List (Int × Int)) : (ms.flatMap cellsM).length = ms.length * 2 := by
  induction ms with
  | nil => rfl
  | cons m ms ih => rw [List.flatMap_cons, List.length_append, ih, List.length_cons]; simp only [cellsM, List.length_cons, List.length_nil]; omega

theorem flatM_get (ms : List (Int × Int)) (j : Nat) (l : LV) (h : (ms.flatMap cellsM)[j]? = some l) : j < ms.length * 2 ∧ l = .v (flatK encM 2 ms.toArray)[j]! := by
  have hlen := flatM_len ms
  have hj : j < ms.length * 2 := by rw [← hlen]; exact (List.getElem?_eq_some_iff.1 h).1
  refine ⟨hj, ?_⟩
  rw [get_flatK _ _ _ _ (by simpa using hj)]
  clear hlen
  induction ms generalizing j with
  | nil => simp at h
  | cons m ms ih =>
    simp only [List.flatMap_cons] at h
    match j with
    | 0 => simp [cellsM] at h; simp [encM, h]
    | 1 => simp [cellsM] at h; simp [encM, h]
    | j + 2 =>
      have h' : (ms.flatMap cellsM)[j]? = some l := by simpa [cellsM] using h
      rw [ih j h' (by simp at hj; omega)]
      have e : (j + 2) / 2 = j / 2 + 1 := by omega
      have e2 : (j + 2) % 2 = j % 2 := by omega
      simp [e, e2, List.getElem!_cons_succ]

theorem encM_cell (ms : Array (Int × Int)) (j : Nat) (h : j < ms.size * 2) : ((flatK encM 2 ms)[j]!).oneCell' = true := by
  rw [get_flatK _ _ _ _ h]
  rcases (show j % 2 = 0 ∨ j % 2 = 1 by omega) with e | e <;> rw [e] <;> rfl

/-- slices.SortFunc of moments -/
theorem f268 (ms : List (Int × Int)) (hne : ms ≠ []) (hlt : ms.length < 4611686018427387904) :
    LendSpec Tryz.prog 268 [.rs lentBase 0 0 ms.length 2, .v (.func (.func 269) #[] #[])] [ms.flatMap cellsM] (.tup []) [some ((sortM ms).flatMap cellsM)] := by
  have hn0 : 0 < ms.length := by cases ms with | nil => exact absurd rfl hne | cons => simp
  refine ⟨fun us w => enters_of Tryz.func268 (by kernel_rfl) rfl us w, Nat.le_refl _, ?_, ?_, ?_, ?_, fun G W us hp hob hl hr => ?_⟩
  · intro l hl k hk
    simp only [List.mem_cons, List.not_mem_nil, or_false] at hl
    rcases hl with rfl | rfl
    · simp only [LV.keys, List.mem_singleton] at hk; exact ⟨0, by simp, hk⟩
    · cases hk
  · intro o ho l hl k hk
    simp only [List.mem_singleton] at ho
    subst ho
    simp only [List.mem_flatMap, cellsM] at hl
    obtain ⟨m, _, hl⟩ := hl
    simp only [List.mem_cons, List.not_mem_nil, or_false] at hl
    rcases hl with rfl | rfl <;> cases hk
  · intro k hk; cases hk
  · intro o ho l hl k hk
    simp only [List.mem_singleton, Option.some.injEq] at ho
    subst ho
    simp only [List.mem_flatMap, cellsM] at hl
    obtain ⟨m, _, hl⟩ := hl
    simp only [List.mem_cons, List.not_mem_nil, or_false] at hl
    rcases hl with rfl | rfl <;> cases hk
  obtain ⟨hob1, hob2⟩ := hob
  obtain ⟨⟨cur, e, hh, hsz, hcz, hcells⟩, hnp⟩ := hob1 0 _ rfl
  obtain ⟨u0, u1, rfl⟩ : ∃ u0 u1, us = [u0, u1] := by
    match us, hl with
    | [a, b], _ => exact ⟨a, b, rfl⟩
  have h0 := hr 0 _ u0 rfl rfl
  have h1 := hr 1 _ u1 rfl rfl
  simp only [RepT] at h0
  obtain ⟨hrz, _, hrc, A, c, rfl, hnc, hA⟩ := h0
  obtain ⟨rfl, _⟩ := hA (.inl hn0)
  have h1 : u1 = .func (.func 269) #[] #[] := by cases h1; rfl
  subst h1
  simp only [Nat.add_zero, Nat.zero_mul] at *
  generalize hB : G.β lentBase 0 = B at *
  have hBlt : B < W.heap.size := by
    rcases Nat.lt_or_ge B W.heap.size with h | h
    · exact h
    · rw [Array.getElem?_eq_none h] at hh; cases hh
  have hcur : ∀ j, j < ms.length * 2 → cur[j]? = some (flatK encM 2 ms.toArray)[j]! := by
    intro j hj
    have hjl : j < (ms.flatMap cellsM).length := by rw [flatM_len]; exact hj
    have hjc : j < cur.size := by omega
    have e1 := List.getElem?_eq_getElem hjl
    have e2 := Array.getElem?_eq_getElem hjc
    obtain ⟨a1, _⟩ := hcells j _ _ e1 e2
    have e3 := (flatM_get ms j _ e1).2
    rw [e3] at a1
    rw [e2]
    exact congrArg some (repT_v a1)
  have hH : HoldsK encM 2 W B 0 ms.toArray := by
    intro j hj
    have hj' : j < ms.length * 2 := by simpa using hj
    refine ⟨?_, ?_⟩
    · simp only [World.cell?, hh]
      simpa using hcur j hj'
    · simp [World.frozen?, hh]
  have hcall := AnyQ.slices_SortFunc_eq Tryz.sortMom 2 Tryz.isAgg243 Tryz.sizeOf243 encM (fun _ => rfl) (by intro x v hv; simp only [encM, List.mem_cons, List.not_mem_nil, or_false] at hv; rcases hv with rfl | rfl <;> rfl) cmpM swo_M 269 #[] B 0 c ms.toArray W
    (fun args w => enters_of Tryz.func269 (by kernel_rfl) rfl args w) (cmpLays_M _ _ _ _) hH hBlt (by simpa using hlt)
  simp only [List.size_toArray] at hcall
  refine Calls.mono hcall ?_
  rintro e1 W' ⟨rfl, n, os, rfl⟩
  have hsl : (sortM ms).length = ms.length := sortM_length ms hlt
  generalize hd : pdq (ltOf cmpM) ms.toArray 0 ms.length (Lib.bitLen ms.length) true true = d
  have hsd : sortM ms = d.toList := by rw [← hd]; rfl
  have hdsz : d.size = ms.length := by rw [← hsl, hsd]; simp
  have hheap : ∀ k, k < W.heap.size → (sortWorldK encM 2 W B 0 n d os).heap[k]? = (putRowK encM 2 W B 0 d).heap[k]? := by
    intro k hk
    unfold sortWorldK
    rw [Go.Sort.heap_grow_old _ _ (by simpa [putRowK] using hk)]
    rfl
  have hother : ∀ k, k < W.heap.size → k ≠ B → (sortWorldK encM 2 W B 0 n d os).heap[k]? = W.heap[k]? := by
    intro k hk hne
    rw [hheap k hk]
    have hne' : ¬ B = k := fun h => hne h.symm
    simp only [putRowK, putRow, mapBlock, Array.getElem?_modify, if_neg hne']
  have hthis : (sortWorldK encM 2 W B 0 n d os).heap[B]? = some (.cells (putCells id 0 (flatK encM 2 d) cur) e (0, 0)) := by
    rw [hheap B hBlt]
    simp only [putRowK, putRow, mapBlock, Array.getElem?_modify, if_true, hh, Option.map_some, onCells]
  have hsize : W.heap.size ≤ (sortWorldK encM 2 W B 0 n d os).heap.size := by
    unfold sortWorldK
    simp [grow, putRowK, putRow, mapBlock, Sort.ahead]
  have hpsz : (putCells id 0 (flatK encM 2 d) cur).size = cur.size := by simp [putCells]
  have hget : ∀ j, j < ms.length * 2 → (putCells id 0 (flatK encM 2 d) cur)[j]? = some (flatK encM 2 d)[j]! := by
    intro j hj
    have : j < cur.size := by rw [flatM_len] at hsz; omega
    simp only [putCells, Array.getElem?_mapIdx, Array.getElem?_eq_getElem this, Option.map_some]
    rw [if_pos ⟨Nat.zero_le _, by simp [hdsz]; omega⟩]
    rfl
  refine ⟨.tuple #[], G, rfl, ⟨rfl, rfl, rfl, hsize, fun k hk hx => ?_, fun k hk cur1 e1 hx hc => ?_, ?_⟩, fun i hi => ⟨rfl, rfl, rfl⟩, fun _ _ => id, fun _ _ => .inl, ⟨fun i cells hi => ?_, fun i j c1 c2 hi hj he => ?_⟩, fun i c hi => ?_, ?_⟩
  · refine hother k hk fun h => hx ⟨0, by simp, ?_⟩
    rw [h, ← hB]; rfl
  · obtain ⟨i, hi, rfl⟩ := hx
    obtain rfl : i = 0 := by simpa using hi
    simp only [Nat.add_zero, hB] at hc ⊢
    rw [hh] at hc
    simp only [Option.some.injEq, Obj.cells.injEq] at hc
    obtain ⟨rfl, rfl, _⟩ := hc
    exact ⟨_, hthis, hpsz⟩
  · exact Nat.le_add_right _ _
  · match i with
    | 0 =>
      simp only [List.getElem?_cons_zero, Option.some.injEq] at hi
      subst hi
      simp only [Nat.add_zero, hB]
      refine ⟨⟨_, e, hthis, ?_, ?_, fun j l u h1 h2 => ?_⟩, hnp⟩
      · rw [flatM_len, hsl, hpsz, ← flatM_len]; exact hsz
      · rw [hpsz]; exact hcz
      · obtain ⟨hj, rfl⟩ := flatM_get _ j l h1
        rw [hsl] at hj
        rw [hget j hj] at h2
        simp only [Option.some.injEq] at h2
        subst h2
        have hone := encM_cell d j (by omega)
        rw [hsd]
        simp only [Array.toArray_toList]
        exact ⟨.v _ hone, hone⟩
    | i + 1 => simp at hi
  · match i, j with
    | 0, 0 => rfl
    | i + 1, _ => simp at hi
    | 0, j + 1 => simp at hj
  · match i with
    | 0 => exact .inr ⟨0, by simp, rfl⟩
    | i + 1 => simp at hi
  · exact .tup rfl (by intro i l u h; simp at h)

end Go.LI.T
/- Tasks: what is taken at each time, by the moments in their order. No program. -/
namespace Go.LI.T

/-- A task: from when, how long, how much. -/
structure Task where
  s : Int
  d : Int
  r : Int

def moms (ts : List Task) : List (Int × Int) := ts.flatMap fun t => if 0 < t.d then [(t.s, t.r), (t.s + t.d, -t.r)] else []

def momLe (a b : Int × Int) : Prop := a.1 < b.1 ∨ a.1 = b.1 ∧ a.2 ≤ b.2

def sumM (l : List (Int × Int)) : Int := (l.map (·.2)).sum

/-- All sums of the beginnings are at most b. -/
def fits (b : Int) : Int → List (Int × Int) → Bool
  | _, [] => true
  | n, m :: l => decide (n + m.2 ≤ b) && fits b (n + m.2) l

/-- What is taken at a time. -/
def loadAt (ts : List Task) (x : Int) : Int := (ts.map fun t => if t.s ≤ x ∧ x < t.s + t.d then t.r else 0).sum

/-- .. as the moments tell it. -/
def taken (l : List (Int × Int)) (x : Int) : Int := (l.map fun m => if m.1 ≤ x then m.2 else 0).sum

def cumF (ts : List Task) (b : Int) : Bool := ts.all fun t => !decide (0 < t.d) || decide (loadAt ts t.s ≤ b)

theorem taken_append (l m : List (Int × Int)) (x : Int) : taken (l ++ m) x = taken l x + taken m x := by simp [taken]

theorem taken_moms : ∀ (ts : List Task) (x : Int), taken (moms ts) x = loadAt ts x
  | [], x => rfl
  | t :: ts, x => by
    have ih := taken_moms ts x
    have e : moms (t :: ts) = (if 0 < t.d then [(t.s, t.r), (t.s + t.d, -t.r)] else []) ++ moms ts := by simp [moms]
    rw [e, taken_append, ih]
    simp only [loadAt, List.map_cons, List.sum_cons]
    congr 1
    by_cases h : 0 < t.d
    · simp only [h, if_true, taken, List.map_cons, List.map_nil, List.sum_cons, List.sum_nil]
      by_cases h1 : t.s ≤ x <;> by_cases h2 : t.s + t.d ≤ x
      · simp [h1, h2, Int.not_lt.2 h2]; omega
      · simp [h1, h2, Int.not_le.1 h2]
      · omega
      · simp [h1, h2]
    · have : ¬ (t.s ≤ x ∧ x < t.s + t.d) := by omega
      simp [h, this, taken]

theorem sum_perm : ∀ {l m : List Int}, l.Perm m → l.sum = m.sum := by
  intro l m h
  induction h with
  | nil => rfl
  | cons _ _ ih => simp [ih]
  | swap a b l => simp; omega
  | trans _ _ h1 h2 => exact h1.trans h2

theorem taken_perm {l m : List (Int × Int)} (h : l.Perm m) (x : Int) : taken l x = taken m x := sum_perm (h.map _)

theorem fits_iff (b : Int) : ∀ (l : List (Int × Int)) (n : Int), fits b n l = true ↔ ∀ p m q, l = p ++ m :: q → n + sumM p + m.2 ≤ b
  | [], n => by simp [fits]
  | a :: l, n => by
    simp only [fits, Bool.and_eq_true, decide_eq_true_eq, fits_iff b l]
    constructor
    · rintro ⟨h1, h2⟩ p m q he
      cases p with
      | nil =>
        simp only [List.nil_append, List.cons.injEq] at he
        obtain ⟨rfl, rfl⟩ := he
        simpa [sumM] using h1
      | cons c p =>
        simp only [List.cons_append, List.cons.injEq] at he
        obtain ⟨rfl, rfl⟩ := he
        have := h2 p m q rfl
        simp only [sumM, List.map_cons, List.sum_cons] at this ⊢
        omega
    · intro h
      refine ⟨by simpa [sumM] using h [] a l rfl, fun p m q he => ?_⟩
      have := h (a :: p) m q (by simp [he])
      simp only [sumM, List.map_cons, List.sum_cons] at this ⊢
      omega

theorem sum_nonneg : ∀ {l : List Int}, (∀ x ∈ l, 0 ≤ x) → 0 ≤ l.sum
  | [], _ => by simp
  | a :: l, h => by
    have h1 := h a (by simp)
    have h2 := sum_nonneg (l := l) fun x hx => h x (by simp [hx])
    simp; omega

/-- All that lies at or ahead of x. -/
theorem taken_all {l : List (Int × Int)} {x : Int} (h : ∀ m ∈ l, m.1 ≤ x) : taken l x = sumM l := by
  unfold taken sumM
  congr 1
  exact List.map_congr_left fun m hm => by simp [h m hm]

theorem taken_ge {l : List (Int × Int)} {x : Int} (h : ∀ m ∈ l, m.1 ≤ x → 0 ≤ m.2) : 0 ≤ taken l x := by
  refine sum_nonneg fun y hy => ?_
  obtain ⟨m, hm, rfl⟩ := List.mem_map.1 hy
  split
  · exact h m hm ‹_›
  · exact Int.le_refl _

theorem moms_mem {ts : List Task} {m : Int × Int} (h : m ∈ moms ts) : ∃ t ∈ ts, 0 < t.d ∧ (m = (t.s, t.r) ∨ m = (t.s + t.d, -t.r)) := by
  obtain ⟨t, ht, hm⟩ := List.mem_flatMap.1 h
  split at hm
  · exact ⟨t, ht, ‹_›, by simpa using hm⟩
  · cases hm

theorem mem_moms {ts : List Task} {t : Task} (h : t ∈ ts) (hd : 0 < t.d) : (t.s, t.r) ∈ moms ts :=
  List.mem_flatMap.2 ⟨t, h, by simp [hd]⟩

/-- Behind an element that is not above x no more is at or ahead of x. -/
theorem split_le : ∀ {l : List (Int × Int)} (x : Int), l.Pairwise momLe → ∃ p q, l = p ++ q ∧ (∀ m ∈ p, m.1 ≤ x) ∧ ∀ m ∈ q, x < m.1
  | [], x, _ => ⟨[], [], rfl, by simp, by simp⟩
  | a :: l, x, h => by
    obtain ⟨h1, h2⟩ := List.pairwise_cons.1 h
    by_cases hx : a.1 ≤ x
    · obtain ⟨p, q, e, hp, hq⟩ := split_le x h2
      refine ⟨a :: p, q, by simp [e], fun m hm => ?_, hq⟩
      rcases List.mem_cons.1 hm with rfl | hm
      · exact hx
      · exact hp m hm
    · refine ⟨[], a :: l, rfl, by simp, fun m hm => ?_⟩
      rcases List.mem_cons.1 hm with rfl | hm
      · omega
      · have := h1 m hm
        unfold momLe at this
        omega

/-- The sums of the beginnings, by the loads. -/
theorem fits_law {ts : List Task} {b : Int} {l : List (Int × Int)} (hp : l.Perm (moms ts)) (hs : l.Pairwise momLe) (hb : 0 ≤ b) (hr : ∀ t ∈ ts, 0 ≤ t.r) : fits b 0 l = cumF ts b := by
  rw [Bool.eq_iff_iff, fits_iff]
  have htk : ∀ x, taken l x = loadAt ts x := fun x => (taken_perm hp x).trans (taken_moms ts x)
  have hcum : cumF ts b = true ↔ ∀ t ∈ ts, 0 < t.d → loadAt ts t.s ≤ b := by
    unfold cumF
    rw [List.all_eq_true]
    constructor
    · intro h t ht hd
      have := h t ht
      simpa [hd] using this
    · intro h t ht
      by_cases hd : 0 < t.d
      · simp [hd, h t ht hd]
      · simp [hd]
  rw [hcum]
  constructor
  · intro h t ht hd
    obtain ⟨p, q, e, hpl, hql⟩ := split_le t.s hs
    have hload : loadAt ts t.s = sumM p := by
      rw [← htk, e, taken_append, taken_all hpl]
      have : taken q t.s = 0 := by
        unfold taken
        have : (q.map fun m => if m.1 ≤ t.s then m.2 else 0) = q.map fun _ => (0 : Int) := List.map_congr_left fun m hm => by
          have := hql m hm
          rw [if_neg (by omega)]
        rw [this]
        clear this hql e
        induction q with
        | nil => rfl
        | cons a q ih => simp [ih]
      omega
    rw [hload]
    rcases List.eq_nil_or_concat p with rfl | ⟨p', m, rfl⟩
    · simpa [sumM] using hb
    · have := h p' m q (by rw [e]; simp)
      simp only [sumM, List.concat_eq_append, List.map_append, List.map_cons, List.map_nil, List.sum_append, List.sum_cons, List.sum_nil] at this ⊢
      omega
  · intro h
    -- by the length of the beginning
    have key : ∀ n p q, p.length = n → l = p ++ q → sumM p ≤ b := by
      intro n
      induction n with
      | zero =>
        intro p q hl _
        obtain rfl := List.length_eq_zero_iff.1 hl
        simpa [sumM] using hb
      | succ n ih =>
        intro p q hl he
        rcases List.eq_nil_or_concat p with rfl | ⟨p', m, rfl⟩
        · simp at hl
        · simp only [List.concat_eq_append, List.length_append, List.length_cons, List.length_nil] at hl
          have e1 : l = p' ++ (m :: q) := by rw [he]; simp
          have h1 := ih p' (m :: q) (by omega) e1
          simp only [sumM, List.concat_eq_append, List.map_append, List.map_cons, List.map_nil, List.sum_append, List.sum_cons, List.sum_nil] at h1 ⊢
          by_cases hm : m.2 ≤ 0
          · omega
          · -- a beginning
            have hml : m ∈ l := by rw [e1]; simp
            obtain ⟨t, ht, hd, hmt⟩ := moms_mem (hp.mem_iff.1 hml)
            have hrt := hr t ht
            rcases hmt with hmt | hmt
            · have hat := h t ht hd
              rw [← htk, he, taken_append] at hat
              have hpw := hs
              rw [he] at hpw
              obtain ⟨hpp, hqq, hpq⟩ := List.pairwise_append.1 hpw
              have hms : m.1 = t.s := by rw [hmt]
              have a1 : taken (p'.concat m) t.s = sumM (p'.concat m) := taken_all fun x hx => by
                rw [List.concat_eq_append] at hx hpp
                rcases List.mem_append.1 hx with hx | hx
                · have := (List.pairwise_append.1 hpp).2.2 x hx m (by simp)
                  unfold momLe at this
                  omega
                · have : x = m := by simpa using hx
                  rw [this, hms]
                  exact Int.le_refl _
              have a2 : 0 ≤ taken q t.s := taken_ge fun x hx hle => by
                have := hpq m (by simp) x hx
                unfold momLe at this
                omega
              simp only [sumM, List.concat_eq_append, List.map_append, List.map_cons, List.map_nil, List.sum_append, List.sum_cons, List.sum_nil] at a1
              rw [List.concat_eq_append] at hat
              omega
            · rw [hmt] at hm
              simp at hm
              omega
    intro p m q he
    have := key (p.length + 1) (p ++ [m]) q (by simp) (by simp [he])
    simp only [sumM, List.map_append, List.map_cons, List.map_nil, List.sum_append, List.sum_cons, List.sum_nil] at this ⊢
    omega
end Go.LI.T
/- Tasks one after another; rectangles; what is shifted. No program. -/
namespace Go.LI.T

def overlap (a b : Task) : Prop := 0 < a.d ∧ 0 < b.d ∧ a.s < b.s + b.d ∧ b.s < a.s + a.d

/-- Of each two, the later one first. -/
def pairsAll {α : Type} (R : α → α → Bool) (l : List α) : Bool :=
  (List.range l.length).all fun i => (List.range i).all fun k => match l[i]?, l[k]? with
    | some a, some b => R a b
    | _, _ => true

theorem pairsAll_iff {α : Type} {R : α → α → Bool} {l : List α} : pairsAll R l = true ↔ ∀ (i k : Nat) (hi : i < l.length) (hk : k < i), R l[i] (l[k]'(by omega)) = true := by
  unfold pairsAll
  simp only [List.all_eq_true, List.mem_range]
  constructor
  · intro h i k hi hk
    have := h i hi k hk
    rw [List.getElem?_eq_getElem hi, List.getElem?_eq_getElem (show k < l.length by omega)] at this
    exact this
  · intro h i hi k hk
    rw [List.getElem?_eq_getElem hi, List.getElem?_eq_getElem (show k < l.length by omega)]
    exact h i k hi hk

theorem pairsAll_pairwise {α : Type} {R : α → α → Bool} {l : List α} : pairsAll R l = true ↔ l.Pairwise fun a b => R b a = true := by
  rw [pairsAll_iff, List.pairwise_iff_getElem]
  constructor
  · intro h i j hi hj hij
    exact h j i hj hij
  · intro h i k hi hk
    exact h k i (by omega) hi hk

theorem count_sum {α : Type} (p : α → Bool) : ∀ l : List α, (l.map fun t => if p t then (1 : Int) else 0).sum = (l.countP p : Int)
  | [] => rfl
  | a :: l => by
    simp only [List.map_cons, List.sum_cons, List.countP_cons, count_sum p l]
    split <;> simp <;> omega

theorem countP_le_one {α : Type} {p : α → Bool} : ∀ {l : List α}, l.countP p ≤ 1 ↔ l.Pairwise fun a b => ¬ (p a = true ∧ p b = true)
  | [] => by simp
  | a :: l => by
    rw [List.countP_cons, List.pairwise_cons, ← countP_le_one (l := l)]
    by_cases ha : p a = true
    · rw [if_pos ha]
      constructor
      · intro h
        have h0 : l.countP p = 0 := by omega
        rw [List.countP_eq_zero] at h0
        exact ⟨fun b hb hab => h0 b hb hab.2, by omega⟩
      · rintro ⟨h1, h2⟩
        have : l.countP p = 0 := List.countP_eq_zero.2 fun b hb hpb => h1 b hb ⟨ha, hpb⟩
        omega
    · rw [if_neg ha]
      constructor
      · intro h
        exact ⟨fun b _ hab => ha hab.1, by omega⟩
      · rintro ⟨_, h2⟩
        omega

/-- Of tasks that take one of one no two are at the same time. -/
theorem cum_one {ts : List Task} (h1 : ∀ t ∈ ts, t.r = 1) : cumF ts 1 = true ↔ ts.Pairwise fun a b => ¬ overlap a b := by
  have hload : ∀ x, loadAt ts x = (ts.countP (fun t => decide (t.s ≤ x) && decide (x < t.s + t.d)) : Int) := fun x => by
    rw [← count_sum]
    unfold loadAt
    congr 1
    refine List.map_congr_left fun t ht => ?_
    rw [h1 t ht]
    by_cases a : t.s ≤ x <;> by_cases b : x < t.s + t.d <;> simp [a, b]
  have hcum : cumF ts 1 = true ↔ ∀ t ∈ ts, 0 < t.d → ts.Pairwise fun a b => ¬ ((decide (a.s ≤ t.s) && decide (t.s < a.s + a.d)) = true ∧ (decide (b.s ≤ t.s) && decide (t.s < b.s + b.d)) = true) := by
    unfold cumF
    rw [List.all_eq_true]
    refine forall_congr' fun t => forall_congr' fun ht => ?_
    rw [← countP_le_one, hload]
    by_cases hd : 0 < t.d
    · simp [hd]; omega
    · simp [hd]
  rw [hcum]
  simp only [List.pairwise_iff_forall_sublist]
  constructor
  · intro h a b hab ho
    have ha : a ∈ ts := hab.subset (by simp)
    have hb : b ∈ ts := hab.subset (by simp)
    obtain ⟨o1, o2, o3, o4⟩ := ho
    by_cases hle : a.s ≤ b.s
    · exact h b hb o2 hab ⟨by simp; omega, by simp; omega⟩
    · exact h a ha o1 hab ⟨by simp; omega, by simp; omega⟩
  · rintro h t _ _ a b hab ⟨g1, g2⟩
    simp only [Bool.and_eq_true, decide_eq_true_eq] at g1 g2
    exact h hab ⟨by omega, by omega, by omega, by omega⟩

/-- Shifted tasks. -/
theorem cum_shift (ts : List Task) (b k : Int) : cumF (ts.map fun t => { t with s := t.s + k }) b = cumF ts b := by
  have hl : ∀ x, loadAt (ts.map fun t => { t with s := t.s + k }) (x + k) = loadAt ts x := fun x => by
    unfold loadAt
    rw [List.map_map]
    congr 1
    refine List.map_congr_left fun t _ => ?_
    simp only [Function.comp]
    by_cases a : t.s ≤ x <;> by_cases c : x < t.s + t.d
    · rw [if_pos (show t.s + k ≤ x + k ∧ x + k < t.s + k + t.d by omega), if_pos ⟨a, c⟩]
    · rw [if_neg (show ¬ (t.s + k ≤ x + k ∧ x + k < t.s + k + t.d) by omega), if_neg (by omega)]
    · rw [if_neg (show ¬ (t.s + k ≤ x + k ∧ x + k < t.s + k + t.d) by omega), if_neg (by omega)]
    · rw [if_neg (show ¬ (t.s + k ≤ x + k ∧ x + k < t.s + k + t.d) by omega), if_neg (by omega)]
  unfold cumF
  rw [List.all_map]
  congr 1
  funext t
  simp only [Function.comp]
  rw [hl t.s]

structure Box where
  x : Int
  y : Int
  w : Int
  h : Int

def apartF (a b p r : Int) : Bool := decide (a + p ≤ b) || decide (b + r ≤ a)

/-- Two rectangles do not overlap. -/
def boxR (a b : Box) : Bool := !(decide (0 < min (min (min a.w a.h) b.w) b.h) && !apartF a.x b.x a.w b.w && !apartF a.y b.y a.h b.h)

def boxF (l : List Box) : Bool := pairsAll boxR l

def boxOf (t : Task) : Box := ⟨t.s, t.s, t.d, t.d⟩

theorem box_cum {ts : List Task} (h1 : ∀ t ∈ ts, t.r = 1) : boxF (ts.map boxOf) = cumF ts 1 := by
  rw [Bool.eq_iff_iff, cum_one h1, boxF, pairsAll_pairwise, List.pairwise_map]
  have : ∀ a b : Task, (boxR (boxOf b) (boxOf a) = true) ↔ ¬ overlap a b := by
    intro a b
    rw [← Bool.not_eq_false]
    refine not_congr ?_
    unfold boxR boxOf apartF overlap
    simp only [Bool.not_eq_false', Bool.and_eq_true, Bool.not_eq_true', Bool.or_eq_false_iff, decide_eq_false_iff_not, decide_eq_true_eq]
    omega
  constructor
  · exact List.Pairwise.imp fun {a b} h => (this a b).1 h
  · exact List.Pairwise.imp fun {a b} h => (this a b).2 h

/-- .. shifted. -/
theorem box_shift (l : List Box) (k j : Int) : boxF (l.map fun b => { b with x := b.x + k, y := b.y + j }) = boxF l := by
  rw [Bool.eq_iff_iff, boxF, boxF, pairsAll_pairwise, pairsAll_pairwise, List.pairwise_map]
  have : ∀ a b : Box, boxR { a with x := a.x + k, y := a.y + j } { b with x := b.x + k, y := b.y + j } = boxR a b := by
    intro a b
    have e : ∀ p q r s t : Int, apartF (p + t) (q + t) r s = apartF p q r s := by
      intro p q r s t
      unfold apartF
      congr 1 <;> exact decide_eq_decide.2 (by omega)
    simp only [boxR, e]
  simp only [this]
end Go.LI.T
