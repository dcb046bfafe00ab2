/- Texts of a small semantics over the model and of specifications of functions, joined: LILend, LIOps7. -/
import Derived.Test.YtlnndndpaakjfaaGreatDoorP06
set_option linter.unusedSimpArgs false
set_option linter.unusedVariables false
/- A call that is lent boxes of the frame's own. -/
namespace Go.LI
open Go Go.RowKit

section
variable {C : Ctx} {G : Gh} {s : S} {a : Act} {W : World}
variable {P : Program} {τ : Tab} {Γ : Env} {K : Act → World → Prop} {Q : Exit → Act → World → Prop}

/-- The caller's names seen from the called function. -/
def Gh.lent (G : Gh) (ks : List (Nat × Nat)) : Gh :=
  { G with
    β := fun x _ => G.β (ks.getD (x - lentBase) (0, 0)).1 (ks.getD (x - lentBase) (0, 0)).2
    rc := fun x _ => G.rc (ks.getD (x - lentBase) (0, 0)).1 (ks.getD (x - lentBase) (0, 0)).2
    rz := fun x _ => G.rz (ks.getD (x - lentBase) (0, 0)).1 (ks.getD (x - lentBase) (0, 0)).2 }

theorem Rep1.lent {ks : List (Nat × Nat)} {l : LV} {u : Value} (h : Rep1 G W (l.un1 ks) u) : Rep1 (G.lent ks) W l u := by
  cases l <;> exact h

theorem RepT.lent {ks : List (Nat × Nat)} {l : LV} {u : Value} (h : RepT G W (l.un ks) u) : RepT (G.lent ks) W l u := by
  cases l
  case clo f caps =>
    obtain ⟨us, h1, h2, h3⟩ := h
    refine ⟨us, h1, by simpa using h2, fun i l v hl hv => ?_⟩
    exact (h3 i (l.un1 ks) v (by rw [List.getElem?_map, hl]; rfl) hv).lent
  all_goals exact h

/-- The called function's names seen from the caller. -/
theorem Rep1.unlent {G' G2 : Gh} {ks : List (Nat × Nat)} {l : LV} {u : Value} {n : Nat} (h : Rep1 G' W l u) (hk : ∀ k ∈ l.key1, ∃ i, i < n ∧ k = (lentBase + i, 0)) (hp : ∀ k o, G'.Pr k o → G2.Pr k o)
    (hβ : ∀ i, i < n → G2.β (ks.getD i (0, 0)).1 (ks.getD i (0, 0)).2 = G'.β (lentBase + i) 0) : Rep1 G2 W (l.un1 ks) u := by
  cases l
  case ptr d g off =>
    obtain ⟨i, hi, he⟩ := hk (d, g) (by simp [LV.key1])
    obtain ⟨rfl, rfl⟩ : d = lentBase + i ∧ g = 0 := by simpa using he
    have := hβ i hi
    simp only [LV.un1, Rep1, Nat.add_sub_cancel_left] at h ⊢
    rw [this]; exact h
  all_goals exact Rd.mono h hp

theorem RepT.unlent {G' G2 : Gh} {ks : List (Nat × Nat)} {l : LV} {u : Value} {n : Nat} (h : RepT G' W l u) (hk : KeysIn n l) (hp : ∀ k o, G'.Pr k o → G2.Pr k o)
    (hβ : ∀ i, i < n → G2.β (ks.getD i (0, 0)).1 (ks.getD i (0, 0)).2 = G'.β (lentBase + i) 0 ∧ G2.rc (ks.getD i (0, 0)).1 (ks.getD i (0, 0)).2 = G'.rc (lentBase + i) 0 ∧ G2.rz (ks.getD i (0, 0)).1 (ks.getD i (0, 0)).2 = G'.rz (lentBase + i) 0) : RepT G2 W (l.un ks) u := by
  cases l
  case ptr d g off =>
    obtain ⟨i, hi, he⟩ := hk (d, g) (by simp [LV.keys])
    obtain ⟨rfl, rfl⟩ : d = lentBase + i ∧ g = 0 := by simpa using he
    have := (hβ i hi).1
    simp only [LV.un, RepT, Nat.add_sub_cancel_left] at h ⊢
    rw [this]; exact h
  case rs d g lo n' sz =>
    obtain ⟨i, hi, he⟩ := hk (d, g) (by simp [LV.keys])
    obtain ⟨rfl, rfl⟩ : d = lentBase + i ∧ g = 0 := by simpa using he
    obtain ⟨b1, b2, b3⟩ := hβ i hi
    simp only [LV.un, RepT, Nat.add_sub_cancel_left] at h ⊢
    rw [b1, b2, b3]; exact h
  case clo f caps =>
    obtain ⟨us, h1, h2, h3⟩ := h
    refine ⟨us, h1, by simpa using h2, fun i l v hl hv => ?_⟩
    rw [List.getElem?_map] at hl
    obtain ⟨l', hl', rfl⟩ := Option.map_eq_some_iff.1 hl
    refine (h3 i l' v hl' hv).unlent (n := n) (fun k hkk => hk k ?_) hp (fun i hi => (hβ i hi).1)
    simp only [LV.keys, List.mem_flatMap]
    exact ⟨l', List.mem_of_getElem? hl', hkk⟩
  case dead => trivial
  all_goals exact Rd.mono h hp

theorem un1_key (ks : List (Nat × Nat)) {l : LV} {n : Nat} (hk : ∀ k ∈ l.key1, ∃ i, i < n ∧ k = (lentBase + i, 0)) : ∀ k ∈ (l.un1 ks).key1, ∃ i, i < n ∧ k = ks.getD i (0, 0) := by
  intro k hkk
  cases l
  case ptr d g off =>
    obtain ⟨i, hi, he⟩ := hk (d, g) (by simp [LV.key1])
    obtain ⟨rfl, rfl⟩ : d = lentBase + i ∧ g = 0 := by simpa using he
    simp only [LV.un1, LV.key1, List.mem_singleton, Nat.add_sub_cancel_left] at hkk
    exact ⟨i, hi, hkk⟩
  all_goals cases hkk

theorem un_keys (ks : List (Nat × Nat)) {l : LV} {n : Nat} (hk : KeysIn n l) : ∀ k ∈ (l.un ks).keys, ∃ i, i < n ∧ k = ks.getD i (0, 0) := by
  intro k hkk
  cases l
  case ptr d g off =>
    obtain ⟨i, hi, he⟩ := hk (d, g) (by simp [LV.keys])
    obtain ⟨rfl, rfl⟩ : d = lentBase + i ∧ g = 0 := by simpa using he
    simp only [LV.un, LV.keys, List.mem_singleton, Nat.add_sub_cancel_left] at hkk
    exact ⟨i, hi, hkk⟩
  case rs d g lo n' sz =>
    obtain ⟨i, hi, he⟩ := hk (d, g) (by simp [LV.keys])
    obtain ⟨rfl, rfl⟩ : d = lentBase + i ∧ g = 0 := by simpa using he
    simp only [LV.un, LV.keys, List.mem_singleton, Nat.add_sub_cancel_left] at hkk
    exact ⟨i, hi, hkk⟩
  case clo f caps =>
    simp only [LV.un, LV.keys, List.mem_flatMap, List.mem_map] at hkk
    obtain ⟨_, ⟨l', hl', rfl⟩, hkk⟩ := hkk
    refine un1_key ks (fun k hk' => hk k ?_) k hkk
    simp only [LV.keys, List.mem_flatMap]
    exact ⟨l', hl', hk'⟩
  all_goals cases hkk

theorem newKeys_get {d g n i : Nat} {k : Nat × Nat} : (newKeys d g n)[i]? = some k ↔ i < n ∧ k = (d, g + 1 + i) := by
  unfold newKeys
  rw [List.getElem?_map]
  by_cases hi : i < n
  · rw [List.getElem?_range hi]; simp [hi, eq_comm]
  · rw [List.getElem?_eq_none (by simpa using hi)]; simp [hi]

theorem newKeys_length (d g n : Nat) : (newKeys d g n).length = n := by simp [newKeys]

theorem objAt_zip {os : List (Option (List LV))} : ∀ (ks : List (Nat × Nat)) (os : List (Option (List LV))) (x y : Nat) (o : Option (List (LV × Tag))), ks.length = os.length → ks.Nodup →
    (∀ i : Nat, ks[i]? = some (x, y) → ∃ c, os[i]? = some c ∧ objAt (ks.zip os) x y o = c.map fun l => l.map fun z => (z, (0, 0))) ∧ ((x, y) ∉ ks → objAt (ks.zip os) x y o = o)
  | [], [], x, y, o, _, _ => ⟨fun i hi => by simp at hi, fun _ => rfl⟩
  | k :: ks, c :: os, x, y, o, hl, hn => by
    obtain ⟨hk, hn⟩ := List.nodup_cons.1 hn
    obtain ⟨ih1, ih2⟩ := objAt_zip (os := os) ks os x y o (by simpa using hl) hn
    constructor
    · intro i hi
      cases i with
      | zero =>
        simp only [List.getElem?_cons_zero, Option.some.injEq] at hi
        subst hi
        exact ⟨c, rfl, by simp [objAt]⟩
      | succ i =>
        rw [List.getElem?_cons_succ] at hi
        obtain ⟨c', h1, h2⟩ := ih1 i hi
        refine ⟨c', by simpa using h1, ?_⟩
        have hne : ¬ (x = k.1 ∧ y = k.2) := by
          rintro ⟨e1, e2⟩
          exact hk (by rw [show k = (x, y) by rw [e1, e2]]; exact List.mem_of_getElem? hi)
        rw [List.zip_cons_cons, objAt, if_neg hne]
        exact h2
    · intro hm
      have hne : ¬ (x = k.1 ∧ y = k.2) := by
        rintro ⟨e1, e2⟩
        exact hm (by rw [show (x, y) = k by rw [e1, e2]]; simp)
      rw [List.zip_cons_cons, objAt, if_neg hne]
      exact ih2 fun h => hm (by simp [h])
  | [], c :: os, x, y, o, hl, _ => by simp at hl
  | k :: ks, [], x, y, o, hl, _ => by simp at hl

theorem sim_lend (h : SimG C G s a W) {o : Oper} {c : Call} {f : Nat} {x : Operand} {q : Lend} {args' : List LV} (ho : o.op = .call c) (hc : c.callee = .value x) (hd : DstOk C o)
    (ht : target (s.eval x) (c.args.toList.map s.eval) = some (f, args'.map (LV.un q.ks))) (h1 : q.ks.length = q.objs.length) (h2 : q.ks.Nodup)
    (h3 : ∀ (i : Nat) k ob, q.ks[i]? = some k → q.objs[i]? = some ob → look s k.1 k.2 = some (ob.map (LV.un q.ks))) (hs : LendSpec P f args' q.objs q.r q.objs') (hdn : o.dst = none → q.ks.length = q.objs'.length)
    (hk : ∀ a' W', Sim C (((MU.objs ((q.ks ++ newKeys (o.dst.getD 0) (s.g (o.dst.getD 0)) (q.objs'.length - q.ks.length)).zip (q.objs'.map fun ob => ob.map fun c => c.map (LV.un (q.ks ++ newKeys (o.dst.getD 0) (s.g (o.dst.getD 0)) (q.objs'.length - q.ks.length))))) (o.dst.getD 0) (q.objs'.length - q.ks.length)).apply s).put
      o.dst (q.r.un (q.ks ++ newKeys (o.dst.getD 0) (s.g (o.dst.getD 0)) (q.objs'.length - q.ks.length)))) a' W' → K a' W') : o.wp P a W K Q := by
  obtain ⟨hs1, hs2, hs3, hs4, hs5, hs6, hs7⟩ := hs
  obtain ⟨fus, cus, hax, hlen, hrep⟩ := target_rep h ht
  generalize hdd : o.dst.getD 0 = d at hk
  generalize hnk : q.objs'.length - q.ks.length = nk at hk
  generalize hks' : q.ks ++ newKeys d (s.g d) nk = ks' at hk
  -- what is lent is alive
  have hlive : ∀ (i : Nat) k, q.ks[i]? = some k → ∃ cells ob, s.b k.1 k.2 = some cells ∧ q.objs[i]? = some ob ∧ cells.map (·.1) = ob.map (LV.un q.ks) := by
    intro i k hi
    have hlt := (List.getElem?_eq_some_iff.1 hi).1
    have hob := List.getElem?_eq_getElem (l := q.objs) (i := i) (by omega)
    have := h3 i k _ hi hob
    simp only [look] at this
    obtain ⟨cells, hc1, hc2⟩ := Option.map_eq_some_iff.1 this
    exact ⟨cells, _, hc1, hob, hc2⟩
  have hgetD : ∀ (i : Nat) k, q.ks[i]? = some k → q.ks.getD i (0, 0) = k := fun i k hi => by simp [List.getD, hi]
  have hlβ : ∀ (i : Nat) k, q.ks[i]? = some k → (G.lent q.ks).β (lentBase + i) 0 = G.β k.1 k.2 ∧ (G.lent q.ks).rc (lentBase + i) 0 = G.rc k.1 k.2 ∧ (G.lent q.ks).rz (lentBase + i) 0 = G.rz k.1 k.2 := by
    intro i k hi
    simp only [Gh.lent, Nat.add_sub_cancel_left, hgetD i k hi, and_self]
  have hobjs : ObjsAt (G.lent q.ks) W (q.objs.map some) := by
    constructor
    · intro i cells hi
      rw [List.getElem?_map] at hi
      obtain ⟨ob, hob, he⟩ := Option.map_eq_some_iff.1 hi
      injection he with he
      subst he
      have hlt := (List.getElem?_eq_some_iff.1 hob).1
      have hki := List.getElem?_eq_getElem (l := q.ks) (i := i) (by omega)
      obtain ⟨cl, ob', hb, hob', hmap⟩ := hlive i _ hki
      rw [hob] at hob'
      obtain rfl : ob = ob' := by injection hob'
      obtain ⟨e1, e2, e3⟩ := hlβ i _ hki
      obtain ⟨b1, ⟨cur, e, hh, hsz, hcz, hr⟩, b3⟩ := h.box _ _ _ hb
      have hll : cl.length = ob.length := by have := congrArg List.length hmap; simpa using this
      rw [e1, e2, e3]
      refine ⟨⟨cur, e, hh, by omega, hcz, fun j l u hj hu => ?_⟩, b3⟩
      have hjl := (List.getElem?_eq_some_iff.1 hj).1
      have hcj := List.getElem?_eq_getElem (l := cl) (i := j) (by omega)
      have hm := congrArg (fun l => l[j]?) hmap
      simp only [List.getElem?_map, hcj, hj, Option.map_some, Option.some.injEq] at hm
      obtain ⟨a1, a2, _, _⟩ := hr j (cl[j]).1 (cl[j]).2 u hcj hu
      rw [hm] at a1
      exact ⟨a1.lent, a2⟩
    · intro i j c1 c2 hi hj he
      have hi' : i < q.ks.length := by have := (List.getElem?_eq_some_iff.1 hi).1; simp at this; omega
      have hj' : j < q.ks.length := by have := (List.getElem?_eq_some_iff.1 hj).1; simp at this; omega
      have hki := List.getElem?_eq_getElem hi'
      have hkj := List.getElem?_eq_getElem hj'
      rw [(hlβ i _ hki).1, (hlβ j _ hkj).1] at he
      obtain ⟨ci, _, hbi, _⟩ := hlive i _ hki
      obtain ⟨cj, _, hbj, _⟩ := hlive j _ hkj
      have := h.inj _ _ _ _ (by rw [hbi]; rfl) (by rw [hbj]; rfl) he
      exact (List.getElem_inj h2).1 (Prod.ext this.1 this.2)
  unfold Oper.wp
  rw [run_callV ho hc hax hs1]
  refine Calls.mono (hs7 (G.lent q.ks) W _ h.prlt hobjs (by rw [List.length_map] at hlen; exact hlen) (fun i l u hl hu => ((hrep i (l.un q.ks) u (by rw [List.getElem?_map, hl]; rfl) hu).1).lent)) ?_
  rintro e W' ⟨u, G', rfl, hbel, hsame, hp1, hp2, hob', hnew, hres⟩
  have hp1' : ∀ k o, G.Pr k o → G'.Pr k o := hp1
  have hp2' : ∀ k o, G'.Pr k o → G.Pr k o ∨ (W.heap.size ≤ k ∧ k < W'.heap.size) := hp2
  -- blocks that were not lent lie as they lay
  have hX : ∀ k, (∃ i, i < q.objs.length ∧ k = (G.lent q.ks).β (lentBase + i) 0) → ∃ (i : Nat) (kk : Nat × Nat), q.ks[i]? = some kk ∧ k = G.β kk.1 kk.2 := by
    rintro k ⟨i, hi, rfl⟩
    have hki := List.getElem?_eq_getElem (l := q.ks) (i := i) (by omega)
    exact ⟨i, _, hki, (hlβ i _ hki).1⟩
  have hblock : ∀ k, k < W.heap.size → (∀ (i : Nat) kk, q.ks[i]? = some kk → k ≠ G.β kk.1 kk.2) → W'.heap[k]? = W.heap[k]? := fun k hk hne => hbel.block k hk fun hx => by
    obtain ⟨i, kk, hi, he⟩ := hX k hx
    exact hne i kk hi he
  have hag : Agree G.Pr W W' := fun ad had => World.cell?_of_block (w := W) (hblock ad.block (h.prlt _ _ had) fun i kk hi he => by
    obtain ⟨cells, _, hb, _⟩ := hlive i kk hi
    exact (h.box _ _ _ hb).2.2 ad.off (by rw [← he]; exact had))
  have hkl : ks'.length = q.objs'.length := by rw [← hks', List.length_append, newKeys_length, ← hnk]; omega
  have hksG : ∀ (i : Nat) k, q.ks[i]? = some k → k.2 ≤ s.g k.1 := fun i k hi => by
    obtain ⟨cells, _, hb, _⟩ := hlive i k hi
    exact h.gen _ _ (by rw [hb]; rfl)
  have hget : ∀ (i : Nat) k, ks'[i]? = some k → (i < q.ks.length ∧ q.ks[i]? = some k) ∨ (q.ks.length ≤ i ∧ i - q.ks.length < nk ∧ k = (d, s.g d + 1 + (i - q.ks.length))) := by
    intro i k hi
    rw [← hks'] at hi
    by_cases hlt : i < q.ks.length
    · rw [List.getElem?_append_left hlt] at hi; exact .inl ⟨hlt, hi⟩
    · rw [List.getElem?_append_right (by omega)] at hi
      obtain ⟨h5, h6⟩ := newKeys_get.1 hi
      exact .inr ⟨by omega, h5, h6⟩
  have hnodup : ks'.Nodup := by
    rw [← hks', List.nodup_append]
    refine ⟨h2, ?_, ?_⟩
    · unfold newKeys List.Nodup
      rw [List.pairwise_map]
      refine List.nodup_range.imp fun hne he => hne ?_
      simp only [Prod.mk.injEq, true_and] at he
      omega
    · rintro k hk1 k' hk2 rfl
      obtain ⟨i, hi⟩ := List.mem_iff_getElem?.1 hk1
      obtain ⟨j, hj⟩ := List.mem_iff_getElem?.1 hk2
      obtain ⟨_, rfl⟩ := newKeys_get.1 hj
      have := hksG i _ hi
      simp only at this
      omega
  -- the names behind the call
  let isNew : Nat → Nat → Prop := fun x y => x = d ∧ s.g d < y ∧ y ≤ s.g d + nk
  let G2 : Gh := { β := fun x y => if x = d ∧ s.g d < y ∧ y ≤ s.g d + nk then G'.β (lentBase + (q.ks.length + (y - s.g d - 1))) 0 else G.β x y
                   Pr := G'.Pr
                   ow := G.ow
                   O := G.O
                   rc := fun x y => if x = d ∧ s.g d < y ∧ y ≤ s.g d + nk then G'.rc (lentBase + (q.ks.length + (y - s.g d - 1))) 0 else G.rc x y
                   rz := fun x y => if x = d ∧ s.g d < y ∧ y ≤ s.g d + nk then G'.rz (lentBase + (q.ks.length + (y - s.g d - 1))) 0 else G.rz x y }
  have hG2old : ∀ x y, y ≤ s.g x → G2.β x y = G.β x y ∧ G2.rc x y = G.rc x y ∧ G2.rz x y = G.rz x y := by
    intro x y hy
    have hn : ¬ (x = d ∧ s.g d < y ∧ y ≤ s.g d + nk) := by rintro ⟨rfl, h5, _⟩; omega
    simp only [G2, if_neg hn, and_self]
  have hG2 : ∀ (i : Nat) k, ks'[i]? = some k → G2.β k.1 k.2 = G'.β (lentBase + i) 0 ∧ G2.rc k.1 k.2 = G'.rc (lentBase + i) 0 ∧ G2.rz k.1 k.2 = G'.rz (lentBase + i) 0 := by
    intro i k hi
    rcases hget i k hi with ⟨hlt, hki⟩ | ⟨hle, hlt, rfl⟩
    · obtain ⟨e1, e2, e3⟩ := hG2old k.1 k.2 (hksG i k hki)
      obtain ⟨f1, f2, f3⟩ := hsame i (by omega)
      obtain ⟨g1, g2, g3⟩ := hlβ i k hki
      exact ⟨by rw [e1, f1, g1], by rw [e2, f2, g2], by rw [e3, f3, g3]⟩
    · have hn : d = d ∧ s.g d < s.g d + 1 + (i - q.ks.length) ∧ s.g d + 1 + (i - q.ks.length) ≤ s.g d + nk := ⟨rfl, by omega, by omega⟩
      have hi' : q.ks.length + (s.g d + 1 + (i - q.ks.length) - s.g d - 1) = i := by omega
      exact ⟨(if_pos hn).trans (by rw [hi']), (if_pos hn).trans (by rw [hi']), (if_pos hn).trans (by rw [hi'])⟩
  have hun : ∀ {l : LV} {u : Value}, RepT G' W' l u → KeysIn q.objs'.length l → RepT G2 W' (l.un ks') u := fun hr hkk => hr.unlent hkk (fun _ _ => id) fun i hi => by
    have hki := List.getElem?_eq_getElem (l := ks') (i := i) (by omega)
    have := hG2 i _ hki
    simpa [List.getD, hki] using this
  have hgup : ∀ x, s.g x ≤ upd s.g d (s.g d + nk) x := by
    intro x
    by_cases hx : x = d
    · subst hx; simp only [upd, if_true]; omega
    · simp only [upd, hx, if_false]; exact Nat.le_refl _
  have hkb : ∀ {l : LV}, KeysIn q.objs'.length l → ∀ k ∈ (l.un ks').keys, k.2 ≤ upd s.g d (s.g d + nk) k.1 := by
    intro l hl k hkk
    obtain ⟨i, hi, rfl⟩ := un_keys ks' hl k hkk
    have hki := List.getElem?_eq_getElem (l := ks') (i := i) (by omega)
    have hgd : ks'.getD i (0, 0) = ks'[i] := by simp [List.getD, hki]
    rw [hgd]
    rcases hget i _ hki with ⟨hlt, h5⟩ | ⟨_, hlt, h5⟩
    · exact Nat.le_trans (hksG i _ h5) (hgup _)
    · rw [h5]
      show s.g d + 1 + (i - q.ks.length) ≤ upd s.g d (s.g d + nk) d
      rw [upd_same]
      omega
  have hmove : ∀ {l : LV} {u : Value}, RepT G W l u → (∀ k ∈ l.keys, k.2 ≤ s.g k.1) → RepT G2 W' l u := fun hr hkk => hr.move' hag hp1' fun k hk => hG2old k.1 k.2 (hkk k hk)
  have hzl : ks'.length = (q.objs'.map fun ob => ob.map fun c => c.map (LV.un ks')).length := by rw [List.length_map]; exact hkl
  -- what is alive behind the call
  have hcase : ∀ x y cells, ((MU.objs (ks'.zip (q.objs'.map fun ob => ob.map fun c => c.map (LV.un ks'))) d nk).apply s).b x y = some cells →
      (∃ (i : Nat) (ob : List LV), ks'[i]? = some (x, y) ∧ q.objs'[i]? = some (some ob) ∧ cells = ob.map fun c => (c.un ks', ((0, 0) : Tag))) ∨ ((x, y) ∉ ks' ∧ s.b x y = some cells) := by
    intro x y cells hxy
    simp only [MU.apply] at hxy
    obtain ⟨z1, z2⟩ := objAt_zip (os := []) ks' _ x y (s.b x y) hzl hnodup
    by_cases hm : (x, y) ∈ ks'
    · obtain ⟨i, hi⟩ := List.mem_iff_getElem?.1 hm
      obtain ⟨c', hc', he⟩ := z1 i hi
      rw [he] at hxy
      obtain ⟨l, rfl, rfl⟩ := Option.map_eq_some_iff.1 hxy
      rw [List.getElem?_map] at hc'
      obtain ⟨ob, hob, hob2⟩ := Option.map_eq_some_iff.1 hc'
      obtain ⟨ob, rfl, rfl⟩ := Option.map_eq_some_iff.1 hob2
      exact .inl ⟨i, ob, hi, hob, by rw [List.map_map]; rfl⟩
    · rw [z2 hm] at hxy
      exact .inr ⟨hm, hxy⟩
  have hcaseS : ∀ x y, (((MU.objs (ks'.zip (q.objs'.map fun ob => ob.map fun c => c.map (LV.un ks'))) d nk).apply s).b x y).isSome →
      (∃ (i : Nat) (ob : List LV), ks'[i]? = some (x, y) ∧ q.objs'[i]? = some (some ob)) ∨ ((x, y) ∉ ks' ∧ (s.b x y).isSome) := by
    intro x y hxy
    obtain ⟨c, hc⟩ := Option.isSome_iff_exists.1 hxy
    rcases hcase x y c hc with ⟨i, ob, h5, h6, _⟩ | ⟨h5, h6⟩
    · exact .inl ⟨i, ob, h5, h6⟩
    · exact .inr ⟨h5, by rw [h6]; rfl⟩
  have hnot : ∀ x y, (x, y) ∉ ks' → (s.b x y).isSome → ∀ (i : Nat) kk, q.ks[i]? = some kk → G.β x y ≠ G.β kk.1 kk.2 := by
    intro x y hm hxy i kk hi he
    obtain ⟨cells, _, hb, _⟩ := hlive i kk hi
    have := h.inj x y kk.1 kk.2 hxy (by rw [hb]; rfl) he
    apply hm
    rw [← hks', List.mem_append]
    exact .inl (by rw [show (x, y) = kk from Prod.ext this.1 this.2]; exact List.mem_of_getElem? hi)
  -- where a block that is named behind the call lies
  have hplace : ∀ (i : Nat) k ob, ks'[i]? = some k → q.objs'[i]? = some (some ob) → W.heap.size ≤ G'.β (lentBase + i) 0 ∨ ∃ (j : Nat) (kk : Nat × Nat), q.ks[j]? = some kk ∧ G'.β (lentBase + i) 0 = G.β kk.1 kk.2 := by
    intro i k ob hi hobi
    rcases hnew i ob hobi with h5 | ⟨j, hj, h5⟩
    · exact .inl h5
    · have hkj := List.getElem?_eq_getElem (l := q.ks) (i := j) (by omega)
      exact .inr ⟨j, _, hkj, by rw [h5, (hlβ j _ hkj).1]⟩
  have hsim : SimG C G2 ((MU.objs (ks'.zip (q.objs'.map fun ob => ob.map fun c => c.map (LV.un ks'))) d nk).apply s) a W' := by
    refine ⟨h.ex.step ⟨hbel.os, hbel.tape, hbel.output, hbel.size, fun b hO hl => hblock b hl fun i kk hi he => ?_, fun b cur e hc => ?_, hbel.drawn⟩ (fun D o hD ho => (hblock D (Array.getElem?_eq_some_iff.1 hD).1 fun i kk hi he => ?_).trans hD) h.pr0 hag hgup hG2old (fun x y hy hn => ?_) rfl (fun x y hxy => ?_) h.ex.yo3 ⟨rfl, rfl, rfl⟩ hp1' (fun b o hp => (hp2' b o hp).imp id (fun h => .inl h.1)), h.size, ?_, fun x y hxy hm => ?_, Nat.le_trans h.base_le hbel.size, h.prb, fun k o hk => hp1' k o (h.pr0 k o hk), ?_, fun i => hmove (h.temp i) (h.wf i), h.tag, ?_, ?_, ?_, fun i k hk => Nat.le_trans (h.wf i k hk) (hgup _), ?_, h.ownne, fun k o hk => (hp2' k o hk).elim (h.prx k o) (fun h1 => .inr (.inl (Nat.le_trans h.base_le h1.1)))⟩
    · obtain ⟨cells, _, hb, _⟩ := hlive i kk hi
      exact h.ex.yo2 _ _ (by rw [hb]; rfl) (he ▸ hO)
    · have hlt := (Array.getElem?_eq_some_iff.1 hc).1
      by_cases hx1 : ∃ i, i < q.objs.length ∧ b = (G.lent q.ks).β (lentBase + i) 0
      · exact hbel.kept b hlt cur e hx1 hc
      · exact ⟨cur, (hbel.block b hlt hx1).trans hc, rfl⟩
    · obtain ⟨cells, _, hb, _⟩ := hlive i kk hi
      obtain ⟨_, ⟨cur, e, hh, _⟩, _⟩ := h.box _ _ _ hb
      rw [he, hh] at hD
      injection hD with hD
      exact ho _ _ _ hD.symm
    · cases hs' : ((MU.objs (ks'.zip (q.objs'.map fun ob => ob.map fun c => c.map (LV.un ks'))) d nk).apply s).b x y with
      | none => rfl
      | some c =>
        rcases hcase x y c hs' with ⟨i, ob, hi, _, _⟩ | ⟨_, h6⟩
        · rcases hget i _ hi with ⟨_, h5⟩ | ⟨_, h5, h6⟩
          · obtain ⟨cells, _, hb, _⟩ := hlive i _ h5
            rw [hn] at hb; cases hb
          · injection h6 with f1 f2
            subst f1
            omega
        · rw [hn] at h6; cases h6
    · rcases hcaseS x y hxy with ⟨i, ob, hi, hobi⟩ | ⟨_, hxy'⟩
      · have e1 := (hG2 i _ hi).1
        simp only at e1
        rw [e1]
        rcases hplace i _ ob hi hobi with h7 | ⟨j, kk, hj, h7⟩
        · exact fun ho => by have := h.ex.yo1 _ ho; omega
        · rw [h7]
          obtain ⟨cells, _, hb, _⟩ := hlive j kk hj
          exact h.ex.yo2 _ _ (by rw [hb]; rfl)
      · rw [(hG2old x y (h.gen _ _ hxy')).1]
        exact h.ex.yo2 x y hxy'
    · intro hy
      refine (h.below hy).trans ⟨hbel.os, hbel.tape, hbel.output, hbel.size, fun k hk hx => ?_, fun k hk cur e hx hcur => ?_, hbel.drawn⟩
      · refine hblock k (Nat.lt_of_lt_of_le hk h.base_le) fun i kk hi he => ?_
        obtain ⟨cells, _, hb, _⟩ := hlive i kk hi
        rcases (h.box _ _ _ hb).1 with h5 | h5
        · omega
        · exact hx (by rw [he]; exact h5)
      · by_cases hx1 : ∃ i, i < q.objs.length ∧ k = (G.lent q.ks).β (lentBase + i) 0
        · exact hbel.kept k (Nat.lt_of_lt_of_le hk h.base_le) cur e hx1 hcur
        · exact ⟨cur, (hbel.block k (Nat.lt_of_lt_of_le hk h.base_le) hx1).trans hcur, rfl⟩
    · simp only [MU.apply] at hm
      rcases hcaseS x y hxy with ⟨i, ob, hi, hobi⟩ | ⟨_, hxy'⟩
      · have e1 := (hG2 i _ hi).1
        simp only at e1
        rw [e1]
        rcases hget i _ hi with ⟨hlt, h5⟩ | ⟨_, h5, h6⟩
        · have hle := hksG i _ h5
          rw [if_neg (by rintro ⟨rfl, h7, _⟩; simp only at hle; omega)] at hm
          obtain ⟨cells, _, hb, _⟩ := hlive i _ h5
          have := h.mkd x y (by rw [hb]; rfl) hm
          rw [(hsame i (by omega)).1, (hlβ i _ h5).1]
          exact this
        · injection h6 with f1 f2
          rw [if_pos ⟨f1, by omega, by omega⟩] at hm
          rcases hplace i _ ob hi hobi with h7 | ⟨j, kk, hj, h7⟩
          · exact Nat.le_trans h.ex.ctx.mb (Nat.le_trans h.base_le h7)
          · rw [h7]
            obtain ⟨cells, _, hb, _⟩ := hlive j kk hj
            refine h.mkd kk.1 kk.2 (by rw [hb]; rfl) ?_
            have hjl := (List.getElem?_eq_some_iff.1 hj).1
            rw [List.any_eq_false] at hm
            have hkj : ks'[j]? = some kk := by rw [← hks', List.getElem?_append_left hjl]; exact hj
            have hmem : (kk, ((q.objs'.map fun ob => ob.map fun c => c.map (LV.un ks'))[j]'(by rw [List.length_map]; omega))) ∈ ks'.zip (q.objs'.map fun ob => ob.map fun c => c.map (LV.un ks')) := by
              refine List.mem_iff_getElem?.2 ⟨j, ?_⟩
              rw [List.getElem?_zip_eq_some]
              exact ⟨hkj, List.getElem?_eq_getElem _⟩
            have hm' := hm _ hmem
            have hjo : j < q.objs'.length := by omega
            cases hoj : q.objs'[j]'hjo with
            | none => simpa [hoj] using hm'
            | some c' =>
              exfalso
              have hoj' : q.objs'[j]? = some (some c') := by rw [List.getElem?_eq_getElem hjo, hoj]
              have he1 : G'.β (lentBase + j) 0 = G.β kk.1 kk.2 := by rw [(hsame j (by omega)).1, (hlβ j _ hj).1]
              have := hob'.2 i j ob c' hobi hoj' (h7.trans he1.symm)
              omega
      · rw [(hG2old x y (h.gen _ _ hxy')).1]
        have hle := h.gen _ _ hxy'
        rw [if_neg (by rintro ⟨rfl, h7, _⟩; omega)] at hm
        exact h.mkd x y hxy' hm
    · intro k o hk
      rcases hp2' k o hk with h5 | h5
      · exact (h.pr k o h5).imp id (fun h6 => ⟨h6.1, Nat.lt_of_lt_of_le h6.2 hbel.size⟩)
      · exact .inr ⟨Nat.le_trans h.ex.ctx.mb (Nat.le_trans h.base_le h5.1), h5.2⟩
    · intro x y cells hxy
      rcases hcase x y cells hxy with ⟨i, ob, hi, hobi, rfl⟩ | ⟨hm, hxy'⟩
      · obtain ⟨e1, e2, e3⟩ := hG2 i _ hi
        simp only at e1 e2 e3
        obtain ⟨⟨cur, e, hh, hsz, hcz, hr⟩, hnp⟩ := hob'.1 i ob hobi
        rw [e1, e2, e3]
        refine ⟨?_, ⟨cur, e, hh, by simpa using hsz, hcz, fun j l tg u h4 h5 => ?_⟩, hnp⟩
        · rcases hplace i _ ob hi hobi with h5 | ⟨j, kk, hj, h5⟩
          · exact .inl (Nat.le_trans h.base_le h5)
          · obtain ⟨cells', _, hb, _⟩ := hlive j kk hj
            rw [h5]
            exact (h.box _ _ _ hb).1
        · rw [List.getElem?_map] at h4
          obtain ⟨l', hl', he⟩ := Option.map_eq_some_iff.1 h4
          obtain ⟨rfl, rfl⟩ : l'.un ks' = l ∧ (0, 0) = tg := by simpa using he
          obtain ⟨a1, a2⟩ := hr j l' u hl' h5
          have hin := hs6 ob (List.mem_of_getElem? hobi) l' (List.mem_of_getElem? hl')
          exact ⟨hun a1 hin, a2, .zero, hkb hin⟩
      · obtain ⟨b1, ⟨cur, e, hh, hsz, hcz, hr⟩, b3⟩ := h.box x y cells hxy'
        obtain ⟨e1, e2, e3⟩ := hG2old x y (h.gen x y (by rw [hxy']; rfl))
        rw [e1, e2, e3]
        have hlt := (Array.getElem?_eq_some_iff.1 hh).1
        refine ⟨b1, ⟨cur, e, (hblock _ hlt (hnot x y hm (by rw [hxy']; rfl))).trans hh, hsz, hcz, fun j l tg u h4 h5 => ?_⟩, fun o ho => ?_⟩
        · obtain ⟨a1, a2, a3, a4⟩ := hr j l tg u h4 h5
          exact ⟨hmove a1 a4, a2, a3, fun k hk => Nat.le_trans (a4 k hk) (hgup _)⟩
        · rcases hp2' _ o ho with h5 | h5
          · exact b3 o h5
          · omega
    · intro x y x' y' k1 k2 he
      rcases hcaseS x y k1 with ⟨i, ob, hi, hobi⟩ | ⟨hm, hxy⟩ <;> rcases hcaseS x' y' k2 with ⟨i', ob', hi', hobi'⟩ | ⟨hm', hxy'⟩
      · have e1 := (hG2 i _ hi).1
        have e2 := (hG2 i' _ hi').1
        simp only at e1 e2
        rw [e1, e2] at he
        have := hob'.2 i i' ob ob' hobi hobi' he
        subst this
        rw [hi] at hi'
        injection hi' with hi'
        injection hi' with f1 f2
        exact ⟨f1, f2⟩
      · exfalso
        have e1 := (hG2 i _ hi).1
        simp only at e1
        rw [e1, (hG2old x' y' (h.gen _ _ hxy')).1] at he
        rcases hplace i _ ob hi hobi with h5 | ⟨j, kk, hj, h5⟩
        · have := h.blockLt hxy'
          omega
        · exact hnot x' y' hm' hxy' j kk hj (by rw [← he, h5])
      · exfalso
        have e1 := (hG2 i' _ hi').1
        simp only at e1
        rw [e1, (hG2old x y (h.gen _ _ hxy)).1] at he
        rcases hplace i' _ ob' hi' hobi' with h5 | ⟨j, kk, hj, h5⟩
        · have := h.blockLt hxy
          omega
        · exact hnot x y hm hxy j kk hj (by rw [he, h5])
      · rw [(hG2old x y (h.gen _ _ hxy)).1, (hG2old x' y' (h.gen _ _ hxy')).1] at he
        exact h.inj _ _ _ _ hxy hxy' he
    · intro x y k1
      rcases hcaseS x y k1 with ⟨i, ob, hi, hobi⟩ | ⟨hm, hxy⟩
      · show y ≤ upd s.g d (s.g d + nk) x
        rcases hget i _ hi with ⟨_, h5⟩ | ⟨_, h5, h6⟩
        · exact Nat.le_trans (hksG i _ h5) (hgup _)
        · injection h6 with f1 f2
          subst f1
          simp only [upd, if_true]; omega
      · exact Nat.le_trans (h.gen x y hxy) (hgup _)
    · intro tok w hw
      obtain ⟨b1, ⟨cur, hh, hsz⟩, b2, b3, b4, b5, b6⟩ := h.own tok w hw
      have hlt := (Array.getElem?_eq_some_iff.1 hh).1
      refine ⟨b1, ⟨cur, (hblock _ hlt fun i kk hi he => ?_).trans hh, hsz⟩, b2, b3, b4, fun o ho => ?_, fun x y hxy => ?_⟩
      · obtain ⟨cells, _, hb, _⟩ := hlive i kk hi
        exact b6 kk.1 kk.2 (by rw [hb]; rfl) he.symm
      · rcases hp2' _ o ho with h5 | h5
        · exact b5 o h5
        · omega
      · rcases hcaseS x y hxy with ⟨i, ob, hi, hobi⟩ | ⟨hm, hxy'⟩
        · have e1 := (hG2 i _ hi).1
          simp only at e1
          rw [e1]
          rcases hplace i _ ob hi hobi with h5 | ⟨j, kk, hj, h5⟩
          · omega
          · obtain ⟨cells, _, hb, _⟩ := hlive j kk hj
            rw [h5]
            exact b6 kk.1 kk.2 (by rw [hb]; rfl)
        · rw [(hG2old x y (h.gen _ _ hxy')).1]
          exact b6 x y hxy'
  exact hk _ _ ⟨G2, hsim.put' hd (hun hres hs5) .zero (hkb hs5)⟩
end
end Go.LI
/- Cells copied, and cleared. -/
namespace Go.LI
open Go Go.RowKit

section
variable {C : Ctx} {G : Gh} {s : S} {a : Act} {W : World}
variable {P : Program} {τ : Tab} {Γ : Env} {K : Act → World → Prop} {Q : Exit → Act → World → Prop}

/-- What is copied, as it lies. -/
theorem src_rep (h : SimG C G s a W) {x : Operand} {src : List LV} (hs : srcL s x = some src) :
    ∃ A cap, ∃ news : List Value, a.eval x = .slice A src.length cap ∧ news.length = src.length ∧ (0 < src.length → ∃ ad, A = some ad ∧ ∀ (j : Nat) v, news[j]? = some v → W.cell? (ad.add j) = some v) ∧
      ∀ (j : Nat) l u, src[j]? = some l → news[j]? = some u → RepT G W l u ∧ u.oneCell' = true ∧ ∀ k ∈ l.keys, k.2 ≤ s.g k.1 := by
  unfold srcL at hs
  split at hs
  · rename_i d g lo n sz hx
    split at hs
    · rename_i hsz
      subst hsz
      split at hs
      · rename_i c hb
        split at hs
        · rename_i hle
          cases hs
          obtain ⟨_, _, _, A, cap, hax, hnc, hA⟩ := rs_of h hx
          obtain ⟨cur, e, hh, hcsz, hat⟩ := h.boxAt hb
          have hlen : (((c.drop lo).take n).map (·.1)).length = n := by
            rw [List.length_map, List.length_take, List.length_drop]; omega
          refine ⟨A, cap, (List.range n).map fun j => cur.getD (lo + j) undef, by rw [hlen]; exact hax, by rw [hlen]; simp, fun hpos => ?_, fun j l u hl hu => ?_⟩
          · rw [hlen] at hpos
            obtain ⟨rfl, _⟩ := hA (.inl hpos)
            refine ⟨_, rfl, fun j v hv => ?_⟩
            rw [List.getElem?_map] at hv
            obtain ⟨k, hk, rfl⟩ := Option.map_eq_some_iff.1 hv
            have hjn : j < n := by simpa using (List.getElem?_eq_some_iff.1 hk).1
            have : k = j := by rw [List.getElem?_range hjn] at hk; injection hk with hk; exact hk.symm
            subst this
            rw [add_lit, cell_box hh, Nat.mul_one]
            obtain ⟨b1, _⟩ := hat (lo + k) _ (List.getElem?_eq_getElem (show lo + k < c.length by omega))
            exact b1
          · rw [List.getElem?_map] at hl hu
            obtain ⟨q, hq, rfl⟩ := Option.map_eq_some_iff.1 hl
            obtain ⟨k, hk, rfl⟩ := Option.map_eq_some_iff.1 hu
            have hjn : j < n := by simpa using (List.getElem?_eq_some_iff.1 hk).1
            have : k = j := by rw [List.getElem?_range hjn] at hk; injection hk with hk; exact hk.symm
            subst this
            rw [List.getElem?_take, if_pos hjn, List.getElem?_drop] at hq
            obtain ⟨_, b2, b3, _, b5⟩ := hat (lo + k) q hq
            exact ⟨b2, b3, b5⟩
        · cases hs
      · cases hs
    · cases hs
  · split at hs
    · rename_i l hnl ys hys
      split at hs
      · rename_i hall
        cases hs
        have hz : ∀ e ∈ ys, e.length = 1 := fun e he => by simpa using List.all_eq_true.1 hall e he
        obtain ⟨A, cap, news, hax, _, _, hfl, hcell⟩ := flat_of_rd (sz := 1) (by omega) (ptr_of_asList (h.eval x) hys) hz
        have hfe : ys.flatten.length = ys.length := by rw [flatten_len ys hz]; omega
        refine ⟨A, cap, news, by rw [hfe]; exact hax, by rw [hfl.1, hfe]; omega, fun hpos => hcell (by omega), fun j l u hl hu => ?_⟩
        obtain ⟨u', b1, b2, b3⟩ := flat_cells (by omega) hfl hl
        rw [hu] at b1
        cases b1
        exact ⟨RepT.of_rd b2, b3, fun k hk => by rw [keys_of_rd b2] at hk; cases hk⟩
      · cases hs
    · cases hs

theorem sim_copy (h : SimG C G s a W) {o : Oper} {c : Call} {t t2 e d g lo n : Nat} {dx sx : Operand} {ti : TI} {i : TypeInfo} {src : List LV} {u : Upd} (hu : P.underlying t = some (.slice e)) (hT : TOk P e ti i) (hsz : ti.size = 1)
    (ho : o.op = .call c) (hc : c.callee = .builtin .copy) (hca : c.args = #[dx, sx]) (hct : c.argTypes = #[t, t2]) (hd : DstOk C o) (hdx : s.eval dx = .rs d g lo n 1) (hsrc : srcL s sx = some src) (he : copyL s d g lo n src = some u)
    (hk : ∀ a' W', Sim C (u.apply o.dst s) a' W' → K a' W') : o.wp P a W K Q := by
  obtain ⟨_, _, _, A, cap, hax, hnc, hA⟩ := rs_of h hdx
  obtain ⟨A2, cap2, news, hsx, hnl, hcl, hrep⟩ := src_rep h hsrc
  have hinfo : (P.info? e).map (·.size) = some 1 := by rw [hT.info, Option.map_some, hT.size, hsz]
  have hrun0 : ∀ {v : Value} {W' : World}, (Builtin.copy_ #[t, t2] o.type #[.slice A n cap, .slice A2 src.length cap2]).run P W = .ok v W' → (execOp a.eval o).run P W = .ok (.value v) W' := fun hr => by
    simp only [execOp, ho, resolve, hc, hca, hct, hax, hsx, invoke, builtin, List.map_toArray, List.map_cons, List.map_nil, Sem.run_bind, Sem.run_pure, Result.andThen_ok, hr]
  unfold copyL at he
  split at he
  · rename_i htk
    cases he
    have hmin : Nat.min src.length n = 0 := by
      have := congrArg List.length htk
      simp only [List.length_take, List.length_nil] at this
      simp only [Nat.min_def] at this ⊢
      split <;> split at this <;> omega
    exact wp_value (u := .int .i64 0) (hrun0 (run_copy_none W t t2 o.type e A A2 n cap src.length cap2 hu hinfo hmin)) (hk _ _ ⟨G, h.put' hd (RepT.of_rd (.v _ rfl)) .zero (fun _ hk => by cases hk)⟩)
  · rename_i cells x r hb htk
    split at he
    · rename_i hfit
      cases he
      have hlen : (src.take n).length = r.length + 1 := by rw [htk]; rfl
      have hmin : r.length + 1 = min n src.length := by rw [← hlen, List.length_take]
      have hpos : 0 < src.length := by omega
      have hnpos : 0 < n := by omega
      obtain ⟨ad, rfl, hcell⟩ := hcl hpos
      obtain ⟨rfl, _⟩ := hA (.inl hnpos)
      obtain ⟨_, ⟨cur, e', hh, hcsz, _⟩, _⟩ := h.box d g cells hb
      have hcs : (news.take n).length = r.length + 1 := by rw [List.length_take, hnl, hmin]
      have hrd : ∀ (j : Nat) v, (news.take n)[j]? = some v → W.cell? (ad.add j) = some v := fun j v hv => by
        rw [List.getElem?_take] at hv
        split at hv
        · exact hcell j v hv
        · cases hv
      have hone : ∀ v ∈ news.take n, v.oneCell' = true := fun v hv => by
        obtain ⟨j, hj, rfl⟩ := List.getElem_of_mem hv
        have h1 : (news.take n)[j]? = some (news.take n)[j] := List.getElem?_eq_getElem hj
        have h2 := h1
        rw [List.getElem?_take] at h2
        split at h2
        · have hjl := (List.getElem?_eq_some_iff.1 h2).1
          exact (hrep j _ _ (List.getElem?_eq_getElem (by omega)) h2).2.1
        · cases h2
      have hrow := run_copy_row (P := P) W t t2 o.type e (G.β d g) (lo * 1) n cap ad src.length cap2 cur e' (news.take n) hu hinfo hh (by rw [hcs, hmin, Nat.min_comm]) hrd (by rw [hcs]; omega) hone
      have hrun := hrun0 hrow
      unfold Oper.wp
      rw [hrun, hcs]
      simp only [Nat.mul_one]
      have hst := h.storeBox (off := lo) (new := (x :: r).map fun c => (c, ((0, 0) : Tag))) (vs := news.take n) hb hh (by simp; omega) (by rw [hcs]; simp) (fun j l tg u h2 h3 => by
        rw [List.getElem?_map, ← htk] at h2
        obtain ⟨l', hl', he'⟩ := Option.map_eq_some_iff.1 h2
        obtain ⟨rfl, rfl⟩ : l' = l ∧ (0, 0) = tg := by simpa using he'
        rw [List.getElem?_take] at hl' h3
        split at hl'
        · rename_i hjn
          rw [if_pos hjn] at h3
          obtain ⟨b1, b2, b3⟩ := hrep j _ _ hl' h3
          exact ⟨b1, b2, .zero, b3⟩
        · cases hl')
      have hgo : (over lo (news.take n) cur.toList).toArray = (cur.toList.take lo ++ news.take n ++ cur.toList.drop (lo + (r.length + 1))).toArray := by rw [← hcs]; rfl
      rw [hgo] at hst
      refine hk _ _ ⟨G, hst.put' hd (RepT.of_rd (.v _ rfl)) .zero (fun _ hk => by cases hk)⟩
    · cases he
  · cases he

theorem sim_clear (h : SimG C G s a W) {o : Oper} {c : Call} {t e : Nat} {x : Operand} {ti : TI} {i : TypeInfo} {u : Upd} (hu : P.underlying t = some (.slice e)) (hT : TOk P e ti i)
    (ho : o.op = .call c) (hc : c.callee = .builtin .clear) (hca : c.args = #[x]) (hct : c.argTypes = #[t]) (hd : DstOk C o) (he : clearL s ti (s.eval x) = some u)
    (hk : ∀ a' W', Sim C (u.apply o.dst s) a' W' → K a' W') : o.wp P a W K Q := by
  have hrun0 : ∀ {w v : Value} {W' : World}, a.eval x = w → (Builtin.clear_ #[t] o.type #[w]).run P W = .ok v W' → (execOp a.eval o).run P W = .ok (.value v) W' := fun hw hr => by
    simp only [execOp, ho, resolve, hc, hca, hct, hw, invoke, builtin, List.map_toArray, List.map_cons, List.map_nil, Sem.run_bind, Sem.run_pure, Result.andThen_ok, hr]
  have htup : RepT G W (.tup []) (.tuple #[]) := RepT.of_rd (.tup (vs := []) (us := []) rfl (fun i l u hl _ => by simp at hl))
  have hzero : ∀ {A : Option Addr} {cp : Nat}, a.eval x = .slice A 0 cp → u = { l := .tup [] } → o.wp P a W K Q := fun hx hu0 => by
    subst hu0
    refine wp_value (u := .tuple #[]) (hrun0 hx ?_) (hk _ _ ⟨G, h.put' hd htup .zero (fun _ hk => by cases hk)⟩)
    rename_i A cp
    cases A <;> simp [Builtin.clear_, run_underlying hu]
  cases hx : s.eval x
  case rs d g lo n sz =>
    rw [hx] at he
    simp only [clearL] at he
    obtain ⟨_, _, _, A, cap, hax, hnc, hA⟩ := rs_of h hx
    split at he
    · rename_i h0
      subst h0
      exact hzero hax (by cases he; rfl)
    · rename_i h0
      split at he
      · rename_i cells z hb hz
        split at he
        · rename_i hcd
          obtain ⟨rfl, hs1, hag, hfit⟩ := hcd
          cases he
          obtain ⟨rfl, _⟩ := hA (.inl (by omega))
          obtain ⟨_, ⟨cur, e', hh, hcsz, _⟩, _⟩ := h.box d g cells hb
          obtain ⟨zv, hz0, hz1⟩ := hT.zero
          have hk0 := hT.zk zv hz0
          rw [hag] at hk0
          have hzc : zv.cells = #[z] := by rw [← Array.toList_inj, hz1, hz]
          have hzz : zv = z := by
            cases zv <;> simp [zeroKind] at hk0 <;> simpa [Value.cells] using hzc
          have hz1' : z.oneCell' = true := hT.zone z (by rw [hz]; simp)
          have hzl : (Builtin.zeroCells zv.cells n).toList = List.replicate n z := by
            rw [hzc]
            simp [Builtin.zeroCells]
            apply List.ext_getElem
            · simp
            · intro i h1 h2
              simp [Nat.mod_one]
          have hst := run_storeCells_at P (G.β d g) (lo * 1) e' (List.replicate n z) 0 cur W hh (by simp; omega) (by intro v hv; rw [List.eq_of_mem_replicate hv]; exact hz1')
          simp only [Nat.add_zero, Nat.mul_one, List.length_replicate] at hst
          have hzv : (zeroValue e).run P W = .ok zv W := by simp [zeroValue, typeInfo, hT.info, hz0]
          obtain ⟨m, rfl⟩ : ∃ m, n = m + 1 := ⟨n - 1, by omega⟩
          have hr : (Builtin.clear_ #[t] o.type #[.slice (some ⟨G.β d g, lo, none⟩) (m + 1) cap]).run P W = .ok (.tuple #[]) (W.setRow (G.β d g) (cur.toList.take lo ++ List.replicate (m + 1) z ++ cur.toList.drop (lo + (m + 1))).toArray) := by
            simp [Builtin.clear_, run_underlying hu, hzv, hzl, hst]
          rw [Nat.mul_one] at hax
          have hrun := hrun0 hax hr
          unfold Oper.wp
          rw [hrun]
          have hsb := h.storeBox (off := lo) (new := List.replicate (m + 1) ((.v z : LV), ((0, 0) : Tag))) (vs := List.replicate (m + 1) z) hb hh (by simp; omega) (by simp) (fun j l tg u h2 h3 => by
            have e2 := List.eq_of_mem_replicate (List.mem_of_getElem? h2)
            have e3 := List.eq_of_mem_replicate (List.mem_of_getElem? h3)
            cases e2
            subst e3
            exact ⟨RepT.of_rd (.v _ hz1'), hz1', .zero, fun k hk => by cases hk⟩)
          have hgo : (over lo (List.replicate (m + 1) z) cur.toList).toArray = (cur.toList.take lo ++ List.replicate (m + 1) z ++ cur.toList.drop (lo + (m + 1))).toArray := by
            unfold over
            rw [List.length_replicate]
          rw [hgo] at hsb
          refine hk _ _ ⟨G, hsb.put' hd ?_ .zero (fun _ hk => by cases hk)⟩
          exact RepT.of_rd (.tup (vs := []) (us := []) rfl (fun i l u hl _ => by simp at hl))
        · cases he
      · cases he
  all_goals
    rw [hx] at he
    simp only [clearL] at he
    split at he
    · rename_i hl
      have := ptr_of_asList (h.eval x) (by rw [hx]; exact hl)
      generalize hau : a.eval x = au at this
      cases this with
      | list sz U hc hm hs ha hh => exact hzero hau (by cases he; rfl)
    · cases he
end
end Go.LI
