/- Texts of a small semantics over the model and of specifications of functions, joined: LIAppend, LIAppend2. -/
import Derived.Test.YtlnndndpaakjfaaGreatDoorP04
set_option linter.unusedSimpArgs false
set_option linter.unusedVariables false
namespace Go.LI
open Go Go.RowKit

section
variable {C : Ctx} {G : Gh} {s : S} {a : Act} {W : World}
variable {P : Program} {τ : Tab} {Γ : Env} {K : Act → World → Prop} {Q : Exit → Act → World → Prop}

/-- A list's cells in line. -/
def Flat (Pr : Nat → Nat → Prop) (W : World) (xs : List (List LV)) (sz : Nat) (vs : List Value) : Prop :=
  vs.length = xs.length * sz ∧ (∀ e ∈ xs, e.length = sz) ∧ ∀ (j : Nat) e (i : Nat) l, xs[j]? = some e → e[i]? = some l → ∃ u, vs[j * sz + i]? = some u ∧ Rd Pr W l u ∧ u.oneCell' = true

theorem Flat.append {Pr : Nat → Nat → Prop} {xs ys : List (List LV)} {sz : Nat} {vs ws : List Value} (h : Flat Pr W xs sz vs) (k : Flat Pr W ys sz ws) : Flat Pr W (xs ++ ys) sz (vs ++ ws) := by
  refine ⟨by rw [List.length_append, List.length_append, h.1, k.1, Nat.add_mul], fun e he => ?_, fun j e i l hj hi => ?_⟩
  · rcases List.mem_append.1 he with he | he
    · exact h.2.1 e he
    · exact k.2.1 e he
  · by_cases hjl : j < xs.length
    · rw [List.getElem?_append_left hjl] at hj
      obtain ⟨u, h1, h2, h3⟩ := h.2.2 j e i l hj hi
      exact ⟨u, by rw [List.getElem?_append_left (List.getElem?_eq_some_iff.1 h1).1]; exact h1, h2, h3⟩
    · rw [List.getElem?_append_right (by omega)] at hj
      obtain ⟨u, h1, h2, h3⟩ := k.2.2 _ e i l hj hi
      refine ⟨u, ?_, h2, h3⟩
      have hle : xs.length * sz ≤ j * sz := Nat.mul_le_mul_right _ (by omega)
      rw [List.getElem?_append_right (by rw [h.1]; omega), h.1, show j * sz + i - xs.length * sz = (j - xs.length) * sz + i by rw [Nat.sub_mul]; omega]
      exact h1

theorem flat_of_rd {Pr : Nat → Nat → Prop} {xs : List (List LV)} {v : Value} {sz : Nat} (hs : 0 < sz) (h : Rd Pr W (.list xs) v) (hz : ∀ e ∈ xs, e.length = sz) :
    ∃ A c vs, v = .slice A xs.length c ∧ xs.length ≤ c ∧ xs.length ≤ 9223372036854775807 ∧ Flat Pr W xs sz vs ∧ (0 < xs.length → ∃ ad, A = some ad ∧ ∀ (k : Nat) u, vs[k]? = some u → W.cell? (ad.add k) = some u) := by
  cases h with
  | list sz' U hc hm hsz ha hh =>
    rename_i A c
    refine ⟨A, c, (List.range (xs.length * sz)).map fun k => U (k / sz) (k % sz), rfl, hc, hm, ⟨by simp, hz, fun j e i l hj hi => ?_⟩, fun hn => ?_⟩
    · have hjl : j < xs.length := (List.getElem?_eq_some_iff.1 hj).1
      have hil : i < sz := by rw [← hz e (List.mem_of_getElem? hj)]; exact (List.getElem?_eq_some_iff.1 hi).1
      have hb : j * sz + i < xs.length * sz := by
        have : (j + 1) * sz ≤ xs.length * sz := Nat.mul_le_mul_right _ hjl
        rw [Nat.add_mul, Nat.one_mul] at this
        omega
      obtain ⟨ad, _, hcell⟩ := ha (by omega)
      refine ⟨U j i, ?_, hh j e i l hj hi, (hcell j e i l hj hi).2.1⟩
      rw [List.getElem?_map, List.getElem?_range hb]
      simp only [Option.map_some, Option.some.injEq]
      rw [Nat.mul_comm, Nat.mul_add_div hs, Nat.div_eq_of_lt hil, Nat.mul_add_mod, Nat.mod_eq_of_lt hil, Nat.add_zero]
    · obtain ⟨ad, rfl, hcell⟩ := ha hn
      refine ⟨ad, rfl, fun k u hk => ?_⟩
      have hkl : k < xs.length * sz := by have := (List.getElem?_eq_some_iff.1 hk).1; simpa using this
      rw [List.getElem?_map, List.getElem?_range hkl] at hk
      simp only [Option.map_some, Option.some.injEq] at hk
      subst hk
      have hj : k / sz < xs.length := Nat.div_lt_of_lt_mul (by rw [Nat.mul_comm]; exact hkl)
      have hi : k % sz < sz := Nat.mod_lt _ hs
      have he := List.getElem?_eq_getElem hj
      have hel : k % sz < (xs[k / sz]).length := by rw [hz _ (List.getElem_mem hj)]; exact hi
      have hszz : sz' = sz := by rw [← hsz _ (List.getElem_mem hj), hz _ (List.getElem_mem hj)]
      subst hszz
      have := (hcell _ _ _ _ he (List.getElem?_eq_getElem hel)).1
      rwa [Nat.mul_comm, Nat.div_add_mod] at this

theorem rd_of_flat {Pr Pr' : Nat → Nat → Prop} {W' : World} {xs : List (List LV)} {sz g cap e' : Nat} {vs : List Value} {cur : Array Value} (h : Flat Pr W xs sz vs) (ha : Agree Pr W W') (hp : ∀ k o, Pr k o → Pr' k o)
    (hh : W'.heap[g]? = some (.cells cur e' (0, 0))) (hc : ∀ (k : Nat) u, vs[k]? = some u → cur[k]? = some u) (hP : ∀ o, o < vs.length → Pr' g o) (h1 : xs.length ≤ cap) (h2 : xs.length ≤ 9223372036854775807) :
    Rd Pr' W' (.list xs) (.slice (some ⟨g, 0, none⟩) xs.length cap) := by
  refine .list sz (fun j i => vs.getD (j * sz + i) undef) h1 h2 h.2.1 (fun _ => ⟨_, rfl, fun j e i l hj hi => ?_⟩) (fun j e i l hj hi => ?_)
  · obtain ⟨u, h3, h4, h5⟩ := h.2.2 j e i l hj hi
    have hg : vs.getD (j * sz + i) undef = u := by simp [List.getD, h3]
    rw [hg, add_lit, Nat.zero_add, cell_box hh]
    exact ⟨hc _ _ h3, h5, hP _ (List.getElem?_eq_some_iff.1 h3).1⟩
  · obtain ⟨u, h3, h4, h5⟩ := h.2.2 j e i l hj hi
    have hg : vs.getD (j * sz + i) undef = u := by simp [List.getD, h3]
    rw [hg]
    exact h4.move ha hp

/-- A tag's version goes up: whoever held it holds it no more. -/
theorem TagOK.bump {G G' : Gh} {tk ver : Nat} {tg : Tag} {l : LV} {u : Value} (h : TagOK G s tg l u) (hv : s.tv tk < ver) (ho : ∀ t, t ≠ tk → G'.ow t = G.ow t) : TagOK G' ((MU.tok tk ver).apply s) tg l u := by
  obtain ⟨h1, h2⟩ := h
  by_cases ht : tg.1 = tk
  · refine ⟨?_, fun _ he => ?_⟩
    · simp only [MU.apply, ht, upd_same]; rw [ht] at h1; omega
    · simp only [MU.apply, ht, upd_same] at he; rw [ht] at h1; omega
  · refine ⟨?_, fun h0 he => ?_⟩
    · simp only [MU.apply, upd_ne _ _ ht]; exact h1
    · simp only [MU.apply, upd_ne _ _ ht] at he
      obtain ⟨w, xs, h3⟩ := h2 h0 he
      exact ⟨w, xs, by rw [ho _ ht]; exact h3⟩

/-- A row of the frame's own, new: it may grow. -/
theorem SimG.newOwn (h : SimG C G s a W) {tk ver d : Nat} {W' : World} {cur : Array Value} {e n cap size : Nat} {xs : List (List LV)} (hd : d < C.n) (hW : W'.heap = W.heap.push (.cells cur e (0, 0))) (hos : W'.os = W.os) (htp : W'.tape = W.tape) (hout : W'.output = W.output)
    (ht0 : tk ≠ 0) (hv : s.tv tk < ver) (hs : 0 < size) (hn : n ≤ cap) (hcap : cap ≤ maxLen) (hcs : cur.size = cap * size) (h0 : 0 < n) (hxl : xs.length = n) (hxz : ∀ e ∈ xs, e.length = size)
    (hr : Rd (fun k o => G.Pr k o ∨ (k = W.heap.size ∧ o < n * size)) W' (.list xs) (.slice (some ⟨W.heap.size, 0, none⟩) n cap)) (hdr : W.drawn ≤ W'.drawn := by first | exact Nat.le_refl _ | exact Nat.le_succ _) :
    Sim C (((MU.tok tk ver).apply s).put (some d) (.list xs) (tk, ver)) (a.put (some d) (.slice (some ⟨W.heap.size, 0, none⟩) n cap)) W' := by
  have hb : Below W.heap.size W W' := ⟨hos, htp, hout, by rw [hW]; simp, fun k hk => by rw [hW, Array.getElem?_push, if_neg (by omega)], hdr⟩
  have hag := agree_of_below hb h.prlt
  have hsz : W'.heap.size = W.heap.size + 1 := by rw [hW]; simp
  have hnew : W'.heap[W.heap.size]? = some (.cells cur e (0, 0)) := by rw [hW]; simp
  refine ⟨{ G with Pr := fun k o => G.Pr k o ∨ (k = W.heap.size ∧ o < n * size), ow := upd G.ow tk (some ⟨W.heap.size, cap, n, size, e⟩) }, ?_⟩
  have hbase : SimG C { G with Pr := fun k o => G.Pr k o ∨ (k = W.heap.size ∧ o < n * size), ow := upd G.ow tk (some ⟨W.heap.size, cap, n, size, e⟩) } ((MU.tok tk ver).apply s) a W' := by
    refine ⟨h.ex.step (.of_below hb) (keep_old hb.block) h.pr0 hag (fun _ => Nat.le_refl _) (fun _ _ _ => ⟨rfl, rfl, rfl⟩) (fun _ _ _ => id) rfl h.ex.yo2 (fun t w hw => ?_) ⟨rfl, rfl, rfl⟩ (fun _ _ => .inl) (fun b o hp => hp.imp id (fun h => .inl (Nat.le_of_eq h.1.symm))), h.size, fun hy => (h.below hy).trans (belowX (hb.mono h.base_le)), h.mkd, Nat.le_trans h.base_le hb.size, h.prb, fun k o hk => .inl (h.pr0 k o hk), ?_, fun i => (h.temp i).move hag (fun _ _ => .inl) rfl rfl rfl, ?_, ?_, h.inj, h.gen, h.wf, ?_, ?_, fun k o hk => hk.elim (h.prx k o) (fun h1 => .inr (.inl (by have := h.base_le; omega)))⟩
    · by_cases ht : t = tk
      · subst ht
        simp only [upd_same, Option.some.injEq] at hw
        subst hw
        exact fun ho => by have h9 : W.heap.size < W.heap.size := h.ex.yo1 _ ho; omega
      · simp only [upd_ne _ _ ht] at hw
        exact h.ex.yo3 t w hw
    · intro k o hk
      rcases hk with hk | ⟨rfl, _⟩
      · exact (h.pr k o hk).imp id (fun h1 => ⟨h1.1, by omega⟩)
      · exact .inr ⟨Nat.le_trans h.ex.ctx.mb h.base_le, by omega⟩
    · intro i
      exact (h.tag i).bump hv (fun t ht => upd_ne _ _ ht)
    · intro x y cells hxy
      obtain ⟨h1, ⟨cur', e', hh, hsz', hcz', hr'⟩, h3⟩ := h.box x y cells hxy
      have hl := (Array.getElem?_eq_some_iff.1 hh).1
      refine ⟨h1, ⟨cur', e', (hb.block _ hl).trans hh, hsz', hcz', fun j l tg u h4 h5 => ?_⟩, fun o ho => ?_⟩
      · obtain ⟨a1, a2, a3, a4⟩ := hr' j l tg u h4 h5
        exact ⟨a1.move hag (fun _ _ => .inl) rfl rfl rfl, a2, a3.bump hv (fun t ht => upd_ne _ _ ht), a4⟩
      · rcases ho with ho | ⟨ho, _⟩
        · exact h3 o ho
        · have ho' : G.β x y = W.heap.size := ho
          omega
    · intro t w hw
      by_cases ht : t = tk
      · subst ht
        simp only [upd_same, Option.some.injEq] at hw
        subst hw
        refine ⟨h.base_le, ⟨cur, hnew, hcs⟩, hn, hcap, hs, fun o ho => ?_, fun x y hxy => ?_⟩
        · rcases ho with ho | ho
          · have h9 : W.heap.size < W.heap.size := h.prlt W.heap.size o ho
            omega
          · exact ho.2
        · obtain ⟨cells', hc'⟩ := Option.isSome_iff_exists.1 hxy
          obtain ⟨_, ⟨cur', e', hh, _⟩, _⟩ := h.box x y cells' hc'
          have h9 : G.β x y < W.heap.size := (Array.getElem?_eq_some_iff.1 hh).1
          exact fun he => by
            have he' : G.β x y = W.heap.size := he
            omega
      · simp only [upd_ne _ _ ht] at hw
        obtain ⟨h1, ⟨cur', hh, hsz'⟩, h2, h3, h4, h5, h6⟩ := h.own t w hw
        have hl := (Array.getElem?_eq_some_iff.1 hh).1
        refine ⟨h1, ⟨cur', (hb.block _ hl).trans hh, hsz'⟩, h2, h3, h4, fun o ho => ?_, h6⟩
        rcases ho with ho | ⟨ho, _⟩
        · exact h5 o ho
        · omega
    · intro t t' w w' hw hw' hne
      have hold : ∀ t w, G.ow t = some w → w.g < W.heap.size := fun t w hw => by
        obtain ⟨_, ⟨cur', hh, _⟩, _⟩ := h.own t w hw
        exact (Array.getElem?_eq_some_iff.1 hh).1
      by_cases ht : t = tk
      · subst ht
        have ht' : t' ≠ t := Ne.symm hne
        simp only [upd_same, upd_ne _ _ ht', Option.some.injEq] at hw hw'
        subst hw
        have := hold _ _ hw'
        simp only; omega
      · by_cases ht' : t' = tk
        · subst ht'
          simp only [upd_same, upd_ne _ _ ht, Option.some.injEq] at hw hw'
          subst hw'
          have := hold _ _ hw
          simp only; omega
        · simp only [upd_ne _ _ ht, upd_ne _ _ ht'] at hw hw'
          exact h.ownne _ _ _ _ hw hw' hne
  refine hbase.put hd (RepT.of_rd hr) ⟨by simp [MU.apply], fun _ _ => ⟨_, xs, upd_same _ _ _, rfl, rfl, hxl, h0, hxz⟩⟩ (fun _ hk => by cases hk)

/-- .. the same row, grown in its place. -/
theorem SimG.growOwn (h : SimG C G s a W) {tk ver d : Nat} {w : Own} {cur row : Array Value} {n' : Nat} {xs : List (List LV)} (hd : d < C.n) (hw : G.ow tk = some w) (hh : W.heap[w.g]? = some (.cells cur w.e (0, 0))) (hrow : row.size = cur.size)
    (hkeep : ∀ o, o < w.n * w.size → row[o]? = cur[o]?) (ht0 : tk ≠ 0) (hv : s.tv tk < ver) (hn : w.n ≤ n') (hn' : n' ≤ w.cap) (h0 : 0 < n') (hxl : xs.length = n') (hxz : ∀ e ∈ xs, e.length = w.size)
    (hr : Rd (fun k o => G.Pr k o ∨ (k = w.g ∧ o < n' * w.size)) (W.setRow w.g row) (.list xs) (.slice (some ⟨w.g, 0, none⟩) n' w.cap)) :
    Sim C (((MU.tok tk ver).apply s).put (some d) (.list xs) (tk, ver)) (a.put (some d) (.slice (some ⟨w.g, 0, none⟩) n' w.cap)) (W.setRow w.g row) := by
  obtain ⟨hbg, ⟨cur', hh', hcs'⟩, hnc, hcm, hsp, hpr, hbx⟩ := h.own tk w hw
  rw [hh] at hh'
  obtain rfl : cur = cur' := by injection hh' with hh'; injection hh' with a1 a2
  have hag : Agree G.Pr W (W.setRow w.g row) := by
    intro x hx
    by_cases hb : x.block = w.g
    · have hlt := hpr _ (hb ▸ hx)
      have hgx := hkeep _ hlt
      unfold World.cell?
      rw [hb, hh, setRow_heap W w.g cur row w.e _ hh]
      simp only [hgx]
    · exact World.cell?_of_block (w := W) (setRow_other W w.g x.block row hb)
  refine ⟨{ G with Pr := fun k o => G.Pr k o ∨ (k = w.g ∧ o < n' * w.size), ow := upd G.ow tk (some { w with n := n' }) }, ?_⟩
  have hbase : SimG C { G with Pr := fun k o => G.Pr k o ∨ (k = w.g ∧ o < n' * w.size), ow := upd G.ow tk (some { w with n := n' }) } ((MU.tok tk ver).apply s) a (W.setRow w.g row) := by
    refine ⟨h.ex.step (out_setRow hh hrow (h.ex.yo3 tk w hw)) (keep_setRow hh) h.pr0 hag (fun _ => Nat.le_refl _) (fun _ _ _ => ⟨rfl, rfl, rfl⟩) (fun _ _ _ => id) rfl h.ex.yo2 (fun t w' hw' => ?_) ⟨rfl, rfl, rfl⟩ (fun _ _ => .inl) (fun b o hp => hp.imp id (fun h1 => .inr (by rw [h1.1]; exact h.ex.yo3 tk w hw))), h.size, fun hy => (h.below hy).trans (belowX_setRow hh hrow (.inl hbg)), h.mkd, by rw [setRow_size]; exact h.base_le, h.prb, fun k o hk => .inl (h.pr0 k o hk), ?_, fun i => (h.temp i).move hag (fun _ _ => .inl) rfl rfl rfl, ?_, ?_, h.inj, h.gen, h.wf, ?_, ?_, fun k o hk => hk.elim (h.prx k o) (fun h1 => .inr (.inl (by rw [h1.1]; exact hbg)))⟩
    · by_cases ht : t = tk
      · subst ht
        simp only [upd_same, Option.some.injEq] at hw'
        subst hw'
        exact h.ex.yo3 t w hw
      · simp only [upd_ne _ _ ht] at hw'
        exact h.ex.yo3 t w' hw'
    · intro k o hk
      rw [setRow_size]
      rcases hk with hk | ⟨rfl, _⟩
      · exact h.pr k o hk
      · exact .inr ⟨Nat.le_trans h.ex.ctx.mb hbg, (Array.getElem?_eq_some_iff.1 hh).1⟩
    · intro i
      exact (h.tag i).bump hv (fun t ht => upd_ne _ _ ht)
    · intro x y cells hxy
      obtain ⟨h1, ⟨cur', e', hh2, hsz', hcz', hr'⟩, h3⟩ := h.box x y cells hxy
      have hne : G.β x y ≠ w.g := hbx x y (by have hxy' : s.b x y = some cells := hxy; rw [hxy']; rfl)
      refine ⟨h1, ⟨cur', e', (setRow_other W _ _ _ hne).trans hh2, hsz', hcz', fun j l tg u h4 h5 => ?_⟩, fun o ho => ?_⟩
      · obtain ⟨a1, a2, a3, a4⟩ := hr' j l tg u h4 h5
        exact ⟨a1.move hag (fun _ _ => .inl) rfl rfl rfl, a2, a3.bump hv (fun t ht => upd_ne _ _ ht), a4⟩
      · rcases ho with ho | ⟨ho, _⟩
        · exact h3 o ho
        · exact hne ho
    · intro t w2 hw2
      by_cases ht : t = tk
      · subst ht
        simp only [upd_same, Option.some.injEq] at hw2
        subst hw2
        refine ⟨hbg, ⟨row, setRow_heap W _ cur _ _ _ hh, by rw [hrow, hcs']⟩, hn', hcm, hsp, fun o ho => ?_, hbx⟩
        rcases ho with ho | ho
        · have := hpr o ho
          have h7 : w.n * w.size ≤ n' * w.size := Nat.mul_le_mul_right _ hn
          simp only; omega
        · exact ho.2
      · simp only [upd_ne _ _ ht] at hw2
        obtain ⟨h1, ⟨cur', hh2, hsz'⟩, h2, h3, h4, h5, h6⟩ := h.own t w2 hw2
        have hne := h.ownne t tk w2 w hw2 hw ht
        refine ⟨h1, ⟨cur', (setRow_other W _ _ _ hne).trans hh2, hsz'⟩, h2, h3, h4, fun o ho => ?_, h6⟩
        rcases ho with ho | ⟨ho, _⟩
        · exact h5 o ho
        · exact absurd ho hne
    · intro t t' w1 w2 hw1 hw2 hne
      by_cases ht : t = tk
      · subst ht
        have ht' : t' ≠ t := Ne.symm hne
        simp only [upd_same, upd_ne _ _ ht', Option.some.injEq] at hw1 hw2
        subst hw1
        exact h.ownne t t' w w2 hw hw2 hne
      · by_cases ht' : t' = tk
        · subst ht'
          simp only [upd_same, upd_ne _ _ ht, Option.some.injEq] at hw1 hw2
          subst hw2
          exact h.ownne t t' w1 w hw1 hw hne
        · simp only [upd_ne _ _ ht, upd_ne _ _ ht'] at hw1 hw2
          exact h.ownne _ _ _ _ hw1 hw2 hne
  exact hbase.put hd (RepT.of_rd hr) ⟨by simp [MU.apply], fun _ _ => ⟨_, xs, upd_same _ _ _, rfl, rfl, hxl, h0, hxz⟩⟩ (fun _ hk => by cases hk)
end
end Go.LI
namespace Go.LI
open Go Go.RowKit

section
variable {C : Ctx} {G : Gh} {s : S} {a : Act} {W : World}
variable {P : Program} {τ : Tab} {Γ : Env} {K : Act → World → Prop} {Q : Exit → Act → World → Prop}

theorem Flat.ones {Pr : Nat → Nat → Prop} {xs : List (List LV)} {sz : Nat} {vs : List Value} (hs : 0 < sz) (h : Flat Pr W xs sz vs) : ∀ u ∈ vs, u.oneCell' = true := by
  intro u hu
  obtain ⟨k, hk⟩ := List.mem_iff_getElem?.1 hu
  have hkl : k < xs.length * sz := by rw [← h.1]; exact (List.getElem?_eq_some_iff.1 hk).1
  have hj : k / sz < xs.length := Nat.div_lt_of_lt_mul (by rw [Nat.mul_comm]; exact hkl)
  have hel : k % sz < (xs[k / sz]).length := by rw [h.2.1 _ (List.getElem_mem hj)]; exact Nat.mod_lt _ hs
  obtain ⟨u', h1, _, h3⟩ := h.2.2 (k / sz) _ (k % sz) _ (List.getElem?_eq_getElem hj) (List.getElem?_eq_getElem hel)
  rw [Nat.mul_comm, Nat.div_add_mod, hk] at h1
  obtain rfl : u = u' := by injection h1
  exact h3

theorem sim_append_nil (h : SimG C G s a W) {o : Oper} {t e d : Nat} {c : Call} {sx xx : Operand} {ti : TI} {i : TypeInfo} {ys : List (List LV)} (hu : P.underlying t = some (.slice e)) (hT : TOk P e ti i)
    (ho : o.op = .call c) (hc : c.callee = .builtin .append) (hca : c.args = #[sx, xx]) (hct : c.argTypes = #[t, t]) (hd : o.dst = some d) (hdn : d < C.n)
    (hx : s.eval sx = nilV) (hy : (s.eval xx).asList = some ys) (hz : ∀ e ∈ ys, e.length = ti.size) (hs : 0 < ti.size) (hzl : ti.zero.length = ti.size) (hlen : ys.length ≤ 9223372036854775807) (hby : ys.length * ti.bytes ≤ 140737488355328) (hne : ys ≠ [])
    (hk : ∀ a' W', Sim C (((MU.tok (d + 1) (s.tv (d + 1) + 1)).apply s).put (some d) (.list ys) (d + 1, s.tv (d + 1) + 1)) a' W' → K a' W') : o.wp P a W K Q := by
  have hrx : a.eval sx = .slice none 0 0 := rd_v (by rw [show (LV.v (.slice none 0 0)) = s.eval sx from hx.symm]; exact h.eval sx)
  obtain ⟨A, cy, news, hay, _, _, hfl, hcell⟩ := flat_of_rd hs (ptr_of_asList (h.eval xx) hy) hz
  have hpos : 0 < ys.length := List.length_pos_iff.2 hne
  obtain ⟨ad, rfl, hcl⟩ := hcell hpos
  obtain ⟨z, hz0, hz1⟩ := hT.zero
  have hsz : i.size = ti.size := hT.size
  have hbb : i.bytes = ti.bytes := hT.bytes
  have hr := run_append_nil (P := P) W t o.type e i z hu hT.info hz0 ad ys.length cy news (by rw [hfl.1, hsz]) hcl hpos (by omega) (by rw [hbb]; omega)
  have hge := grownCap_ge W ys.length 0 e
  have hrun : (execOp a.eval o).run P W = .ok (.value (.slice (some ⟨W.heap.size, 0, none⟩) ys.length (grownCap W ys.length 0 e))) (W.drew.alloc (.cells (news.toArray ++ Builtin.zeroCells z.cells (grownCap W ys.length 0 e - ys.length)) e)) := by
    simp [execOp, ho, resolve, hc, hca, hct, hrx, hay, invoke, builtin, hr]
  unfold Oper.wp
  rw [hrun]
  show K (a.put o.dst _) _
  rw [hd]
  have hcm : grownCap W ys.length 0 e ≤ maxLen := grownCap_le_maxLen W _ 0 e (by simp only [maxLen]; omega)
  have hzs : z.cells.size = ti.size := by rw [← hzl, ← hz1]; simp
  refine hk _ _ (h.newOwn hdn (cur := news.toArray ++ Builtin.zeroCells z.cells (grownCap W ys.length 0 e - ys.length)) (e := e) (size := ti.size) rfl rfl rfl rfl (by omega) (by omega) hs hge hcm ?_ hpos rfl hz ?_)
  · simp only [Array.size_append, List.size_toArray, size_zeroCells, hzs, hfl.1, ← Nat.add_mul]
    congr 1
    omega
  · refine rd_of_flat hfl (W' := W.drew.alloc _) (cur := news.toArray ++ Builtin.zeroCells z.cells (grownCap W ys.length 0 e - ys.length)) (e' := e) ?_ (fun _ _ => .inl) (heap_alloc_new W.drew _) (fun k u hu => ?_) (fun o ho => .inr ⟨rfl, by rw [← hfl.1]; exact ho⟩) hge hlen
    · exact agree_of_below ⟨rfl, rfl, rfl, by simp, fun k hk => (below_alloc W.drew _).block k hk, Nat.le_succ _⟩ h.prlt
    · rw [Array.getElem?_append_left (by simpa using (List.getElem?_eq_some_iff.1 hu).1)]
      simpa using hu

theorem sim_append_own (h : SimG C G s a W) {o : Oper} {t e d : Nat} {c : Call} {sx xx : Operand} {ti : TI} {i : TypeInfo} {xs ys : List (List LV)} (hu : P.underlying t = some (.slice e)) (hT : TOk P e ti i)
    (ho : o.op = .call c) (hc : c.callee = .builtin .append) (hca : c.args = #[sx, xx]) (hct : c.argTypes = #[t, t]) (hd : o.dst = some d) (hdn : d < C.n)
    (hx : s.eval sx = .list xs) (hxz : ∀ e ∈ xs, e.length = ti.size) (ht0 : (s.tag sx).1 ≠ 0) (htv : (s.tag sx).2 = s.tv (s.tag sx).1)
    (hy : (s.eval xx).asList = some ys) (hz : ∀ e ∈ ys, e.length = ti.size) (hs : 0 < ti.size) (hzl : ti.zero.length = ti.size) (hlen : xs.length + ys.length ≤ 9223372036854775807) (hby : (xs.length + ys.length) * ti.bytes ≤ 140737488355328) (hne : ys ≠ [])
    (hk : ∀ a' W', Sim C (((MU.tok (s.tag sx).1 ((s.tag sx).2 + 1)).apply s).put (some d) (.list (xs ++ ys)) ((s.tag sx).1, (s.tag sx).2 + 1)) a' W' → K a' W') : o.wp P a W K Q := by
  obtain ⟨htv', hown⟩ := h.tagE sx
  obtain ⟨w, xs', how, hax, hl, hxn, hn0, hwz⟩ := hown ht0 htv
  rw [hx] at hl
  obtain rfl : xs = xs' := by injection hl
  obtain ⟨hbg, ⟨cur, hh, hcs⟩, hnc, hcm, hsp, hpr, hbx⟩ := h.own _ w how
  obtain ⟨A, cy, news, hay, _, _, hfl, hcell⟩ := flat_of_rd hs (ptr_of_asList (h.eval xx) hy) hz
  have hrx : Rd G.Pr W (.list xs) (a.eval sx) := by have := h.eval sx; rw [hx] at this; exact this
  obtain ⟨A2, cx, olds, hax2, _, _, hfx, hcellx⟩ := flat_of_rd hs hrx hxz
  have hpos : 0 < ys.length := List.length_pos_iff.2 hne
  have hposx : 0 < xs.length := by omega
  obtain ⟨ad, rfl, hcl⟩ := hcell hpos
  obtain ⟨adx, rfl, hclx⟩ := hcellx hposx
  rw [hax] at hax2
  injection hax2 with e1 e2 e3
  injection e1 with e1
  subst e1
  have hw : w.size = ti.size := by
    rw [← hwz _ (List.getElem_mem hposx), hxz _ (List.getElem_mem hposx)]
  obtain ⟨z, hz0, hz1⟩ := hT.zero
  have hsz : i.size = ti.size := hT.size
  have hbb : i.bytes = ti.bytes := hT.bytes
  have hzs : z.cells.size = ti.size := by rw [← hzl, ← hz1]; simp
  have hxyz : ∀ e ∈ xs ++ ys, e.length = ti.size := fun e he => (List.mem_append.1 he).elim (hxz e) (hz e)
  by_cases hroom : w.n + ys.length ≤ w.cap
  · have hfit : w.n * ti.size + news.length ≤ cur.size := by rw [hfl.1, hcs, hw, ← Nat.add_mul]; exact Nat.mul_le_mul_right _ hroom
    have hf := run_firstCells_some (P := P) W i.size ys.length ad ys.length cy news (by rw [hfl.1, hsz]) hcl
    have hst := run_storeCells_at P w.g (w.n * i.size) w.e news 0 cur W hh (by simpa [hsz] using hfit) (hfl.ones hs)
    simp only [Nat.add_zero] at hst
    have hr : (Builtin.append_ #[t, t] o.type #[.slice (some ⟨w.g, 0, none⟩) w.n w.cap, .slice (some ad) ys.length cy]).run P W =
        .ok (.slice (some ⟨w.g, 0, none⟩) (w.n + ys.length) w.cap) (W.setRow w.g (cur.toList.take (w.n * i.size) ++ news ++ cur.toList.drop (w.n * i.size + news.length)).toArray) := by
      simp [Builtin.append_, run_underlying hu, sizeOf, typeInfo, hT.info, Builtin.lenOf, hroom, hf, Addr.add_lit, hst]
    have hrun : (execOp a.eval o).run P W = .ok (.value (.slice (some ⟨w.g, 0, none⟩) (w.n + ys.length) w.cap)) (W.setRow w.g (cur.toList.take (w.n * i.size) ++ news ++ cur.toList.drop (w.n * i.size + news.length)).toArray) := by
      simp only [execOp, ho, resolve, hc, hca, hct, hax, hay, invoke, builtin, List.map_toArray, List.map_cons, List.map_nil, Sem.run_bind, Sem.run_pure, Result.andThen_ok, hr]
    unfold Oper.wp
    rw [hrun]
    show K (a.put o.dst _) _
    rw [hd]
    rw [hsz] at *
    have htk : ∀ (k : Nat) (u : Value), (olds ++ news)[k]? = some u → (cur.toList.take (w.n * ti.size) ++ news ++ cur.toList.drop (w.n * ti.size + news.length)).toArray[k]? = some u := by
      intro k u hku
      have hol : olds.length = w.n * ti.size := by rw [hfx.1, hxn]
      have hcl : (cur.toList.take (w.n * ti.size)).length = w.n * ti.size := by
        rw [List.length_take, Array.length_toList]; omega
      rw [List.getElem?_toArray]
      by_cases hko : k < olds.length
      · rw [List.getElem?_append_left hko] at hku
        rw [List.append_assoc, List.getElem?_append_left (by rw [hcl, ← hol]; exact hko), List.getElem?_take, if_pos (by rw [← hol]; exact hko)]
        have h3 := hclx k u hku
        rw [add_lit, Nat.zero_add, cell_box hh] at h3
        simpa using h3
      · rw [List.getElem?_append_right (by omega)] at hku
        rw [List.append_assoc, List.getElem?_append_right (by rw [hcl, ← hol]; omega), hcl, ← hol]
        rw [List.getElem?_append_left (List.getElem?_eq_some_iff.1 hku).1]
        exact hku
    have hres := h.growOwn (tk := (s.tag sx).1) (ver := (s.tag sx).2 + 1) (d := d) (w := w) (cur := cur) (row := (cur.toList.take (w.n * ti.size) ++ news ++ cur.toList.drop (w.n * ti.size + news.length)).toArray) (n' := w.n + ys.length) (xs := xs ++ ys)
      hdn how hh ?_ ?_ ht0 (by omega) (by omega) hroom (by omega) (by rw [List.length_append, hxn]) (by rw [hw]; exact hxyz) ?_
    · exact hk _ _ hres
    · simp only [List.size_toArray, List.length_append, List.length_take, List.length_drop, Array.length_toList]; omega
    · intro o ho
      rw [hw] at ho
      rw [List.getElem?_toArray, List.append_assoc, List.getElem?_append_left (by rw [List.length_take, Array.length_toList]; omega), List.getElem?_take, if_pos ho]
      simp
    · have hag : Agree G.Pr W (W.setRow w.g (cur.toList.take (w.n * ti.size) ++ news ++ cur.toList.drop (w.n * ti.size + news.length)).toArray) := by
        intro x hx
        by_cases hb : x.block = w.g
        · have hlt := hpr _ (hb ▸ hx)
          rw [hw] at hlt
          unfold World.cell?
          rw [hb, hh, setRow_heap W w.g cur _ w.e _ hh]
          simp only [List.getElem?_toArray]
          rw [List.append_assoc, List.getElem?_append_left (by rw [List.length_take, Array.length_toList]; omega), List.getElem?_take, if_pos hlt]
          simp
        · exact World.cell?_of_block (w := W) (setRow_other W w.g x.block _ hb)
      have := rd_of_flat (Pr' := fun k o => G.Pr k o ∨ (k = w.g ∧ o < (w.n + ys.length) * w.size)) (g := w.g) (cap := w.cap) (hfx.append hfl) hag (fun _ _ => .inl) (setRow_heap W w.g cur _ w.e _ hh) htk (fun o ho => .inr ⟨rfl, by
        rw [List.length_append, hfx.1, hfl.1, ← Nat.add_mul, hxn] at ho
        rw [hw]; exact ho⟩) (by rw [List.length_append, hxn]; exact hroom) (by rw [List.length_append]; exact hlen)
      rwa [List.length_append, hxn] at this
  · have hr := run_append_grow (P := P) W t o.type e i z hu hT.info hz0 ⟨w.g, 0, none⟩ w.n w.cap olds (by rw [hfx.1, hsz, hxn]) hclx ad ys.length cy news (by rw [hfl.1, hsz]) hcl (by omega) (by omega) (growslice_fits (by omega) (by rw [hbb, ← hxn]; exact hby))
    have hge := grownCap_ge W (w.n + ys.length) w.cap e
    have hrun : (execOp a.eval o).run P W = .ok (.value (.slice (some ⟨W.heap.size, 0, none⟩) (w.n + ys.length) (grownCap W (w.n + ys.length) w.cap e))) (W.drew.alloc (.cells (olds.toArray ++ news.toArray ++ Builtin.zeroCells z.cells (grownCap W (w.n + ys.length) w.cap e - (w.n + ys.length))) e)) := by
      simp only [execOp, ho, resolve, hc, hca, hct, hax, hay, invoke, builtin, List.map_toArray, List.map_cons, List.map_nil, Sem.run_bind, Sem.run_pure, Result.andThen_ok, hr]
    unfold Oper.wp
    rw [hrun]
    show K (a.put o.dst _) _
    rw [hd]
    have hcm' : grownCap W (w.n + ys.length) w.cap e ≤ maxLen := grownCap_le_maxLen W _ _ e (by simp only [maxLen]; omega)
    refine hk _ _ (h.newOwn hdn (cur := olds.toArray ++ news.toArray ++ Builtin.zeroCells z.cells (grownCap W (w.n + ys.length) w.cap e - (w.n + ys.length))) (e := e) (size := ti.size) rfl rfl rfl rfl ht0 (by omega) hs hge hcm' ?_ (by omega) (by rw [List.length_append, hxn]) hxyz ?_)
    · simp only [Array.size_append, List.size_toArray, size_zeroCells, hzs, hfl.1, hfx.1, hxn, ← Nat.add_mul]
      congr 1
      omega
    · have := rd_of_flat (Pr' := fun k o => G.Pr k o ∨ (k = W.heap.size ∧ o < (w.n + ys.length) * ti.size)) (g := W.heap.size) (cap := grownCap W (w.n + ys.length) w.cap e) (W' := W.drew.alloc (.cells (olds.toArray ++ news.toArray ++ Builtin.zeroCells z.cells (grownCap W (w.n + ys.length) w.cap e - (w.n + ys.length))) e)) (hfx.append hfl)
        (agree_of_below ⟨rfl, rfl, rfl, by simp, fun k hk => (below_alloc W.drew _).block k hk, Nat.le_succ _⟩ h.prlt) (fun _ _ => .inl) (heap_alloc_new W.drew _) (fun k u hu => ?_) (fun o ho => .inr ⟨rfl, by
          rw [List.length_append, hfx.1, hfl.1, ← Nat.add_mul, hxn] at ho; exact ho⟩) (by rw [List.length_append, hxn]; exact hge) (by rw [List.length_append]; exact hlen)
      · rwa [List.length_append, hxn] at this
      · rw [Array.getElem?_append_left (by have := (List.getElem?_eq_some_iff.1 hu).1; simpa using this)]
        simpa using hu
end
end Go.LI
