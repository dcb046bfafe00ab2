/- Texts of a small semantics over the model and of specifications of functions, joined: LIRow. -/
import Derived.Test.YtlnndndpaakjfaaGreatDoorP05
set_option linter.unusedSimpArgs false
set_option linter.unusedVariables false
/- Rows of the frame's own: objects that grow under a new name. -/
namespace Go.LI
open Go Go.RowKit

section
variable {C : Ctx} {G : Gh} {s : S} {a : Act} {W : World}
variable {P : Program} {τ : Tab} {Γ : Env} {K : Act → World → Prop} {Q : Exit → Act → World → Prop}

def S.kill (s : S) (d g : Nat) : S := { s with b := fun x y => if x = d ∧ y = g then none else s.b x y }

/-- An object less. -/
theorem SimG.kill (h : SimG C G s a W) (d g : Nat) : SimG C G (s.kill d g) a W := by
  have hsome : ∀ x y, ((s.kill d g).b x y).isSome → (s.b x y).isSome ∧ ¬ (x = d ∧ y = g) := by
    intro x y hxy
    simp only [S.kill] at hxy
    split at hxy
    · cases hxy
    · rename_i hk; exact ⟨hxy, hk⟩
  refine ⟨h.ex.step (.refl _ _) (fun _ _ h _ => h) h.pr0 (.refl _ _) (fun _ => Nat.le_refl _) (fun _ _ _ => ⟨rfl, rfl, rfl⟩) (fun x y _ hn => by simp only [S.kill, hn, ite_self]) rfl (fun x y hxy => h.ex.yo2 x y (hsome x y hxy).1) h.ex.yo3 ⟨rfl, rfl, rfl⟩ (fun _ _ => id) (fun _ _ => .inl), h.size, h.below, fun x y hxy hm => h.mkd x y (hsome x y hxy).1 hm, h.base_le, h.prb, h.pr0, h.pr, h.temp, h.tag, ?_, ?_, ?_, h.wf, ?_, h.ownne, h.prx⟩
  · intro x y cells hxy
    obtain ⟨h1, h2⟩ := hsome x y (by rw [hxy]; rfl)
    have : s.b x y = some cells := by simpa only [S.kill, if_neg h2] using hxy
    exact h.box x y cells this
  · exact fun x y x' y' h1 h2 he => h.inj x y x' y' (hsome _ _ h1).1 (hsome _ _ h2).1 he
  · exact fun x y h1 => h.gen x y (hsome _ _ h1).1
  · intro tok w hw
    obtain ⟨h1, h2, h3, h4, h5, h6, h7⟩ := h.own tok w hw
    exact ⟨h1, h2, h3, h4, h5, h6, fun x y hxy => h7 x y (hsome _ _ hxy).1⟩

/-- An object under a new name. -/
theorem SimG.rekey (h : SimG C G s a W) {d0 g0 d : Nat} {cells : List (LV × Tag)} (hb : s.b d0 g0 = some cells) :
    SimG C (G.newKey d (s.g d + 1) (G.β d0 g0) (G.rc d0 g0) (G.rz d0 g0)) ((MU.renew d0 g0 d cells).apply s) a W := by
  have hag : Agree G.Pr W W := fun _ _ => rfl
  have hg0 : ¬ (d0 = d ∧ g0 = s.g d + 1) := by
    rintro ⟨rfl, rfl⟩
    have := h.gen _ _ (by rw [hb]; rfl : (s.b d0 (s.g d0 + 1)).isSome = true)
    omega
  have hne : ∀ x y, (s.b x y).isSome → ¬ (x = d ∧ y = s.g d + 1) := by
    rintro x y hxy ⟨rfl, rfl⟩
    have := h.gen _ _ hxy
    omega
  have hgg : ∀ x, s.g x ≤ upd s.g d (s.g d + 1) x := by
    intro x
    by_cases hx : x = d
    · subst hx; simp only [upd, if_true]; omega
    · simp only [upd, hx, if_false]; exact Nat.le_refl _
  have hcase : ∀ x y c, ((MU.renew d0 g0 d cells).apply s).b x y = some c → (x = d ∧ y = s.g d + 1 ∧ c = cells) ∨ (¬ (x = d ∧ y = s.g d + 1) ∧ ¬ (x = d0 ∧ y = g0) ∧ s.b x y = some c) := by
    intro x y c hxy
    simp only [MU.apply] at hxy
    split at hxy
    · rename_i hk; cases hxy; exact .inl ⟨hk.1, hk.2, rfl⟩
    · rename_i hk
      split at hxy
      · cases hxy
      · rename_i hk'; exact .inr ⟨hk, hk', hxy⟩
  have hsome : ∀ x y, (((MU.renew d0 g0 d cells).apply s).b x y).isSome → (x = d ∧ y = s.g d + 1) ∨ (¬ (x = d ∧ y = s.g d + 1) ∧ ¬ (x = d0 ∧ y = g0) ∧ (s.b x y).isSome) := by
    intro x y hxy
    obtain ⟨c, hc⟩ := Option.isSome_iff_exists.1 hxy
    rcases hcase x y c hc with ⟨e1, e2, _⟩ | ⟨h1, h2, h3⟩
    · exact .inl ⟨e1, e2⟩
    · exact .inr ⟨h1, h2, by rw [h3]; rfl⟩
  refine ⟨h.ex.step (.refl _ _) (fun _ _ h _ => h) h.pr0 hag hgg (fun x y hy => by have hn : ¬ (x = d ∧ y = s.g d + 1) := (by rintro ⟨rfl, rfl⟩; omega); simp only [Gh.newKey, if_neg hn, and_self]) (fun x y hy hn0 => by have hn : ¬ (x = d ∧ y = s.g d + 1) := (by rintro ⟨rfl, rfl⟩; omega); simp only [MU.apply, if_neg hn, hn0, ite_self]) rfl (fun x y hxy => ?_) h.ex.yo3 ⟨rfl, rfl, rfl⟩ (fun _ _ => id) (fun _ _ => .inl), h.size, h.below, fun x y hxy hm => ?_, h.base_le, h.prb, h.pr0, h.pr, fun i => (h.temp i).move' hag (fun _ _ => id) (newKey_old (h.wf i)), h.tag, ?_, ?_, ?_, fun i k hk => Nat.le_trans (h.wf i k hk) (hgg _), ?_, h.ownne, h.prx⟩
  · rcases hsome x y hxy with hk | ⟨k1, _, k3⟩
    · simp only [Gh.newKey, if_pos hk]; exact h.ex.yo2 d0 g0 (by rw [hb]; rfl)
    · simp only [Gh.newKey, if_neg k1]; exact h.ex.yo2 x y k3
  · simp only [MU.apply] at hm
    rcases hsome x y hxy with hk | ⟨k1, _, k3⟩
    · rw [if_pos hk] at hm
      simp only [Gh.newKey, if_pos hk]
      exact h.mkd d0 g0 (by rw [hb]; rfl) hm
    · rw [if_neg k1] at hm
      simp only [Gh.newKey, if_neg k1]
      exact h.mkd x y k3 hm
  · intro x y c hxy
    rcases hcase x y c hxy with ⟨rfl, rfl, rfl⟩ | ⟨h1, _, h3⟩
    · obtain ⟨b1, ⟨cur, e, hh, hsz, hcz, hr⟩, b3⟩ := h.box d0 g0 c hb
      simp only [Gh.newKey, and_self, if_true]
      refine ⟨b1, ⟨cur, e, hh, hsz, hcz, fun j l tg u h4 h5 => ?_⟩, b3⟩
      obtain ⟨a1, a2, a3, a4⟩ := hr j l tg u h4 h5
      exact ⟨a1.move' hag (fun _ _ => id) (newKey_old a4), a2, a3, fun k hk => Nat.le_trans (a4 k hk) (hgg _)⟩
    · obtain ⟨b1, ⟨cur, e, hh, hsz, hcz, hr⟩, b3⟩ := h.box x y c h3
      simp only [Gh.newKey, if_neg h1]
      refine ⟨b1, ⟨cur, e, hh, hsz, hcz, fun j l tg u h4 h5 => ?_⟩, b3⟩
      obtain ⟨a1, a2, a3, a4⟩ := hr j l tg u h4 h5
      exact ⟨a1.move' hag (fun _ _ => id) (newKey_old a4), a2, a3, fun k hk => Nat.le_trans (a4 k hk) (hgg _)⟩
  · intro x y x' y' h1 h2 he
    rcases hsome x y h1 with hk | ⟨k1, k2, k3⟩ <;> rcases hsome x' y' h2 with hk' | ⟨k1', k2', k3'⟩
    · exact ⟨hk.1.trans hk'.1.symm, hk.2.trans hk'.2.symm⟩
    · simp only [Gh.newKey, if_pos hk, if_neg k1'] at he
      exact absurd ⟨(h.inj _ _ _ _ (by rw [hb]; rfl) k3' he).1.symm, (h.inj _ _ _ _ (by rw [hb]; rfl) k3' he).2.symm⟩ k2'
    · simp only [Gh.newKey, if_pos hk', if_neg k1] at he
      exact absurd (h.inj _ _ _ _ k3 (by rw [hb]; rfl) he) k2
    · simp only [Gh.newKey, if_neg k1, if_neg k1'] at he
      exact h.inj _ _ _ _ k3 k3' he
  · intro x y h1
    show y ≤ upd s.g d (s.g d + 1) x
    rcases hsome x y h1 with ⟨rfl, rfl⟩ | ⟨_, _, hk⟩
    · simp [upd]
    · exact Nat.le_trans (h.gen x y hk) (hgg x)
  · intro tok w hw
    obtain ⟨b1, b2, b3, b4, b5, b6, b7⟩ := h.own tok w hw
    refine ⟨b1, b2, b3, b4, b5, b6, fun x y hxy => ?_⟩
    rcases hsome x y hxy with hk | ⟨k1, _, k3⟩
    · simp only [Gh.newKey, if_pos hk]; exact b7 d0 g0 (by rw [hb]; rfl)
    · simp only [Gh.newKey, if_neg k1]; exact b7 x y k3

theorem flatten_get {α : Type} {sz : Nat} (hs : 0 < sz) : ∀ (ys : List (List α)) (j : Nat) l, (∀ e ∈ ys, e.length = sz) → ys.flatten[j]? = some l → ∃ e, ys[j / sz]? = some e ∧ e[j % sz]? = some l
  | [], j, l, _, h => by simp at h
  | y :: ys, j, l, hz, h => by
    rw [List.flatten_cons] at h
    have hy := hz y (by simp)
    by_cases hj : j < y.length
    · rw [List.getElem?_append_left hj] at h
      have h1 : j / sz = 0 := Nat.div_eq_of_lt (by omega)
      have h2 : j % sz = j := Nat.mod_eq_of_lt (by omega)
      exact ⟨y, by rw [h1]; rfl, by rw [h2]; exact h⟩
    · rw [List.getElem?_append_right (by omega)] at h
      obtain ⟨e, h1, h2⟩ := flatten_get hs ys (j - y.length) l (fun e he => hz e (by simp [he])) h
      have e1 : j / sz = (j - sz) / sz + 1 := by
        have : j = (j - sz) + sz := by omega
        conv => lhs; rw [this]
        rw [Nat.add_div_right _ hs]
      have e2 : j % sz = (j - sz) % sz := Nat.mod_eq_sub_mod (by omega)
      rw [hy] at h1 h2
      exact ⟨e, by rw [e1, List.getElem?_cons_succ]; exact h1, by rw [e2]; exact h2⟩

theorem flatten_len {α : Type} {sz : Nat} (ys : List (List α)) (h : ∀ e ∈ ys, e.length = sz) : ys.flatten.length = ys.length * sz := by
  induction ys with
  | nil => simp
  | cons y ys ih => rw [List.flatten_cons, List.length_append, ih (fun e he => h e (by simp [he])), h y (by simp), List.length_cons, Nat.succ_mul, Nat.add_comm]

/-- The cells of a list, in line. -/
theorem flat_cells {Pr : Nat → Nat → Prop} {ys : List (List LV)} {sz : Nat} {vs : List Value} (hs : 0 < sz) (h : Flat Pr W ys sz vs) {j : Nat} {l : LV} (hl : ys.flatten[j]? = some l) : ∃ u, vs[j]? = some u ∧ Rd Pr W l u ∧ u.oneCell' = true := by
  obtain ⟨e, h1, h2⟩ := flatten_get hs ys j l h.2.1 hl
  have := h.2.2 _ e _ l h1 h2
  rwa [Nat.mul_comm, Nat.div_add_mod] at this

theorem sim_append_newRow (h : SimG C G s a W) {o : Oper} {t e d : Nat} {c : Call} {sx xx : Operand} {ti : TI} {i : TypeInfo} {ys : List (List LV)} (hu : P.underlying t = some (.slice e)) (hT : TOk P e ti i)
    (ho : o.op = .call c) (hc : c.callee = .builtin .append) (hca : c.args = #[sx, xx]) (hct : c.argTypes = #[t, t]) (hd : o.dst = some d) (hdn : d < C.n)
    (hx : s.eval sx = nilV) (hy : (s.eval xx).asList = some ys) (hz : ∀ e ∈ ys, e.length = ti.size) (hs : 0 < ti.size) (hzl : ti.zero.length = ti.size) (hlen : ys.length ≤ 9223372036854775807) (hby : ys.length * ti.bytes ≤ 140737488355328) (hne : ys ≠ [])
    (hk : ∀ a' W', Sim C (((MU.box d (ys.flatten.map fun c => (c, (0, 0)))).apply s).put (some d) (.rs d (s.g d + 1) 0 ys.length ti.size)) a' W' → K a' W') : o.wp P a W K Q := by
  have hrx : a.eval sx = .slice none 0 0 := rd_v (by rw [show (LV.v (.slice none 0 0)) = s.eval sx from hx.symm]; exact h.eval sx)
  obtain ⟨A, cy, news, hay, _, _, hfl, hcell⟩ := flat_of_rd hs (ptr_of_asList (h.eval xx) hy) hz
  have hpos : 0 < ys.length := List.length_pos_iff.2 hne
  obtain ⟨ad, rfl, hcl⟩ := hcell hpos
  obtain ⟨z, hz0, hz1⟩ := hT.zero
  have hsz : i.size = ti.size := hT.size
  have hbb : i.bytes = ti.bytes := hT.bytes
  have hr := run_append_nil (P := P) W t o.type e i z hu hT.info hz0 ad ys.length cy news (by rw [hfl.1, hsz]) hcl hpos (by omega) (by rw [hbb]; omega)
  have hge := grownCap_ge W ys.length 0 e
  have hrun : (execOp a.eval o).run P W = .ok (.value (.slice (some ⟨W.heap.size, 0, none⟩) ys.length (grownCap W ys.length 0 e))) (W.drew.alloc (.cells (news.toArray ++ Builtin.zeroCells z.cells (grownCap W ys.length 0 e - ys.length)) e)) := by
    simp [execOp, ho, resolve, hc, hca, hct, hrx, hay, invoke, builtin, hr]
  unfold Oper.wp
  rw [hrun]
  show K (a.put o.dst _) _
  rw [hd]
  have hcm : grownCap W ys.length 0 e ≤ maxLen := grownCap_le_maxLen W _ 0 e (by simp only [maxLen]; omega)
  have hzs : z.cells.size = ti.size := by rw [← hzl, ← hz1]; simp
  have hcur : (news.toArray ++ Builtin.zeroCells z.cells (grownCap W ys.length 0 e - ys.length)).size = grownCap W ys.length 0 e * ti.size := by
    simp only [Array.size_append, List.size_toArray, size_zeroCells, hzs, hfl.1, ← Nat.add_mul]
    congr 1
    omega
  refine hk _ _ ⟨_, (h.newObj (W' := W.drew.alloc _) (cap := grownCap W ys.length 0 e) (sz := ti.size) ?_ (fun _ => ⟨hcur, hcm⟩) (fun j l tg u h1 h2 => ?_) rfl rfl rfl rfl).put hdn ?_ .zero ?_⟩
  · rw [List.length_map, flatten_len ys hz, hcur]
    exact Nat.mul_le_mul_right _ hge
  · rw [List.getElem?_map] at h1
    obtain ⟨l', hl', he⟩ := Option.map_eq_some_iff.1 h1
    obtain ⟨rfl, rfl⟩ : l' = l ∧ (0, 0) = tg := by simpa using he
    obtain ⟨u', a1, a2, a3⟩ := flat_cells hs hfl hl'
    have : u' = u := by
      rw [Array.getElem?_append_left (by simpa using (List.getElem?_eq_some_iff.1 a1).1)] at h2
      have h3 : news[j]? = some u := by simpa using h2
      rw [a1] at h3
      injection h3
    subst this
    exact ⟨RepT.of_rd a2, a3, .zero, fun k hk => by rw [keys_of_rd a2] at hk; cases hk⟩
  · exact ⟨by simp [Gh.newKey], hs, by simpa [Gh.newKey] using hge, _, _, rfl, hge, fun _ => ⟨by simp [Gh.newKey], by simp [Gh.newKey]⟩⟩
  · intro k hk
    simp only [LV.keys, List.mem_singleton] at hk
    subst hk
    simp [MU.apply]

theorem sim_append_row (h : SimG C G s a W) {o : Oper} {t e d d0 g0 n sz : Nat} {c : Call} {sx xx : Operand} {ti : TI} {i : TypeInfo} {ys : List (List LV)} {cells : List (LV × Tag)} (hu : P.underlying t = some (.slice e)) (hT : TOk P e ti i)
    (ho : o.op = .call c) (hc : c.callee = .builtin .append) (hca : c.args = #[sx, xx]) (hct : c.argTypes = #[t, t]) (hd : o.dst = some d) (hdn : d < C.n)
    (hx : s.eval sx = .rs d0 g0 0 n sz) (hsz : sz = ti.size) (hb : s.b d0 g0 = some cells) (hcl : cells.length = n * sz)
    (hy : (s.eval xx).asList = some ys) (hz : ∀ e ∈ ys, e.length = ti.size) (hs : 0 < ti.size) (hzl : ti.zero.length = ti.size) (hlen : n + ys.length ≤ 9223372036854775807) (hby : (n + ys.length) * ti.bytes ≤ 140737488355328) (hne : ys ≠ [])
    (hk : ∀ a' W', Sim C (((MU.renew d0 g0 d (cells ++ ys.flatten.map fun c => (c, (0, 0)))).apply s).put (some d) (.rs d (s.g d + 1) 0 (n + ys.length) sz)) a' W' → K a' W') : o.wp P a W K Q := by
  subst hsz
  obtain ⟨hrz, _, hnc, A, c0, hax, hnc0, hA⟩ := rs_of h hx
  obtain ⟨rfl, hc0⟩ := hA (.inr rfl)
  simp only [Nat.zero_add, Nat.add_zero, Nat.zero_mul] at hnc hc0 hax
  subst hc0
  obtain ⟨hbg, ⟨cur, e', hh, hcsz, hcz, hrep⟩, hpr⟩ := h.box d0 g0 cells hb
  obtain ⟨hcs, hcm⟩ := hcz (by omega)
  rw [hrz] at hcs
  obtain ⟨Ay, cy, news, hay, _, _, hfl, hcell⟩ := flat_of_rd hs (ptr_of_asList (h.eval xx) hy) hz
  have hpos : 0 < ys.length := List.length_pos_iff.2 hne
  obtain ⟨ad, rfl, hcln⟩ := hcell hpos
  obtain ⟨z, hz0, hz1⟩ := hT.zero
  have hszi : i.size = ti.size := hT.size
  have hbb : i.bytes = ti.bytes := hT.bytes
  have hzs : z.cells.size = ti.size := by rw [← hzl, ← hz1]; simp
  -- what the cells hold, old ones and new ones
  have hold : ∀ (j : Nat) l tg, cells[j]? = some (l, tg) → cur[j]? = some (cur.getD j undef) ∧ RepT G W l (cur.getD j undef) ∧ (cur.getD j undef).oneCell' = true ∧ TagOK G s tg l (cur.getD j undef) ∧ ∀ k ∈ l.keys, k.2 ≤ s.g k.1 := by
    intro j l tg hj
    have h2 : j < cur.size := Nat.lt_of_lt_of_le (List.getElem?_eq_some_iff.1 hj).1 hcsz
    have h3 : cur[j]? = some (cur.getD j undef) := by simp [h2]
    exact ⟨h3, hrep j l tg _ hj h3⟩
  have hnew : ∀ (j : Nat) l tg, (ys.flatten.map fun c => (c, ((0, 0) : Tag)))[j]? = some (l, tg) → ∃ u, news[j]? = some u ∧ RepT G W l u ∧ u.oneCell' = true ∧ TagOK G s tg l u ∧ ∀ k ∈ l.keys, k.2 ≤ s.g k.1 := by
    intro j l tg h1
    rw [List.getElem?_map] at h1
    obtain ⟨l', hl', he⟩ := Option.map_eq_some_iff.1 h1
    obtain ⟨rfl, rfl⟩ : l' = l ∧ (0, 0) = tg := by simpa using he
    obtain ⟨u', a1, a2, a3⟩ := flat_cells hs hfl hl'
    exact ⟨u', a1, RepT.of_rd a2, a3, .zero, fun k hk => by rw [keys_of_rd a2] at hk; cases hk⟩
  have hfll : (ys.flatten.map fun c => (c, ((0, 0) : Tag))).length = ys.length * ti.size := by rw [List.length_map, flatten_len ys hz]
  have hkeyput : ∀ {G' : Gh} {W' : World} {b : Nat}, SimG C (G'.newKey d (s.g d + 1) b (if n + ys.length ≤ G.rc d0 g0 then G.rc d0 g0 else grownCap W (n + ys.length) (G.rc d0 g0) e) ti.size) ((MU.renew d0 g0 d (cells ++ ys.flatten.map fun c => (c, (0, 0)))).apply s) a W' →
      n + ys.length ≤ (if n + ys.length ≤ G.rc d0 g0 then G.rc d0 g0 else grownCap W (n + ys.length) (G.rc d0 g0) e) →
      Sim C (((MU.renew d0 g0 d (cells ++ ys.flatten.map fun c => (c, (0, 0)))).apply s).put (some d) (.rs d (s.g d + 1) 0 (n + ys.length) ti.size)) (a.put (some d) (.slice (some ⟨b, 0, none⟩) (n + ys.length) (if n + ys.length ≤ G.rc d0 g0 then G.rc d0 g0 else grownCap W (n + ys.length) (G.rc d0 g0) e))) W' := by
    intro G' W' b hS hle
    refine ⟨_, hS.put hdn ⟨by simp [Gh.newKey], hs, by simpa [Gh.newKey] using hle, _, _, rfl, hle, fun _ => ⟨by simp [Gh.newKey], by simp [Gh.newKey]⟩⟩ .zero ?_⟩
    intro k hk
    simp only [LV.keys, List.mem_singleton] at hk
    subst hk
    simp [MU.apply]
  by_cases hroom : n + ys.length ≤ G.rc d0 g0
  · simp only [if_pos hroom] at hkeyput
    have hfit : n * ti.size + news.length ≤ cur.size := by rw [hfl.1, hcs, ← Nat.add_mul]; exact Nat.mul_le_mul_right _ hroom
    have hf := run_firstCells_some (P := P) W i.size ys.length ad ys.length cy news (by rw [hfl.1, hszi]) hcln
    have hst := run_storeCells_at P (G.β d0 g0) (n * i.size) e' news 0 cur W hh (by simpa [hszi] using hfit) (hfl.ones hs)
    simp only [Nat.add_zero] at hst
    have hr : (Builtin.append_ #[t, t] o.type #[.slice (some ⟨G.β d0 g0, 0, none⟩) n (G.rc d0 g0), .slice (some ad) ys.length cy]).run P W =
        .ok (.slice (some ⟨G.β d0 g0, 0, none⟩) (n + ys.length) (G.rc d0 g0)) (W.setRow (G.β d0 g0) (cur.toList.take (n * i.size) ++ news ++ cur.toList.drop (n * i.size + news.length)).toArray) := by
      simp [Builtin.append_, run_underlying hu, sizeOf, typeInfo, hT.info, Builtin.lenOf, hroom, hf, Addr.add_lit, hst]
    have hrun : (execOp a.eval o).run P W = .ok (.value (.slice (some ⟨G.β d0 g0, 0, none⟩) (n + ys.length) (G.rc d0 g0))) (W.setRow (G.β d0 g0) (cur.toList.take (n * i.size) ++ news ++ cur.toList.drop (n * i.size + news.length)).toArray) := by
      simp only [execOp, ho, resolve, hc, hca, hct, hax, hay, invoke, builtin, List.map_toArray, List.map_cons, List.map_nil, Sem.run_bind, Sem.run_pure, Result.andThen_ok, hr]
    unfold Oper.wp
    rw [hrun]
    show K (a.put o.dst _) _
    rw [hd, hszi]
    have hover : (cur.toList.take (n * ti.size) ++ news ++ cur.toList.drop (n * ti.size + news.length)) = over (n * ti.size) news cur.toList := rfl
    rw [hover]
    have hfit2 : n * ti.size + news.length ≤ cur.toList.length := by simpa using hfit
    have hset := h.setObj (cells' := cells ++ ys.flatten.map fun c => (c, (0, 0))) (row := (over (n * ti.size) news cur.toList).toArray) hb hh (by rw [List.size_toArray, over_length hfit2, Array.length_toList])
      (by rw [List.size_toArray, over_length hfit2, List.length_append, hfll, hcl, ← hfl.1]; exact hfit2) (fun j l tg u h4 h5 => by
        rw [List.getElem?_toArray, over_get hfit2] at h5
        by_cases hj : j < cells.length
        · rw [List.getElem?_append_left hj] at h4
          rw [if_neg (by omega)] at h5
          obtain ⟨b1, b2⟩ := hold j l tg h4
          rw [Array.getElem?_toList, b1] at h5
          injection h5 with h5
          subst h5
          exact b2
        · rw [List.getElem?_append_right (by omega)] at h4
          obtain ⟨u', b1, b2⟩ := hnew _ l tg h4
          have hlt := (List.getElem?_eq_some_iff.1 b1).1
          rw [if_pos (by omega), ← hcl, b1] at h5
          injection h5 with h5
          subst h5
          exact b2)
    have hre := hset.rekey (d0 := d0) (g0 := g0) (d := d) (cells := cells ++ ys.flatten.map fun c => (c, (0, 0))) (by simp)
    have e1 : (MU.renew d0 g0 d (cells ++ ys.flatten.map fun c => (c, (0, 0)))).apply { s with b := fun x y => if x = d0 ∧ y = g0 then some (cells ++ ys.flatten.map fun c => (c, (0, 0))) else s.b x y } = (MU.renew d0 g0 d (cells ++ ys.flatten.map fun c => (c, (0, 0)))).apply s := by
      simp only [MU.apply, S.mk.injEq, true_and, and_true]
      funext x y
      split
      · rfl
      · split <;> rfl
    rw [e1] at hre
    rw [hrz] at hre
    exact hk _ _ (hkeyput hre hroom)
  · simp only [if_neg hroom] at hkeyput
    have holds : ∀ (k : Nat) u, ((List.range (n * ti.size)).map fun k => cur.getD k undef)[k]? = some u → k < n * ti.size ∧ cur[k]? = some u ∧ u = cur.getD k undef := by
      intro k u hku
      have hkl : k < n * ti.size := by have := (List.getElem?_eq_some_iff.1 hku).1; simpa using this
      rw [List.getElem?_map, List.getElem?_range hkl] at hku
      simp only [Option.map_some, Option.some.injEq] at hku
      have : k < cur.size := by omega
      refine ⟨hkl, ?_, hku.symm⟩
      rw [← hku]
      simp [this]
    have hr := run_append_grow (P := P) W t o.type e i z hu hT.info hz0 ⟨G.β d0 g0, 0, none⟩ n (G.rc d0 g0) ((List.range (n * ti.size)).map fun k => cur.getD k undef) (by rw [List.length_map, List.length_range, hszi]) (fun k u hku => by
        rw [add_lit, Nat.zero_add, cell_box hh]; exact (holds k u hku).2.1) ad ys.length cy news (by rw [hfl.1, hszi]) hcln (by omega) (by omega) (growslice_fits (by omega) (by rw [hbb]; exact hby))
    have hge := grownCap_ge W (n + ys.length) (G.rc d0 g0) e
    generalize hcur2 : ((List.range (n * ti.size)).map fun k => cur.getD k undef).toArray ++ news.toArray ++ Builtin.zeroCells z.cells (grownCap W (n + ys.length) (G.rc d0 g0) e - (n + ys.length)) = cur2 at hr
    have hrun : (execOp a.eval o).run P W = .ok (.value (.slice (some ⟨W.heap.size, 0, none⟩) (n + ys.length) (grownCap W (n + ys.length) (G.rc d0 g0) e))) (W.drew.alloc (.cells cur2 e)) := by
      simp only [execOp, ho, resolve, hc, hca, hct, hax, hay, invoke, builtin, List.map_toArray, List.map_cons, List.map_nil, Sem.run_bind, Sem.run_pure, Result.andThen_ok, hr]
    unfold Oper.wp
    rw [hrun]
    show K (a.put o.dst _) _
    rw [hd]
    have hcm' : grownCap W (n + ys.length) (G.rc d0 g0) e ≤ maxLen := grownCap_le_maxLen W _ _ e (by simp only [maxLen]; omega)
    have hcur : cur2.size = grownCap W (n + ys.length) (G.rc d0 g0) e * ti.size := by
      rw [← hcur2]
      simp only [Array.size_append, List.size_toArray, size_zeroCells, hzs, hfl.1, List.length_map, List.length_range, ← Nat.add_mul]
      congr 1
      omega
    have hnw := (h.kill d0 g0).newObj (d := d) (W' := W.drew.alloc (.cells cur2 e)) (cells := cells ++ ys.flatten.map fun c => (c, (0, 0))) (cap := grownCap W (n + ys.length) (G.rc d0 g0) e) (sz := ti.size) (by
        rw [List.length_append, hfll, hcl, hcur, ← Nat.add_mul]; exact Nat.mul_le_mul_right _ hge) (fun _ => ⟨hcur, hcm'⟩) (fun j l tg u h4 h5 => by
        rw [← hcur2, Array.append_assoc] at h5
        by_cases hj : j < cells.length
        · rw [List.getElem?_append_left hj] at h4
          rw [Array.getElem?_append_left (by simp; omega), List.getElem?_toArray] at h5
          obtain ⟨b1, b2, b3⟩ := holds j u h5
          subst b3
          exact (hold j l tg h4).2
        · rw [List.getElem?_append_right (by omega)] at h4
          obtain ⟨u', b1, b2⟩ := hnew _ l tg h4
          have hlt := (List.getElem?_eq_some_iff.1 b1).1
          rw [Array.getElem?_append_right (by simp; omega), Array.getElem?_append_left (by simp; omega)] at h5
          simp only [List.size_toArray, List.length_map, List.length_range, List.getElem?_toArray] at h5
          rw [← hcl, b1] at h5
          injection h5 with h5
          subst h5
          exact b2) rfl rfl rfl rfl
    have hnw2 : SimG C (G.newKey d (s.g d + 1) W.heap.size (grownCap W (n + ys.length) (G.rc d0 g0) e) ti.size) ((MU.renew d0 g0 d (cells ++ ys.flatten.map fun c => (c, (0, 0)))).apply s) a (W.drew.alloc (.cells cur2 e)) :=
      ⟨hnw.ex.step (.refl _ _) (fun _ _ h _ => h) hnw.pr0 (.refl _ _) (fun _ => Nat.le_refl _) (fun _ _ _ => ⟨rfl, rfl, rfl⟩) (fun _ _ _ => id) rfl hnw.ex.yo2 hnw.ex.yo3 ⟨rfl, rfl, rfl⟩ (fun _ _ => id) (fun _ _ => .inl), hnw.size, hnw.below, fun x y hxy hm => by
        by_cases hk : x = d ∧ y = s.g d + 1
        · simp only [Gh.newKey, if_pos hk]; exact Nat.le_trans h.ex.ctx.mb h.base_le
        · simp only [MU.apply, if_neg hk] at hm
          exact hnw.mkd x y hxy hm, hnw.base_le, hnw.prb, hnw.pr0, hnw.pr, hnw.temp, hnw.tag, hnw.box, hnw.inj, hnw.gen, hnw.wf, hnw.own, hnw.ownne, hnw.prx⟩
    exact hk _ _ (hkeyput hnw2 hge)
end
end Go.LI
