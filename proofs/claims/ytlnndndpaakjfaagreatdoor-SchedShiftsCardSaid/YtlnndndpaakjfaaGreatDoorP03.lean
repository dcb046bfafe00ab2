/- Texts of a small semantics over the model and of specifications of functions, joined: LIOps4, LIOps5. -/
import Derived.Test.YtlnndndpaakjfaaGreatDoorP02
set_option linter.unusedSimpArgs false
set_option linter.unusedVariables false
namespace Go.LI
open Go Go.RowKit

section
variable {C : Ctx} {G : Gh} {s : S} {a : Act} {W : World}
variable {P : Program} {τ : Tab} {Γ : Env} {K : Act → World → Prop} {Q : Exit → Act → World → Prop}

theorem below_alloc (W : World) (o : Obj) : Below W.heap.size W (W.alloc o) := (Below.refl _ W).alloc (Nat.le_refl _) o

/-- A key more. -/
def Gh.newKey (G : Gh) (d g b cap sz : Nat) : Gh :=
  { G with β := fun x y => if x = d ∧ y = g then b else G.β x y, rc := fun x y => if x = d ∧ y = g then cap else G.rc x y, rz := fun x y => if x = d ∧ y = g then sz else G.rz x y }

theorem SimG.blockLt (h : SimG C G s a W) {d g : Nat} (hb : (s.b d g).isSome = true) : G.β d g < W.heap.size := by
  obtain ⟨cells', hc'⟩ := Option.isSome_iff_exists.1 hb
  obtain ⟨_, ⟨cur', e', hh, _⟩, _⟩ := h.box d g cells' hc'
  exact (Array.getElem?_eq_some_iff.1 hh).1

theorem newKey_old {G : Gh} {s : S} {d b cap sz : Nat} {l : LV} (hk : ∀ k ∈ l.keys, k.2 ≤ s.g k.1) : ∀ k ∈ l.keys, (G.newKey d (s.g d + 1) b cap sz).β k.1 k.2 = G.β k.1 k.2 ∧ (G.newKey d (s.g d + 1) b cap sz).rc k.1 k.2 = G.rc k.1 k.2 ∧ (G.newKey d (s.g d + 1) b cap sz).rz k.1 k.2 = G.rz k.1 k.2 := by
  intro k hkk
  have h1 := hk k hkk
  have h2 : ¬ (k.1 = d ∧ k.2 = s.g d + 1) := by rintro ⟨e1, e2⟩; rw [e1] at h1; omega
  simp only [Gh.newKey, if_neg h2, and_self]

/-- An object more: a variable of this frame, or a row. -/
theorem SimG.newObj (h : SimG C G s a W) {d cap sz : Nat} {cells : List (LV × Tag)} {cur : Array Value} {e : Nat} {W' : World} (hl : cells.length ≤ cur.size) (hcz : 0 < sz → cur.size = cap * sz ∧ cap ≤ maxLen)
    (hc : ∀ (j : Nat) l tg u, cells[j]? = some (l, tg) → cur[j]? = some u → RepT G W l u ∧ u.oneCell' = true ∧ TagOK G s tg l u ∧ ∀ k ∈ l.keys, k.2 ≤ s.g k.1)
    (hW : W'.heap = W.heap.push (.cells cur e (0, 0))) (hos : W'.os = W.os) (htp : W'.tape = W.tape) (hout : W'.output = W.output) (hdr : W.drawn ≤ W'.drawn := by first | exact Nat.le_refl _ | exact Nat.le_succ _) :
    SimG C (G.newKey d (s.g d + 1) W.heap.size cap sz) ((MU.box d cells).apply s) a W' := by
  have hb : Below W.heap.size W W' := ⟨hos, htp, hout, by rw [hW]; simp, fun k hk => by rw [hW, Array.getElem?_push, if_neg (by omega)], hdr⟩
  have hag := agree_of_below hb h.prlt
  have hsz : W'.heap.size = W.heap.size + 1 := by rw [hW]; simp
  have hnew : W'.heap[W.heap.size]? = some (.cells cur e (0, 0)) := by rw [hW]; simp
  have hne : ∀ x y, (s.b x y).isSome → ¬ (x = d ∧ y = s.g d + 1) := by
    rintro x y hxy ⟨rfl, rfl⟩
    have := h.gen _ _ hxy
    omega
  have hβ : ∀ x y, (s.b x y).isSome → (G.newKey d (s.g d + 1) W.heap.size cap sz).β x y = G.β x y := fun x y hxy => by simp only [Gh.newKey, if_neg (hne x y hxy)]
  have hsome : ∀ x y, (((MU.box d cells).apply s).b x y).isSome → (x = d ∧ y = s.g d + 1) ∨ (s.b x y).isSome := by
    intro x y hxy
    by_cases hk : x = d ∧ y = s.g d + 1
    · exact .inl hk
    · right; simpa [MU.apply, hk] using hxy
  have hgg : ∀ x, s.g x ≤ upd s.g d (s.g d + 1) x := by
    intro x
    by_cases hx : x = d
    · subst hx; simp only [upd, if_true]; omega
    · simp only [upd, hx, if_false]; exact Nat.le_refl _
  refine ⟨h.ex.step (.of_below hb) (keep_old hb.block) h.pr0 hag hgg (fun x y hy => by have hn : ¬ (x = d ∧ y = s.g d + 1) := (by rintro ⟨rfl, rfl⟩; omega); simp only [Gh.newKey, if_neg hn, and_self]) (fun x y hy hn0 => by have hn : ¬ (x = d ∧ y = s.g d + 1) := (by rintro ⟨rfl, rfl⟩; omega); simp only [MU.apply, if_neg hn]; exact hn0) rfl (fun x y hxy => ?_) h.ex.yo3 ⟨rfl, rfl, rfl⟩ (fun _ _ => id) (fun _ _ => .inl), h.size, fun hy => (h.below hy).trans (belowX (hb.mono h.base_le)), ?_, Nat.le_trans h.base_le hb.size, h.prb, h.pr0, ?_, ?_, h.tag, ?_, ?_, ?_, ?_, ?_, h.ownne, h.prx⟩
  · rcases hsome x y hxy with hk | hk
    · simp only [Gh.newKey, if_pos hk]; exact fun ho => by have := h.ex.yo1 _ ho; omega
    · rw [hβ x y hk]; exact h.ex.yo2 x y hk
  · intro x y hxy hm
    rcases hsome x y hxy with hk | hk
    · simp only [Gh.newKey, if_pos hk]; exact Nat.le_trans h.ex.ctx.mb h.base_le
    · rw [hβ x y hk]; exact h.mkd x y hk hm
  · intro k o hk
    exact (h.pr k o hk).imp id (fun h1 => ⟨h1.1, by omega⟩)
  · intro i
    exact (h.temp i).move' hag (fun _ _ => id) (newKey_old (h.wf i))
  · intro x y cells' hxy
    have hxy' : (if x = d ∧ y = s.g d + 1 then some cells else s.b x y) = some cells' := hxy
    by_cases hk : x = d ∧ y = s.g d + 1
    · obtain ⟨rfl, rfl⟩ := hk
      simp only [and_self, if_true, Option.some.injEq, Gh.newKey] at hxy' ⊢
      subst hxy'
      refine ⟨.inl h.base_le, ⟨cur, e, hnew, hl, hcz, fun j l tg u h1 h2 => ?_⟩, fun o ho => ?_⟩
      · obtain ⟨a1, a2, a3, a4⟩ := hc j l tg u h1 h2
        exact ⟨a1.move' hag (fun _ _ => id) (newKey_old a4), a2, a3, fun k hk => Nat.le_trans (a4 k hk) (hgg _)⟩
      · have := h.prlt _ _ ho
        omega
    · rw [if_neg hk] at hxy'
      obtain ⟨h1, ⟨cur', e', hh, hsz', hcz', hr⟩, h3⟩ := h.box x y cells' hxy'
      simp only [Gh.newKey, if_neg hk]
      refine ⟨h1, ⟨cur', e', (hb.block _ (Array.getElem?_eq_some_iff.1 hh).1).trans hh, hsz', hcz', fun j l tg u h4 h5 => ?_⟩, h3⟩
      obtain ⟨a1, a2, a3, a4⟩ := hr j l tg u h4 h5
      exact ⟨a1.move' hag (fun _ _ => id) (newKey_old a4), a2, a3, fun k hk => Nat.le_trans (a4 k hk) (hgg _)⟩
  · intro x y x' y' h1 h2 he
    rcases hsome x y h1 with hk | hk <;> rcases hsome x' y' h2 with hk' | hk'
    · exact ⟨hk.1.trans hk'.1.symm, hk.2.trans hk'.2.symm⟩
    · rw [hβ x' y' hk'] at he
      simp only [Gh.newKey, if_pos hk] at he
      have := h.blockLt hk'
      omega
    · rw [hβ x y hk] at he
      simp only [Gh.newKey, if_pos hk'] at he
      have := h.blockLt hk
      omega
    · rw [hβ x y hk, hβ x' y' hk'] at he
      exact h.inj _ _ _ _ hk hk' he
  · intro x y h1
    show y ≤ upd s.g d (s.g d + 1) x
    rcases hsome x y h1 with ⟨rfl, rfl⟩ | hk
    · simp [upd]
    · exact Nat.le_trans (h.gen x y hk) (hgg x)
  · intro i k hk
    exact Nat.le_trans (h.wf i k hk) (hgg _)
  · intro tok w hw
    obtain ⟨h1, ⟨cur', hh, hsz'⟩, h2, h3, h4, h5, h6⟩ := h.own tok w hw
    have hl' := (Array.getElem?_eq_some_iff.1 hh).1
    refine ⟨h1, ⟨cur', (hb.block _ hl').trans hh, hsz'⟩, h2, h3, h4, h5, fun x y hxy => ?_⟩
    rcases hsome x y hxy with hk | hk
    · simp only [Gh.newKey, if_pos hk]; omega
    · rw [hβ x y hk]; exact h6 x y hk

/-- A box more: a variable of this frame. -/
theorem SimG.newBox (h : SimG C G s a W) {d : Nat} (hd : d < C.n) {cells : List (LV × Tag)} {cur : Array Value} {e : Nat} (hl : cur.size = cells.length)
    (hc : ∀ (j : Nat) l tg u, cells[j]? = some (l, tg) → cur[j]? = some u → RepT G W l u ∧ u.oneCell' = true ∧ TagOK G s tg l u ∧ ∀ k ∈ l.keys, k.2 ≤ s.g k.1) :
    SimG C (G.newKey d (s.g d + 1) W.heap.size 0 0) (((MU.box d cells).apply s).put (some d) (.ptr d (s.g d + 1) 0)) (a.put (some d) (.pointer (some ⟨W.heap.size, 0, none⟩))) (W.alloc (.cells cur e)) := by
  refine (h.newObj (W' := W.alloc (.cells cur e)) (cap := 0) (sz := 0) (by omega) (fun h => absurd h (by omega)) hc rfl rfl rfl rfl).put hd ?_ .zero ?_
  · simp [RepT, Gh.newKey]
  · intro k hk
    simp only [LV.keys, List.mem_singleton] at hk
    subst hk
    simp [MU.apply]

theorem sim_alloc (h : SimG C G s a W) {o : Oper} {t d : Nat} {ti : TI} {i : TypeInfo} (ho : o.op = .alloc t) (hdst : o.dst = some d) (hd : DstOk C o) (hT : TOk P t ti i)
    (hk : ∀ a' W', Sim C (((MU.box d (ti.zero.map fun x => (.v x, (0, 0)))).apply s).put (some d) (.ptr d (s.g d + 1) 0)) a' W' → K a' W') : o.wp P a W K Q := by
  obtain ⟨z, hz, hzc⟩ := hT.zero
  have hrun : (execOp a.eval o).run P W = .ok (.value (.pointer (some ⟨W.heap.size, 0, none⟩))) (W.alloc (.cells z.cells t)) := by
    simp [execOp, ho, Instr.alloc, zeroValue, typeInfo, hT.info, hz, newVar, newRow]
  unfold Oper.wp
  rw [hrun]
  show K (a.put o.dst _) _
  rw [hdst]
  refine hk _ _ ⟨_, h.newBox (hd d hdst) ?_ ?_⟩
  · rw [List.length_map, ← hzc]; simp
  · intro j l tg u h1 h2
    rw [List.getElem?_map, ← hzc] at h1
    have h3 : z.cells.toList[j]? = some u := by simpa using h2
    rw [h3] at h1
    simp only [Option.map_some, Option.some.injEq, Prod.mk.injEq] at h1
    obtain ⟨rfl, rfl⟩ := h1
    have h4 := hT.zone u (by rw [← hzc]; exact List.mem_of_getElem? h3)
    exact ⟨RepT.of_rd (.v u h4), h4, .zero, fun _ hk => by cases hk⟩

/-- The cells of a value, and what they read as. -/
theorem rd_cells {Pr : Nat → Nat → Prop} {l : LV} {u : Value} (h : Rd Pr W l u) (h1 : l.cells.all LV.one = true) :
    u.cells.size = l.cells.length ∧ ∀ (j : Nat) c x, l.cells[j]? = some c → u.cells[j]? = some x → Rd Pr W c x ∧ x.oneCell' = true := by
  have single : l.one = true → l.cells = [l] → u.cells = #[u] → u.cells.size = l.cells.length ∧ ∀ (j : Nat) c x, l.cells[j]? = some c → u.cells[j]? = some x → Rd Pr W c x ∧ x.oneCell' = true := by
    intro ho e1 e2
    rw [e1, e2]
    refine ⟨rfl, fun j c x hc hx => ?_⟩
    match j, hc, hx with
    | 0, hc, hx =>
      simp at hc hx
      subst hc; subst hx
      exact ⟨h, h.one ho⟩
  cases h with
  | agg hl hh1 hh =>
    refine ⟨by simp [LV.cells, Value.cells, hl], fun j c x hc hx => ?_⟩
    simp only [Value.cells, List.getElem?_toArray] at hx
    exact ⟨hh j c x hc hx, hh1 x (List.mem_of_getElem? hx)⟩
  | v _ hx => exact single (by simpa [LV.one] using hx) rfl (by cases u <;> first | rfl | (simp [Value.oneCell'] at hx))
  | list sz U hc hm hs ha hh => exact single rfl rfl rfl
  | el U ha hh => simp [LV.cells, LV.one] at h1
  | fn hl hh hl' hh' => exact single rfl rfl rfl
  | emp => exact single rfl rfl rfl
  | ifc hp hh => exact single rfl rfl rfl
  | tup hl hh => simp [LV.cells, LV.one] at h1

theorem plain_of_cells {l : LV} (h1 : l.cells.all LV.one = true) : l.plain = true := by
  cases l <;> first | rfl | simp [LV.cells, LV.one] at h1

/-- A hot value is its own cell. -/
theorem hot_cells {l : LV} (h : l.hot = true) : l.cells = [l] := by cases l <;> first | rfl | simp [LV.hot] at h

theorem hot_value {l : LV} {u : Value} (h : l.hot = true) (hr : RepT G W l u) : u.cells = #[u] ∧ u.oneCell' = true := by
  cases l <;> simp only [LV.hot] at h <;> try (cases h; done)
  case ptr d g off => cases (show u = _ from hr); exact ⟨rfl, rfl⟩
  case rs d g lo n sz => obtain ⟨_, _, _, A, c, rfl, _⟩ := hr; exact ⟨rfl, rfl⟩
  case clo f caps => obtain ⟨us, rfl, _⟩ := hr; exact ⟨rfl, rfl⟩

/-- The cells of a value that boxes may hold. -/
theorem rep_cells {l : LV} {u : Value} (h : RepT G W l u) (h1 : (l.hot || l.cells.all LV.one) = true) :
    u.cells.size = l.cells.length ∧ ∀ (j : Nat) c x, l.cells[j]? = some c → u.cells[j]? = some x → RepT G W c x ∧ x.oneCell' = true ∧ (∀ k ∈ c.keys, k ∈ l.keys) := by
  by_cases hh : l.hot = true
  · obtain ⟨e1, e2⟩ := hot_value hh h
    rw [hot_cells hh, e1]
    refine ⟨rfl, fun j c x hc hx => ?_⟩
    match j, hc, hx with
    | 0, hc, hx =>
      simp at hc hx
      subst hc; subst hx
      exact ⟨h, e2, fun _ => id⟩
  · have h2 : l.cells.all LV.one = true := by simpa [hh] using h1
    have hrd := RepT.rd h (plain_of_cells h2)
    obtain ⟨a1, a2⟩ := rd_cells hrd h2
    refine ⟨a1, fun j c x hc hx => ?_⟩
    obtain ⟨b1, b2⟩ := a2 j c x hc hx
    refine ⟨RepT.of_rd b1, b2, fun k hk => ?_⟩
    rw [keys_of_rd b1] at hk
    cases hk

theorem sim_box (h : SimG C G s a W) {o : Oper} {t d : Nat} {x : Operand} (ho : o.op = .box t x) (hdst : o.dst = some d) (hd : DstOk C o) (h1 : ((s.eval x).hot || (s.eval x).cells.all LV.one) = true)
    (hk : ∀ a' W', Sim C (((MU.box d ((s.eval x).cells.map fun c => (c, (0, 0)))).apply s).put (some d) (.ptr d (s.g d + 1) 0)) a' W' → K a' W') : o.wp P a W K Q := by
  obtain ⟨hsz, hr⟩ := rep_cells (h.eval x) h1
  have hrun : (execOp a.eval o).run P W = .ok (.value (.pointer (some ⟨W.heap.size, 0, none⟩))) (W.alloc (.cells (a.eval x).cells t)) := by
    simp [execOp, ho, Instr.box, newVar, newRow]
  unfold Oper.wp
  rw [hrun]
  show K (a.put o.dst _) _
  rw [hdst]
  refine hk _ _ ⟨_, h.newBox (hd d hdst) (by rw [List.length_map, hsz]) ?_⟩
  intro j l tg u h2 h3
  rw [List.getElem?_map] at h2
  cases hc : (s.eval x).cells[j]? with
  | none => rw [hc] at h2; cases h2
  | some c =>
    rw [hc] at h2
    simp only [Option.map_some, Option.some.injEq, Prod.mk.injEq] at h2
    obtain ⟨rfl, rfl⟩ := h2
    obtain ⟨a1, a2, a3⟩ := hr j c u hc h3
    exact ⟨a1, a2, .zero, fun k hk => h.wfE x k (a3 k hk)⟩

theorem agree_setRow {Pr : Nat → Nat → Prop} {g : Nat} {cs : Array Value} (hp : ∀ o, ¬ Pr g o) : Agree Pr W (W.setRow g cs) := by
  intro x hx
  have : x.block ≠ g := by rintro rfl; exact hp _ hx
  exact World.cell?_of_block (w := W) (setRow_other W g x.block cs this)

theorem setRow_size (W : World) (g : Nat) (cs : Array Value) : (W.setRow g cs).heap.size = W.heap.size := by simp [World.setRow]

theorem belowX_setRow {X : Nat → Prop} {B : Nat} {W : World} {g e : Nat} {cur cs : Array Value} (hh : W.heap[g]? = some (.cells cur e (0, 0))) (hs : cs.size = cur.size) (hg : B ≤ g ∨ X g) : BelowX X B W (W.setRow g cs) :=
  ⟨rfl, rfl, rfl, by rw [setRow_size]; exact Nat.le_refl _, fun k hk hx => setRow_other W g k cs (by rintro rfl; exact hg.elim (by omega) hx), fun k hk cur2 e2 hx hc => by
    by_cases hkg : k = g
    · subst hkg
      rw [hh] at hc
      injection hc with hc
      injection hc with a1 a2
      subst a1; subst a2
      exact ⟨cs, setRow_heap W _ cur cs e _ hh, hs⟩
    · exact ⟨cur2, (setRow_other W g k cs hkg).trans hc, rfl⟩, Nat.le_refl _⟩

theorem out_setRow {O : Nat → Prop} {W : World} {g e : Nat} {cur cs : Array Value} (hh : W.heap[g]? = some (.cells cur e (0, 0))) (hs : cs.size = cur.size) (hg : ¬ O g) : Out O W (W.setRow g cs) :=
  ⟨rfl, rfl, rfl, by rw [setRow_size]; exact Nat.le_refl _, fun k hk _ => setRow_other W g k cs (by rintro rfl; exact hg hk), fun k cur2 e2 hc => by
    by_cases hkg : k = g
    · subst hkg
      rw [hh] at hc
      injection hc with hc
      injection hc with a1 a2
      subst a1; subst a2
      exact ⟨cs, setRow_heap W _ cur cs e _ hh, hs⟩
    · exact ⟨cur2, (setRow_other W g k cs hkg).trans hc, rfl⟩, Nat.le_refl _⟩

theorem keep_setRow {W : World} {g e : Nat} {cur cs : Array Value} (hh : W.heap[g]? = some (.cells cur e (0, 0))) : ∀ (D : Nat) o, W.heap[D]? = some o → (∀ cur e f, o ≠ Obj.cells cur e f) → (W.setRow g cs).heap[D]? = some o := by
  intro D o hD ho
  have hne : D ≠ g := by rintro rfl; rw [hh] at hD; injection hD with hD; exact ho _ _ _ hD.symm
  exact (setRow_other W g D cs hne).trans hD

theorem over_get {α : Type} {off : Nat} {new old : List α} (h : off + new.length ≤ old.length) (j : Nat) : (over off new old)[j]? = if off ≤ j ∧ j < off + new.length then new[j - off]? else old[j]? := by
  unfold over
  by_cases h1 : j < off
  · rw [if_neg (by omega), List.append_assoc, List.getElem?_append_left (by simp; omega), List.getElem?_take_of_lt h1]
  · by_cases h2 : j < off + new.length
    · rw [if_pos (by omega), List.append_assoc, List.getElem?_append_right (by simp; omega), List.length_take, Nat.min_eq_left (by omega), List.getElem?_append_left (by omega)]
    · rw [if_neg (by omega), List.getElem?_append_right (by simp; omega), List.length_append, List.length_take, Nat.min_eq_left (by omega), List.getElem?_drop]
      congr 1; omega

theorem over_length {α : Type} {off : Nat} {new old : List α} (h : off + new.length ≤ old.length) : (over off new old).length = old.length := by
  simp [over]; omega

/-- What a live object holds is turned; it stays as long as it is. -/
theorem SimG.setObj (h : SimG C G s a W) {d g : Nat} {cells cells' : List (LV × Tag)} {cur row : Array Value} {e : Nat} (hb : s.b d g = some cells) (hh : W.heap[G.β d g]? = some (.cells cur e (0, 0))) (hrow : row.size = cur.size) (hl : cells'.length ≤ row.size)
    (hn : ∀ (j : Nat) l tg u, cells'[j]? = some (l, tg) → row[j]? = some u → RepT G W l u ∧ u.oneCell' = true ∧ TagOK G s tg l u ∧ ∀ k ∈ l.keys, k.2 ≤ s.g k.1) :
    SimG C G { s with b := fun x y => if x = d ∧ y = g then some cells' else s.b x y } a (W.setRow (G.β d g) row) := by
  obtain ⟨h1, ⟨cur', e', hh', hsz, hcz, hr⟩, h3⟩ := h.box d g cells hb
  rw [hh] at hh'
  obtain ⟨rfl, rfl⟩ : cur = cur' ∧ e = e' := by injection hh' with hh'; injection hh' with a1 a2; exact ⟨a1, a2⟩
  have hag : Agree G.Pr W (W.setRow (G.β d g) row) := agree_setRow h3
  have hsome : ∀ x y, (if x = d ∧ y = g then some cells' else s.b x y).isSome = (s.b x y).isSome := by
    intro x y
    split
    · rename_i hk; obtain ⟨rfl, rfl⟩ := hk; simp [hb]
    · rfl
  refine ⟨h.ex.step (out_setRow hh hrow (h.ex.yo2 d g (by rw [hb]; rfl))) (keep_setRow hh) h.pr0 hag (fun _ => Nat.le_refl _) (fun _ _ _ => ⟨rfl, rfl, rfl⟩) (fun x y _ hn => by have hk : ¬ (x = d ∧ y = g) := (by rintro ⟨rfl, rfl⟩; rw [hb] at hn; cases hn); simp only [if_neg hk]; exact hn) rfl (fun x y hxy => h.ex.yo2 x y (by rw [← hsome]; exact hxy)) h.ex.yo3 ⟨rfl, rfl, rfl⟩ (fun _ _ => id) (fun _ _ => .inl), h.size, fun hy => (h.below hy).trans (belowX_setRow hh hrow h1), fun x y hxy hm => h.mkd x y (by rw [← hsome]; exact hxy) hm, by rw [setRow_size]; exact h.base_le, h.prb, h.pr0, by rw [setRow_size]; exact h.pr, fun i => (h.temp i).move hag (fun _ _ => id) rfl rfl rfl, h.tag, ?_, ?_, ?_, h.wf, ?_, h.ownne, h.prx⟩
  · intro x y cells2 hxy
    have hxy' : (if x = d ∧ y = g then some cells' else s.b x y) = some cells2 := hxy
    by_cases hk : x = d ∧ y = g
    · obtain ⟨rfl, rfl⟩ := hk
      simp only [and_self, if_true, Option.some.injEq] at hxy'
      subst hxy'
      refine ⟨h1, ⟨_, e, setRow_heap W _ cur _ e _ hh, hl, fun hz => ⟨hrow.trans (hcz hz).1, (hcz hz).2⟩, fun j l tg u h4 h5 => ?_⟩, h3⟩
      obtain ⟨a1, a2, a3⟩ := hn j l tg u h4 h5
      exact ⟨a1.move hag (fun _ _ => id) rfl rfl rfl, a2, a3⟩
    · rw [if_neg hk] at hxy'
      obtain ⟨b1, ⟨cur2, e2, hh2, hsz2, hcz2, hr2⟩, b3⟩ := h.box x y cells2 hxy'
      have hne : G.β x y ≠ G.β d g := fun he => hk (h.inj x y d g (by rw [hxy']; rfl) (by rw [hb]; rfl) he)
      refine ⟨b1, ⟨cur2, e2, (setRow_other W _ _ _ hne).trans hh2, hsz2, hcz2, fun j l tg u h4 h5 => ?_⟩, b3⟩
      obtain ⟨a1, a2, a3⟩ := hr2 j l tg u h4 h5
      exact ⟨a1.move hag (fun _ _ => id) rfl rfl rfl, a2, a3⟩
  · intro x y x' y' h4 h5
    exact h.inj x y x' y' (by rw [← hsome]; exact h4) (by rw [← hsome]; exact h5)
  · intro x y h4
    exact h.gen x y (by rw [← hsome]; exact h4)
  · intro tok w hw
    obtain ⟨b1, ⟨cur2, hh2, hsz2⟩, b2, b3, b4, b5, b6⟩ := h.own tok w hw
    refine ⟨b1, ⟨cur2, (setRow_other W _ _ _ (Ne.symm (b6 d g (by rw [hb]; rfl)))).trans hh2, hsz2⟩, b2, b3, b4, b5, fun x y hxy => ?_⟩
    exact b6 x y (by rw [← hsome]; exact hxy)

/-- A store into a box. -/
theorem SimG.storeBox (h : SimG C G s a W) {d g off : Nat} {cells new : List (LV × Tag)} {vs : List Value} {cur : Array Value} {e : Nat} (hb : s.b d g = some cells) (hh : W.heap[G.β d g]? = some (.cells cur e (0, 0)))
    (hfit : off + new.length ≤ cells.length) (hl : vs.length = new.length) (hn : ∀ (j : Nat) l tg u, new[j]? = some (l, tg) → vs[j]? = some u → RepT G W l u ∧ u.oneCell' = true ∧ TagOK G s tg l u ∧ ∀ k ∈ l.keys, k.2 ≤ s.g k.1) :
    SimG C G ((MU.store d g off new).apply s) a (W.setRow (G.β d g) (over off vs cur.toList).toArray) := by
  obtain ⟨h1, ⟨cur', e', hh', hsz, _, hr⟩, h3⟩ := h.box d g cells hb
  rw [hh] at hh'
  obtain ⟨rfl, rfl⟩ : cur = cur' ∧ e = e' := by injection hh' with hh'; injection hh' with a1 a2; exact ⟨a1, a2⟩
  have hfit2 : off + vs.length ≤ cur.toList.length := by have := Array.length_toList (xs := cur); omega
  have key := h.setObj (cells' := over off new cells) (row := (over off vs cur.toList).toArray) hb hh (by rw [List.size_toArray, over_length hfit2, Array.length_toList]) (by rw [List.size_toArray, over_length hfit2, over_length hfit, Array.length_toList]; exact hsz) (fun j l tg u h4 h5 => by
    rw [over_get hfit] at h4
    rw [List.getElem?_toArray, over_get hfit2, hl] at h5
    split at h4
    · rename_i hin
      rw [if_pos hin] at h5
      exact hn _ l tg u h4 h5
    · rename_i hin
      rw [if_neg hin] at h5
      exact hr j l tg u h4 (by simpa using h5))
  have e1 : (MU.store d g off new).apply s = { s with b := fun x y => if x = d ∧ y = g then some (over off new cells) else s.b x y } := by
    simp only [MU.apply, hb, Option.map_some]
  rw [e1]
  exact key

/-- What a store writes, and under which tags. -/
def storeCellsL (s : S) (x : Operand) : List (LV × Tag) := match s.eval x with | .agg cs => cs.map fun c => (c, (0, 0)) | l => [(l, s.tag x)]

theorem sim_store (h : SimG C G s a W) {o : Oper} {t : Nat} {y x : Operand} {ti : TI} {i : TypeInfo} {d g off : Nat} {cells : List (LV × Tag)} (hT : TOk P t ti i) (ho : o.op = .store t y x) (hd : DstOk C o) (hy : s.eval y = .ptr d g off) (hb : s.b d g = some cells)
    (hsz : (s.eval x).cells.length = ti.size) (hfit : off + ti.size ≤ cells.length) (h1 : ((s.eval x).hot || (s.eval x).cells.all LV.one) = true)
    (hk : ∀ a' W', Sim C (((MU.store d g off (storeCellsL s x)).apply s).put o.dst .dead) a' W' → K a' W') : o.wp P a W K Q := by
  have hr : a.eval y = .pointer (some ⟨G.β d g, off, none⟩) := by have := h.eval y; rw [hy] at this; exact this
  obtain ⟨hs2, hr2⟩ := rep_cells (h.eval x) h1
  obtain ⟨_, ⟨cur, e, hh, hcsz, _⟩, _⟩ := h.box d g cells hb
  have hfit' : off + 0 + (a.eval x).cells.toList.length ≤ cur.size := by rw [Array.length_toList, hs2, hsz]; omega
  have hst := run_storeCells_at P (G.β d g) off e (a.eval x).cells.toList 0 cur W hh hfit' (fun v hv => by
    obtain ⟨j, hj, rfl⟩ := List.getElem_of_mem hv
    have hj' : j < (s.eval x).cells.length := by rw [← hs2, ← Array.length_toList]; exact hj
    exact (hr2 j _ _ (List.getElem?_eq_getElem hj') (by simp at hj ⊢)).2.1)
  have hrun : (execOp a.eval o).run P W = .ok .skip (W.setRow (G.β d g) (over off (a.eval x).cells.toList cur.toList).toArray) := by
    have hne : (a.eval x).cells.size = ti.size := by rw [hs2, hsz]
    simp only [Nat.add_zero] at hst
    simp [execOp, ho, hr, Instr.storeAt, Instr.sureAddr, storeVar, hT.run_sizeOf, hne, hst, over]
  have hnl : (storeCellsL s x).length = (s.eval x).cells.length := by
    unfold storeCellsL
    cases hl : s.eval x <;> simp [LV.cells]
  have hsim := h.storeBox (off := off) (new := storeCellsL s x) (vs := (a.eval x).cells.toList) hb hh (by rw [hnl, hsz]; exact hfit) (by rw [hnl, Array.length_toList, hs2]) (fun j l tg u h2 h3 => by
    have hu : (a.eval x).cells[j]? = some u := by simpa using h3
    have hc : (s.eval x).cells[j]? = some l := by
      unfold storeCellsL at h2
      cases hl : s.eval x <;> rw [hl] at h2 <;> simp only [LV.cells]
      case agg cs =>
        rw [List.getElem?_map] at h2
        cases hcs : cs[j]? with
        | none => rw [hcs] at h2; cases h2
        | some c => rw [hcs] at h2; simp only [Option.map_some, Option.some.injEq, Prod.mk.injEq] at h2; rw [h2.1]
      all_goals
        match j, h2 with
        | 0, h2 => simp at h2; simp [h2.1]
    obtain ⟨a1, a2, a3⟩ := hr2 j l u hc hu
    refine ⟨a1, a2, ?_, fun k hk => h.wfE x k (a3 k hk)⟩
    unfold storeCellsL at h2
    split at h2
    · rw [List.getElem?_map] at h2
      rename_i cs _
      cases hcs : cs[j]? with
      | none => rw [hcs] at h2; cases h2
      | some c => rw [hcs] at h2; simp only [Option.map_some, Option.some.injEq, Prod.mk.injEq] at h2; rw [← h2.2]; exact .zero
    · rename_i hna
      match j, h2, hu with
      | 0, h2, hu =>
        simp only [List.getElem?_cons_zero, Option.some.injEq, Prod.mk.injEq] at h2
        obtain ⟨rfl, rfl⟩ := h2
        have hcell : (a.eval x).cells = #[a.eval x] := by
          by_cases hh : (s.eval x).hot = true
          · exact (hot_value hh (h.eval x)).1
          · have hp : (s.eval x).plain = true := plain_of_cells (by simpa [hh] using h1)
            have hrd := RepT.rd (h.eval x) hp
            cases hv : a.eval x <;> simp only [Value.cells]
            rw [hv] at hrd
            generalize hlx : s.eval x = lx at hrd hna
            cases hrd with
            | v _ hx => simp [Value.oneCell'] at hx
            | agg _ _ _ => exact absurd rfl (hna _)
        rw [hcell] at hu
        simp at hu
        subst hu
        exact h.tagE x)
  unfold Oper.wp
  rw [hrun]
  exact hk _ _ ⟨G, hsim.put' hd trivial .zero (fun _ hk => by cases hk)⟩
end
end Go.LI
namespace Go.LI
open Go Go.RowKit

section
variable {C : Ctx} {G : Gh} {s : S} {a : Act} {W : World}
variable {P : Program} {τ : Tab} {Γ : Env} {K : Act → World → Prop} {Q : Exit → Act → World → Prop}

/-- Cells and what they read as. -/
def RdL (Pr : Nat → Nat → Prop) (W : World) (ls : List LV) (us : List Value) : Prop :=
  us.length = ls.length ∧ ∀ (j : Nat) l u, ls[j]? = some l → us[j]? = some u → l.one = true → Rd Pr W l u

theorem setAll_toList (off : Nat) : ∀ (l : List Value) (k : Nat) (A : Array Value), off + k + l.length ≤ A.size → ((l.zipIdx k).foldl (fun cs (c, j) => cs.setIfInBounds (off + j) c) A).toList = over (off + k) l A.toList
  | [], k, A, _ => by simp [over]
  | v :: r, k, A, h => by
    simp only [List.length_cons] at h
    have ih := setAll_toList off r (k + 1) (A.setIfInBounds (off + k) v) (by simp; omega)
    simp only [List.zipIdx_cons, List.foldl_cons]
    rw [ih]
    apply List.ext_getElem?
    intro i
    rw [over_get (by simp; omega), over_get (by simp; omega)]
    simp only [Array.toList_setIfInBounds, List.length_cons, List.getElem?_set, Array.length_toList]
    by_cases h1 : off + (k + 1) ≤ i ∧ i < off + (k + 1) + r.length
    · rw [if_pos h1, if_pos (by omega), show i - (off + k) = (i - (off + (k + 1))) + 1 by omega, List.getElem?_cons_succ]
    · rw [if_neg h1]
      by_cases h2 : off + k = i
      · subst h2
        rw [if_pos rfl, if_pos (by omega), if_pos (by omega), Nat.sub_self]
        rfl
      · rw [if_neg h2]
        rw [if_neg (by omega)]

theorem fill_toList {place : Nat → Option (Nat × Nat)} : ∀ (parts : List (Nat × LV)) (vs : List (Nat × Value)) (cells : List LV) (A : Array Value) (out : List LV),
    fillL place cells parts = some out → parts.length = vs.length → (∀ (i : Nat) p q, parts[i]? = some p → vs[i]? = some q → p.1 = q.1 ∧ q.2.cells.size = p.2.cells.length ∧ ∀ (j : Nat) c x, p.2.cells[j]? = some c → q.2.cells[j]? = some x → c.one = true → Rd G.Pr W c x) →
    RdL G.Pr W cells A.toList → ∃ B, Instr.fill place A vs = some B ∧ RdL G.Pr W out B.toList
  | [], vs, cells, A, out, hf, hl, hp, hr => by
    obtain rfl : vs = [] := List.eq_nil_of_length_eq_zero (by simpa using hl.symm)
    simp only [fillL, Option.some.injEq] at hf
    subst hf
    exact ⟨A, rfl, hr⟩
  | (i, x) :: parts, vs, cells, A, out, hf, hl, hp, hr => by
    match vs, hl with
    | (i', v) :: vs, hl =>
      obtain ⟨h1, h2, h3⟩ := hp 0 (i, x) (i', v) rfl rfl
      simp only at h1 h2 h3
      subst h1
      unfold fillL at hf
      cases hpl : place i with
      | none => simp [hpl] at hf
      | some os =>
        obtain ⟨off, size⟩ := os
        simp only [hpl] at hf
        split at hf
        · rename_i hc
          obtain ⟨hc1, hc2⟩ := hc
          have hAl : A.size = cells.length := by have := hr.1; simpa using this
          have hset := setAll_toList off v.cells.toList 0 A (by simp; omega)
          simp only [Nat.add_zero] at hset
          obtain ⟨B, hB, hBr⟩ := fill_toList parts vs (over off x.cells cells) (v.cells.zipIdx.foldl (fun cs (c, j) => cs.setIfInBounds (off + j) c) A) out hf (by simpa using hl)
            (fun k p q hk hq => hp (k + 1) p q (by simpa using hk) (by simpa using hq)) (by
              have e : (v.cells.zipIdx.foldl (fun cs (c, j) => cs.setIfInBounds (off + j) c) A).toList = over off v.cells.toList A.toList := by
                rw [← hset]
                congr 1
                rw [← Array.foldl_toList, Array.toList_zipIdx]
              rw [e]
              have e1 : off + v.cells.toList.length ≤ A.toList.length := by simp; omega
              have e2 : off + x.cells.length ≤ cells.length := by omega
              refine ⟨by rw [over_length e1, over_length e2]; simpa using hAl, fun j l u hj hu ho => ?_⟩
              rw [over_get e2] at hj
              rw [over_get e1] at hu
              have e3 : v.cells.toList.length = x.cells.length := by simpa using h2
              rw [e3] at hu
              split at hj
              · rename_i hin
                rw [if_pos hin] at hu
                exact h3 _ _ _ hj (by simpa using hu) ho
              · rename_i hin
                rw [if_neg hin] at hu
                exact hr.2 j l u hj hu ho)
          refine ⟨B, ?_, hBr⟩
          rw [← hB]
          conv => lhs; unfold Instr.fill
          simp only [hpl]
          rw [if_neg (by simp; omega)]
        · cases hf

theorem rd_cells' {Pr : Nat → Nat → Prop} {l : LV} {u : Value} (h : Rd Pr W l u) : u.cells.size = l.cells.length ∧ ∀ (j : Nat) c x, l.cells[j]? = some c → u.cells[j]? = some x → Rd Pr W c x := by
  have single : l.cells = [l] → u.cells = #[u] → u.cells.size = l.cells.length ∧ ∀ (j : Nat) c x, l.cells[j]? = some c → u.cells[j]? = some x → Rd Pr W c x := by
    intro e1 e2
    rw [e1, e2]
    refine ⟨rfl, fun j c x hc hx => ?_⟩
    match j, hc, hx with
    | 0, hc, hx =>
      simp at hc hx
      subst hc; subst hx
      exact h
  cases h with
  | agg hl hh1 hh =>
    refine ⟨by simp [LV.cells, Value.cells, hl], fun j c x hc hx => ?_⟩
    simp only [Value.cells, List.getElem?_toArray] at hx
    exact hh j c x hc hx
  | v _ hx => exact single rfl (by cases u <;> first | rfl | (simp [Value.oneCell'] at hx))
  | list sz U hc hm hs ha hh => exact single rfl rfl
  | el U ha hh => exact single rfl rfl
  | fn hl hh hl' hh' => exact single rfl rfl
  | emp => exact single rfl rfl
  | ifc hp hh => exact single rfl rfl
  | tup hl hh => exact single rfl rfl

theorem parts_rd (h : SimG C G s a W) (parts : Array (Nat × Operand)) : ∀ (i : Nat) p q, (parts.toList.map fun p => (p.1, s.eval p.2))[i]? = some p → (parts.map fun (i, x) => (i, a.eval x)).toList[i]? = some q →
    (p.2.cells.all LV.one = true → p.1 = q.1 ∧ q.2.cells.size = p.2.cells.length ∧ ∀ (j : Nat) c x, p.2.cells[j]? = some c → q.2.cells[j]? = some x → c.one = true → Rd G.Pr W c x) := by
  intro i p q hp hq hone
  rw [Array.toList_map] at hq
  rw [List.getElem?_map] at hp hq
  cases hx : parts.toList[i]? with
  | none => rw [hx] at hp; cases hp
  | some x =>
    rw [hx] at hp hq
    simp only [Option.map_some, Option.some.injEq] at hp hq
    subst hp; subst hq
    obtain ⟨h1, h2⟩ := rd_cells' (RepT.rd (h.eval x.2) (plain_of_cells hone))
    exact ⟨rfl, h1, fun j c y hc hy _ => h2 j c y hc hy⟩

theorem zero_rdL {t : Nat} {ti : TI} {i : TypeInfo} (hT : TOk P t ti i) {z : Value} (hz : z.cells.toList = ti.zero) : RdL G.Pr W (ti.zero.map LV.v) z.cells.toList := by
  refine ⟨by rw [List.length_map, hz], fun j l u hl hu _ => ?_⟩
  rw [hz] at hu
  rw [List.getElem?_map, hu] at hl
  simp only [Option.map_some, Option.some.injEq] at hl
  subst hl
  exact .v u (hT.zone u (List.mem_of_getElem? hu))

theorem agg_of_rdL {Pr : Nat → Nat → Prop} {cs : List LV} {B : Array Value} (h : RdL Pr W cs B.toList) (h1 : cs.all LV.one = true) : Rd Pr W (.agg cs) (.agg B) := by
  have hall : ∀ (i : Nat) l u, cs[i]? = some l → B.toList[i]? = some u → Rd Pr W l u := fun i l u hl hu => h.2 i l u hl hu (List.all_eq_true.1 h1 l (List.mem_of_getElem? hl))
  have := Rd.agg (Pr := Pr) (W := W) (cs := cs) (us := B.toList) h.1.symm (fun u hu => by
    obtain ⟨i, hi, rfl⟩ := List.getElem_of_mem hu
    have hi' : i < cs.length := by rw [← h.1]; exact hi
    exact (hall i _ _ (List.getElem?_eq_getElem hi') (List.getElem?_eq_getElem hi)).one (List.all_eq_true.1 h1 _ (List.getElem_mem hi'))) hall
  simpa using this

theorem sim_build (h : SimG C G s a W) {o : Oper} {t : Nat} {parts : Array (Nat × Operand)} {ti : TI} {i : TypeInfo} {fs : List (Nat × Nat)} {cs : List LV} (hT : TOk P t ti i) (hfs : ti.d = .struct fs) (ho : o.op = .build t parts) (hd : DstOk C o)
    (hp : (parts.toList.all fun p => (s.eval p.2).cells.all LV.one) = true) (hf : fillL (fs[·]?) (ti.zero.map .v) (parts.toList.map fun p => (p.1, s.eval p.2)) = some cs) (h1 : cs.all LV.one = true)
    (hk : ∀ a' W', Sim C (s.put o.dst (.agg cs)) a' W' → K a' W') : o.wp P a W K Q := by
  have hdd := hT.d
  rw [hfs] at hdd
  obtain ⟨fields, hu, hm⟩ := hdd
  obtain ⟨z, hz, hzc⟩ := hT.zero
  obtain ⟨B, hB, hBr⟩ := fill_toList (G := G) (W := W) (parts.toList.map fun p => (p.1, s.eval p.2)) (parts.map fun (i, x) => (i, a.eval x)).toList _ z.cells cs hf (by simp)
    (fun k p q hp' hq => parts_rd h parts k p q hp' hq (by
      rw [List.getElem?_map] at hp'
      cases hx : parts.toList[k]? with
      | none => rw [hx] at hp'; cases hp'
      | some x =>
        rw [hx] at hp'
        simp only [Option.map_some, Option.some.injEq] at hp'
        subst hp'
        exact List.all_eq_true.1 hp x (List.mem_of_getElem? hx))) (zero_rdL hT hzc)
  have hbuilt : P.built t (parts.map fun (i, x) => (i, a.eval x)).toList = some B := by
    unfold Program.built
    rw [hT.info, hu]
    simp only [hz, hm]
    rw [← hB]
    simp
  refine sim_rd h (v := .agg B) ?_ (agg_of_rdL hBr h1) hd hk
  simp only [execOp, ho, Sem.run_bind, run_build W t _ B hbuilt, Result.andThen_ok, Sem.run_pure]

theorem sim_buildArr (h : SimG C G s a W) {o : Oper} {t e n : Nat} {parts : Array (Nat × Operand)} {ti te : TI} {i ie : TypeInfo} {cs : List LV} (hT : TOk P t ti i) (hfs : ti.d = .arr e n) (hE : TOk P e te ie) (ho : o.op = .build t parts) (hd : DstOk C o)
    (hp : (parts.toList.all fun p => (s.eval p.2).cells.all LV.one) = true) (hf : fillL (fun i => some (i * te.size, te.size)) (ti.zero.map .v) (parts.toList.map fun p => (p.1, s.eval p.2)) = some cs) (h1 : cs.all LV.one = true)
    (hk : ∀ a' W', Sim C (s.put o.dst (.agg cs)) a' W' → K a' W') : o.wp P a W K Q := by
  have hdd := hT.d
  rw [hfs] at hdd
  simp only at hdd
  obtain ⟨z, hz, hzc⟩ := hT.zero
  obtain ⟨B, hB, hBr⟩ := fill_toList (G := G) (W := W) (parts.toList.map fun p => (p.1, s.eval p.2)) (parts.map fun (i, x) => (i, a.eval x)).toList _ z.cells cs hf (by simp)
    (fun k p q hp' hq => parts_rd h parts k p q hp' hq (by
      rw [List.getElem?_map] at hp'
      cases hx : parts.toList[k]? with
      | none => rw [hx] at hp'; cases hp'
      | some x =>
        rw [hx] at hp'
        simp only [Option.map_some, Option.some.injEq] at hp'
        subst hp'
        exact List.all_eq_true.1 hp x (List.mem_of_getElem? hx))) (zero_rdL hT hzc)
  have hbuilt : P.built t (parts.map fun (i, x) => (i, a.eval x)).toList = some B := by
    unfold Program.built
    rw [hT.info, hdd]
    simp only [hz, hE.info, hE.size]
    exact hB
  refine sim_rd h (v := .agg B) ?_ (agg_of_rdL hBr h1) hd hk
  simp only [execOp, ho, Sem.run_bind, run_build W t _ B hbuilt, Result.andThen_ok, Sem.run_pure]
end
end Go.LI
