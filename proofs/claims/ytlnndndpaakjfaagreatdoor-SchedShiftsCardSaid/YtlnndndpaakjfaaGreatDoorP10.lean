/- Texts of a small semantics over the model and of specifications of functions, joined: LISwap2. -/
import Derived.Test.YtlnndndpaakjfaaGreatDoorP09
set_option linter.unusedSimpArgs false
set_option linter.unusedVariables false
namespace Go.LI
open Go Go.RowKit

section
variable {C : Ctx} {G : Gh} {s s' : S} {a : Act} {W : World}
variable {P : Program} {τ : Tab} {Γ : Env} {K : Act → World → Prop} {Q : Exit → Act → World → Prop}

/-- What an operation does, skipped or not. -/
def effD (τ : Tab) (Γ : Env) (ops : Array Oper) (s : S) (o : Oper) : Option Upd :=
  match wantedL ops s o with
  | some true => (eff τ Γ.own s o).bind fun u => if finds s o.op && u.l.hot then none else some u
  | some false => some { l := .tup [] }
  | none => none

theorem stepD_eq (ops : Array Oper) (o : Oper) (s : S) : stepD τ Γ ops o s = (effD τ Γ ops s o).map fun u => u.apply o.dst s := by
  unfold stepD effD
  cases wantedL ops s o with
  | none => rfl
  | some b =>
    cases b with
    | false => rfl
    | true =>
      simp only
      cases eff τ Γ.own s o with
      | none => rfl
      | some u =>
        simp only [Option.bind_some]
        split <;> rfl

theorem effD_kind {ops : Array Oper} {o : Oper} {u : Upd} (he : effD τ Γ ops s o = some u) :
    u.m = .none ∨ (∃ d cells, o.dst = some d ∧ u.m = .box d cells) ∨
    (isStore o.op = true ∧ ∃ x ∈ o.op.operands, ∃ d g off off' cells, s.eval x = .ptr d g off ∧ (s.b d g).isSome = true ∧ u.m = .store d g off' cells) ∨ (isAppend o.op = true ∧ ∃ t v, u.m = .tok t v) := by
  unfold effD at he
  split at he
  · cases hh : eff τ Γ.own s o with
    | none => rw [hh] at he; cases he
    | some u' =>
      rw [hh] at he
      simp only [Option.bind_some] at he
      split at he
      · cases he
      · cases he
        rcases eff_kind hh with h | ⟨d, c, h1, h2, _⟩ | h | h
        · exact .inl h
        · exact .inr (.inl ⟨d, c, h1, h2⟩)
        · exact .inr (.inr (.inl h))
        · exact .inr (.inr (.inr h))
  · cases he; exact .inl rfl
  · cases he

theorem Upd.apply_t (u : Upd) (dst : Option Nat) (s : S) (i : Nat) (h : ∀ d, dst = some d → i ≠ d) : (u.apply dst s).t i = s.t i ∧ (u.apply dst s).o i = s.o i := by
  unfold Upd.apply
  cases dst with
  | none => exact ⟨by simp only [S.put, MU.apply_t], by simp only [S.put, MU.apply_o]⟩
  | some d =>
    have hne := h d rfl
    rw [S.put_some]
    exact ⟨by simp only [upd_ne _ _ hne, MU.apply_t], by simp only [upd_ne _ _ hne, MU.apply_o]⟩

theorem looksAt_op {ops : Array Oper} {o : Oper} {i : Nat} (h : Operand.tmp i ∈ o.op.operands) : i ∈ o.looksAt ops := by
  unfold Oper.looksAt
  rw [List.mem_append]
  left
  exact List.mem_filterMap.2 ⟨.tmp i, by simpa using h, rfl⟩

theorem looksAt_guard {ops : Array Oper} {o : Oper} {j d : Nat} {w : Bool} (hg : o.guard = some (j, w)) (hd : (ops[j]?).bind (·.dst) = some d) : d ∈ o.looksAt ops := by
  unfold Oper.looksAt
  rw [List.mem_append]
  right
  simp [hg, hd]

structure Apart2 (ops : Array Oper) (x y : Oper) : Prop where
  look : ∀ d, x.dst = some d → d ∉ y.looksAt ops
  dst : ∀ d, x.dst = some d → y.dst ≠ some d
  st : isStore x.op = true → isLoad y.op = false ∧ isStore y.op = false
  ap : isAppend x.op = true → isAppend y.op = false

theorem indep_spec {ops : Array Oper} {x y : Oper} (h : indep ops x y = true) : Apart2 ops x y ∧ Apart2 ops y x := by
  unfold indep at h
  simp only [Bool.and_eq_true, Bool.not_eq_true'] at h
  obtain ⟨⟨⟨h1, h2⟩, h3⟩, h4⟩ := h
  obtain ⟨a1, a2, a3⟩ := Oper.apart_spec h1
  refine ⟨⟨a1, a2, fun hs => ?_, fun hs => ?_⟩, ⟨a3, fun d hd hx => a2 d hx hd, fun hs => ?_, fun hs => ?_⟩⟩
  · rw [hs] at h2; simpa using h2
  · rw [hs] at h4; simpa using h4
  · rw [hs] at h3; simpa using h3
  · rw [hs] at h4; simpa using h4

theorem alike_of {ops : Array Oper} {x y : Oper} {u : Upd} (hu : effD τ Γ ops s x = some u) (hw : WF s) (hap : Apart2 ops x y) :
    Alike s (u.apply x.dst s) y ∧ wantedL ops (u.apply x.dst s) y = wantedL ops s y := by
  refine ⟨⟨fun z hz => ?_, fun d hd => ?_, fun hls z hz d g off he => ?_, fun hy => ?_⟩, ?_⟩
  · cases z with
    | tmp i =>
      have := u.apply_t x.dst s i (fun d hd hid => hap.look d hd (by subst hid; exact looksAt_op hz))
      exact ⟨this.1, this.2⟩
    | _ => exact ⟨rfl, rfl⟩
  · unfold Upd.apply
    rw [S.put_g]
    rcases effD_kind hu with h | ⟨d', c, h1, h2⟩ | ⟨_, _, _, _, _, _, _, _, _, _, h⟩ | ⟨_, _, _, h⟩
    · rw [h]; rfl
    · rw [h2]
      have hne : d ≠ d' := fun e => hap.dst d' h1 (e ▸ hd)
      simp only [MU.apply, upd_ne _ _ hne]
    · rw [h]; rfl
    · rw [h]; rfl
  · unfold Upd.apply
    rw [S.put_b]
    rcases effD_kind hu with h | ⟨d', c, h1, h2⟩ | ⟨h0, _⟩ | ⟨_, _, _, h⟩
    · rw [h]; rfl
    · rw [h2]
      have hgd : g ≤ s.g d := hw.eval z (d, g) (by rw [he]; simp [LV.keys])
      simp only [MU.apply]
      rw [if_neg]
      rintro ⟨rfl, rfl⟩
      omega
    · obtain ⟨h3, h4⟩ := hap.st h0
      rw [h3, h4] at hls
      simp at hls
    · rw [h]; rfl
  · unfold Upd.apply
    rw [S.put_tv]
    rcases effD_kind hu with h | ⟨d', c, h1, h2⟩ | ⟨_, _, _, _, _, _, _, _, _, _, h⟩ | ⟨h0, _⟩
    · rw [h]; rfl
    · rw [h2]; rfl
    · rw [h]; rfl
    · rw [hap.ap h0] at hy; cases hy
  · unfold wantedL
    cases hg : y.guard with
    | none => rfl
    | some p =>
      obtain ⟨j, w⟩ := p
      simp only
      cases hd : (ops[j]?).bind (·.dst) with
      | none => rfl
      | some d =>
        simp only
        rw [(u.apply_t x.dst s d (fun d' hd' hid => hap.look d' hd' (by subst hid; exact looksAt_guard hg hd))).1]

theorem effD_alike {ops : Array Oper} {o : Oper} (h : Alike s s' o) (hw : wantedL ops s' o = wantedL ops s o) : effD τ Γ ops s' o = effD τ Γ ops s o := by
  unfold effD
  rw [hw, eff_alike h, finds_alike h]

theorem upd_comm {α : Type} (f : Nat → α) {d e : Nat} (x y : α) (h : d ≠ e) : upd (upd f d x) e y = upd (upd f e y) d x := by
  funext i
  by_cases h1 : i = d
  · subst h1; simp [upd, h]
  · by_cases h2 : i = e
    · subst h2; simp [upd, h1]
    · simp [upd, h1, h2]

theorem S.put_comm (s : S) {x y : Option Nat} (l l' : LV) (tg tg' : Tag) (h : ∀ d, x = some d → y ≠ some d) : (s.put x l tg).put y l' tg' = (s.put y l' tg').put x l tg := by
  cases x with
  | none => rfl
  | some d =>
    cases y with
    | none => rfl
    | some e =>
      have hne : d ≠ e := fun he => h d rfl (he ▸ rfl)
      simp only [S.put_some, upd_comm _ _ _ hne]

theorem MU.apply_put (m : MU) (s : S) (x : Option Nat) (l : LV) (tg : Tag) : m.apply (s.put x l tg) = (m.apply s).put x l tg := by
  cases x <;> cases m <;> rfl

theorem S.ext' {s s' : S} (h10 : s.yl = s'.yl) (h8 : s.k = s'.k) (h9 : s.st = s'.st) (h1 : s.t = s'.t) (h2 : s.o = s'.o) (h3 : s.b = s'.b) (h4 : s.g = s'.g) (h5 : s.tv = s'.tv) (h7 : s.mkd = s'.mkd) : s = s' := by
  cases s; cases s'; simp_all

def MU.simple : MU → Bool
  | .renew .. => false
  | .objs .. => false
  | _ => true

theorem MU.apply_comm {m n : MU} (hn : n.simple = true) (h : (∃ d g off c, m = .store d g off c ∧ (∀ d' c', n = .box d' c' → (d, g) ≠ (d', s.g d' + 1)) ∧ (∀ d' g' o' c', n ≠ .store d' g' o' c')) ∨
      (∃ d c, m = .box d c ∧ (∀ d' c', n = .box d' c' → d ≠ d') ∧ (∀ d' g' o' c', n = .store d' g' o' c' → (d', g') ≠ (d, s.g d + 1))) ∨
      (∃ t v, m = .tok t v ∧ ∀ t' v', n ≠ .tok t' v') ∨ m = .none) : m.apply (n.apply s) = n.apply (m.apply s) := by
  rcases h with ⟨d, g, off, c, rfl, h1, h2⟩ | ⟨d, c, rfl, h1, h2⟩ | ⟨t, v, rfl, h1⟩ | rfl
  · cases n with
    | renew => cases hn
    | objs => cases hn
    | none => rfl
    | store => exact absurd rfl (h2 _ _ _ _)
    | tok => rfl
    | box d' c' =>
      have hne := h1 d' c' rfl
      refine S.ext' rfl rfl rfl rfl rfl ?_ rfl rfl rfl
      funext x y
      simp only [MU.apply]
      by_cases h3 : x = d ∧ y = g
      · obtain ⟨rfl, rfl⟩ := h3
        have h4 : ¬ (x = d' ∧ y = s.g d' + 1) := fun ⟨e1, e2⟩ => hne (by rw [e2, e1])
        simp [h4]
      · by_cases h4 : x = d' ∧ y = s.g d' + 1
        · obtain ⟨rfl, rfl⟩ := h4
          have : ¬ (x = d ∧ s.g x + 1 = g) := fun ⟨e1, e2⟩ => h3 ⟨e1, e2⟩
          simp [this]
        · simp [h3, h4]
  · cases n with
    | renew => cases hn
    | objs => cases hn
    | none => rfl
    | tok => rfl
    | store d' g' o' c' =>
      have hne := h2 d' g' o' c' rfl
      refine S.ext' rfl rfl rfl rfl rfl ?_ rfl rfl rfl
      funext x y
      simp only [MU.apply]
      by_cases h3 : x = d ∧ y = s.g d + 1
      · obtain ⟨rfl, rfl⟩ := h3
        have h4 : ¬ (x = d' ∧ s.g x + 1 = g') := fun ⟨e1, e2⟩ => hne (by rw [← e1, ← e2])
        simp [h4]
      · by_cases h4 : x = d' ∧ y = g'
        · obtain ⟨rfl, rfl⟩ := h4
          have h5 : ¬ (x = d ∧ y = s.g d + 1) := h3
          simp [h5]
        · simp [h3, h4]
    | box d' c' =>
      have hne := h1 d' c' rfl
      have hne' : d' ≠ d := Ne.symm hne
      refine S.ext' rfl rfl rfl rfl rfl ?_ ?_ rfl rfl
      · funext x y
        simp only [MU.apply, upd_ne _ _ hne, upd_ne _ _ hne']
        by_cases h3 : x = d ∧ y = s.g d + 1
        · obtain ⟨rfl, rfl⟩ := h3
          simp [hne]
        · by_cases h4 : x = d' ∧ y = s.g d' + 1
          · obtain ⟨rfl, rfl⟩ := h4
            simp [hne']
          · simp [h3, h4]
      · simp only [MU.apply, upd_ne _ _ hne, upd_ne _ _ hne']
        exact upd_comm _ _ _ hne'
  · cases n with
    | tok => exact absurd rfl (h1 _ _)
    | _ => rfl
  · rfl

theorem swap {ops : Array Oper} {x y : Oper} {s1 s2 : S} (hi : indep ops x y = true) (hw : WF s) (h1 : stepD τ Γ ops x s = some s1) (h2 : stepD τ Γ ops y s1 = some s2) :
    ∃ s1', stepD τ Γ ops y s = some s1' ∧ stepD τ Γ ops x s1' = some s2 := by
  obtain ⟨hxy, hyx⟩ := indep_spec hi
  rw [stepD_eq] at h1 h2
  obtain ⟨u1, e1, rfl⟩ := Option.map_eq_some_iff.1 h1
  obtain ⟨u2, e2, rfl⟩ := Option.map_eq_some_iff.1 h2
  have hA := alike_of e1 hw hxy
  have e2' : effD τ Γ ops s y = some u2 := by rw [← effD_alike hA.1 hA.2]; exact e2
  have hB := alike_of e2' hw hyx
  refine ⟨u2.apply y.dst s, by rw [stepD_eq, e2']; rfl, ?_⟩
  rw [stepD_eq, effD_alike hB.1 hB.2, e1]
  simp only [Option.map_some, Option.some.injEq]
  unfold Upd.apply
  rw [MU.apply_put, MU.apply_put, S.put_comm _ _ _ _ _ (fun d hd => hyx.dst d hd)]
  congr 2
  refine MU.apply_comm (by rcases effD_kind e2' with k | ⟨_, _, _, k⟩ | ⟨_, _, _, _, _, _, _, _, _, _, k⟩ | ⟨_, _, _, k⟩ <;> rw [k] <;> rfl) ?_
  rcases effD_kind e1 with h | ⟨d, c, hd, h⟩ | ⟨hs, z, hz, d, g, off, off', c, he, hb, h⟩ | ⟨ha, t, v, h⟩
  · exact .inr (.inr (.inr h))
  · refine .inr (.inl ⟨d, c, h, fun d' c' hn hdd => ?_, fun d' g' o' c' hn => ?_⟩)
    · rcases effD_kind e2' with k | ⟨d2, c2, hd2, k⟩ | ⟨_, _, _, _, _, _, _, _, _, _, k⟩ | ⟨_, _, _, k⟩ <;> rw [k] at hn <;> cases hn
      subst hdd
      exact hxy.dst d hd hd2
    · rcases effD_kind e2' with k | ⟨d2, c2, hd2, k⟩ | ⟨_, z2, _, d2, g2, off2, _, _, he2, _, k⟩ | ⟨_, _, _, k⟩ <;> rw [k] at hn <;> cases hn
      intro hp
      have : g' ≤ s.g d' := hw.eval z2 (d', g') (by rw [he2]; simp [LV.keys])
      simp only [Prod.mk.injEq] at hp
      obtain ⟨rfl, rfl⟩ := hp
      omega
  · refine .inl ⟨d, g, off', c, h, fun d' c' hn hp => ?_, fun d' g' o' c' hn => ?_⟩
    · have : g ≤ s.g d := hw.eval z (d, g) (by rw [he]; simp [LV.keys])
      simp only [Prod.mk.injEq] at hp
      obtain ⟨rfl, rfl⟩ := hp
      omega
    · rcases effD_kind e2' with k | ⟨d2, c2, hd2, k⟩ | ⟨hs2, z2, _, d2, g2, off2, _, _, he2, _, k⟩ | ⟨_, _, _, k⟩ <;> rw [k] at hn <;> try (cases hn; done)
      have := (hxy.st hs).2
      rw [hs2] at this
      cases this
  · refine .inr (.inr (.inl ⟨t, v, h, fun t' v' hn => ?_⟩))
    rcases effD_kind e2' with k | ⟨d2, c2, hd2, k⟩ | ⟨_, _, _, _, _, _, _, _, _, _, k⟩ | ⟨ha2, _, _, k⟩ <;> rw [k] at hn <;> try (cases hn; done)
    have := hxy.ap ha
    rw [ha2] at this
    cases this

theorem runD_front {ops : Array Oper} {j : Nat} {oj : Oper} (hj : ops[j]? = some oj) : ∀ (L1 L2 : List Nat) {s s' : S}, WF s → (∀ x ∈ L1, ∃ ox, ops[x]? = some ox ∧ indep ops ox oj = true) → runIx (stepD τ Γ ops) ops (L1 ++ j :: L2) s = some s' →
    ∃ s1, stepD τ Γ ops oj s = some s1 ∧ runIx (stepD τ Γ ops) ops (L1 ++ L2) s1 = some s'
  | [], L2, s, s', hw, _, hr => by
    simp only [List.nil_append, runIx, hj] at hr
    obtain ⟨s1, h1, h2⟩ := Option.bind_eq_some_iff.1 hr
    exact ⟨s1, h1, h2⟩
  | x :: L1, L2, s, s', hw, hL, hr => by
    obtain ⟨ox, hox, hin⟩ := hL x (by simp)
    simp only [List.cons_append, runIx, hox] at hr
    obtain ⟨s1, h1, h2⟩ := Option.bind_eq_some_iff.1 hr
    obtain ⟨s2, h3, h4⟩ := runD_front hj L1 L2 (hw.stepD h1) (fun y hy => hL y (by simp [hy])) h2
    obtain ⟨s1', h5, h6⟩ := swap hin hw h1 h3
    refine ⟨s1', h5, ?_⟩
    simp only [List.cons_append, runIx, hox, h6, Option.bind_some]
    exact h4

theorem SimG.WF (h : SimG C G s a W) : LI.WF s := by
  refine ⟨h.wf, fun d g cells hb q hq k hk => ?_⟩
  obtain ⟨cur, e, hh, hsz, hat⟩ := h.boxAt hb
  obtain ⟨j, hj⟩ := List.mem_iff_getElem?.1 hq
  exact (hat j q hj).2.2.2.2 k hk

/-- What is listed has listed all that it waits for. -/
def Closed (ops : Array Oper) (listed : Array Bool) : Prop :=
  ∀ (i : Nat) o, ops[i]? = some o → listed.getD i false = true → ∀ e ∈ o.after, Region.binds .any e = true → listed.getD e.on false = true

theorem reach_listed {ops : Array Oper} {listed : Array Bool} (hc : Closed ops listed) (x : Nat) : ∀ (n j : Nat) o, ops[j]? = some o → reach ops n j x = true → (∀ e ∈ o.after, Region.binds .any e = true → listed.getD e.on false = true) → listed.getD x false = true
  | 0, j, o, _, h, _ => by simp [reach] at h
  | n + 1, j, o, ho, h, hd => by
    simp only [reach, ho, List.any_eq_true] at h
    obtain ⟨e, he, h⟩ := h
    have he : e ∈ o.after := by simpa using he
    simp only [Bool.and_eq_true, Bool.or_eq_true, beq_iff_eq] at h
    obtain ⟨hb, h⟩ := h
    have hl := hd e he hb
    rcases h with h | h
    · rw [← h]; exact hl
    · cases n with
      | zero => simp [reach] at h
      | succ n =>
        cases ho' : ops[e.on]? with
        | none => simp [reach, ho'] at h
        | some o' => exact reach_listed hc x (n + 1) e.on o' ho' h (fun e' he' hb' => hc e.on o' ho' hl e' he' hb')

theorem filter_split {p : Nat → Bool} {n j : Nat} (hj : j < n) (hp : p j = true) :
    (List.range n).filter p = ((List.range j).filter p) ++ j :: ((List.range n).filter fun i => p i && decide (j < i)) := by
  have hn : n = j + 1 + (n - j - 1) := by omega
  generalize hm : n - j - 1 = m at hn
  subst hn
  rw [List.range_add, List.range_succ, List.filter_append, List.filter_append, List.filter_append, List.filter_append]
  simp only [List.filter_cons, hp, if_true, List.filter_nil, Nat.lt_irrefl, decide_false, Bool.and_false, Bool.false_eq_true, if_false]
  have h1 : (List.range j).filter (fun i => p i && decide (j < i)) = [] := by
    rw [List.filter_eq_nil_iff]
    intro i hi
    have := List.mem_range.1 hi
    simp; omega
  have h2 : (List.filter p ((List.range m).map (fun x => j + 1 + x))) = List.filter (fun i => p i && decide (j < i)) ((List.range m).map (fun x => j + 1 + x)) := by
    apply List.filter_congr
    intro i hi
    obtain ⟨k, _, rfl⟩ := List.mem_map.1 hi
    have : j < j + 1 + k := by omega
    simp [this]
  rw [h1, h2]
  simp

theorem listed_getD {listed : Array Bool} {n i : Nat} (hs : listed.size = n) (hi : i < n) : listed.getD i true = listed.getD i false := by
  have h : i < listed.size := by omega
  simp [h]

theorem runAny_sim {rnd : Option Nat} {m : Nat} (hτ : TabOk P τ) (hΓ : EnvOk P Γ) {ops : Array Oper} (hn : ∀ o ∈ ops, DstOk C o) (hok : drawOk ops = true) {s' : S} (hk : ∀ a' W', Sim C s' a' W' → Q .normal a' W') :
    ∀ (fuel : Nat) (listed : Array Bool) {s : S} {a : Act} {W : World}, listed.size = ops.size → Closed ops listed → ((List.range ops.size).filter fun i => !listed.getD i true).length ≤ fuel → Sim C s a W →
      runIx (stepD τ Γ ops) ops ((List.range ops.size).filter fun i => !listed.getD i true) s = some s' → wpAnyIn (fenceOf rnd) m P .any ops Q fuel listed a W := by
  unfold drawOk at hok
  rw [Bool.and_eq_true, List.all_eq_true, List.all_eq_true] at hok
  obtain ⟨hok1, hok2⟩ := hok
  have hready : ∀ (listed : Array Bool), listed.size = ops.size → Region.ready .any ops listed = [] → ((List.range ops.size).filter fun i => !listed.getD i true) = [] := by
    intro listed hsz hr
    rw [List.filter_eq_nil_iff]
    intro j
    induction j using Nat.strongRecOn with
    | _ j ih =>
      intro hj hjl
      have hjn := List.mem_range.1 hj
      have hjl' : listed.getD j true = false := by simpa using hjl
      have hmem : j ∉ Region.ready .any ops listed := by rw [hr]; simp
      apply hmem
      rw [mem_ready]
      refine ⟨hjl', ops[j], Array.getElem?_eq_getElem hjn, fun e he hb => ?_⟩
      have := hok2 j hj
      rw [Array.getElem?_eq_getElem hjn] at this
      simp only [List.all_eq_true] at this
      have hlt := this e (by simpa using he)
      rw [hb] at hlt
      simp only [Bool.not_true, Bool.false_or, decide_eq_true_eq] at hlt
      have h2 := ih e.on hlt (List.mem_range.2 (by omega))
      rw [← listed_getD hsz (by omega)]
      simpa using h2
  have hsub : ∀ (listed : Array Bool), ((List.range ops.size).filter fun i => !listed.getD i true) = [] → Region.ready .any ops listed = [] := by
    intro listed h
    rw [List.eq_nil_iff_forall_not_mem]
    intro j hj
    obtain ⟨h0, o, ho, _⟩ := mem_ready.1 hj
    have := List.filter_eq_nil_iff.1 h j (List.mem_range.2 (Array.getElem?_eq_some_iff.1 ho).1)
    rw [h0] at this
    simp at this
  intro fuel
  induction fuel with
  | zero =>
    intro listed s a W hsz hc hlen h hr
    have hnil := List.eq_nil_of_length_eq_zero (Nat.le_zero.1 hlen)
    rw [hnil] at hr
    simp only [runIx, Option.some.injEq] at hr
    subst hr
    exact ⟨hsub listed hnil, hk _ _ h⟩
  | succ fuel ih =>
    intro listed s a W hsz hc hlen h hr
    refine ⟨fun hnil => ?_, fun j hj => ?_⟩
    · rw [hready listed hsz hnil] at hr
      simp only [runIx, Option.some.injEq] at hr
      subst hr
      exact hk _ _ h
    · obtain ⟨h0, oj, hoj, hdeps⟩ := mem_ready.1 hj
      have hjn : j < ops.size := (Array.getElem?_eq_some_iff.1 hoj).1
      have hsplit := filter_split (p := fun i => !listed.getD i true) hjn (by simp only [h0]; rfl)
      rw [hsplit] at hr hlen
      obtain ⟨G, hG⟩ := h
      obtain ⟨s1, h1, h2⟩ := runD_front hoj _ _ hG.WF (fun x hx => by
        obtain ⟨hx1, hx2⟩ := List.mem_filter.1 hx
        have hxj := List.mem_range.1 hx1
        have hxn : x < ops.size := by omega
        refine ⟨ops[x], Array.getElem?_eq_getElem hxn, ?_⟩
        have := List.all_eq_true.1 (hok1 j (List.mem_range.2 hjn)) x hx1
        rw [Array.getElem?_eq_getElem hxn, hoj] at this
        simp only [Bool.or_eq_true] at this
        rcases this with h | h
        · have hl := reach_listed hc x _ j oj hoj h hdeps
          rw [← listed_getD hsz hxn] at hl
          rw [hl] at hx2
          simp at hx2
        · exact h) hr
      have hget : ∀ i, i ≠ j → (listed.setIfInBounds j true).getD i true = listed.getD i true := fun i hi => getD_set_ne true (Ne.symm hi)
      have hset : (listed.setIfInBounds j true).getD j true = true := by
        have : j < listed.size := by omega
        simp [this]
      have hrest : ((List.range ops.size).filter fun i => !(listed.setIfInBounds j true).getD i true) = ((List.range j).filter fun i => !listed.getD i true) ++ ((List.range ops.size).filter fun i => (!listed.getD i true) && decide (j < i)) := by
        have e1 : ((List.range ops.size).filter fun i => !(listed.setIfInBounds j true).getD i true) = ((List.range ops.size).filter fun i => !listed.getD i true).filter fun i => decide (i ≠ j) := by
          rw [List.filter_filter]
          apply List.filter_congr
          intro i _
          by_cases hij : i = j
          · subst hij; rw [hset]; simp
          · rw [hget i hij]; simp [hij]
        rw [e1, hsplit, List.filter_append, List.filter_cons]
        simp only [ne_eq, not_true_eq_false, decide_false, Bool.false_eq_true, if_false]
        congr 1
        · rw [List.filter_eq_self]
          intro i hi
          have := List.mem_range.1 (List.mem_filter.1 hi).1
          simp; omega
        · rw [List.filter_eq_self]
          intro i hi
          have := (List.mem_filter.1 hi).2
          simp only [Bool.and_eq_true, decide_eq_true_eq] at this
          simp; omega
      refine step_sim hτ hΓ.own hn hoj hG (stepD_step h1) (fun a' W' hs => ih _ (by simpa using hsz) ?_ ?_ hs (by rw [hrest]; exact h2))
      · intro i o ho hl e he hb
        by_cases hij : i = j
        · subst hij
          rw [hoj] at ho
          cases ho
          exact getD_set_true (hdeps e he hb)
        · rw [getD_set_ne false (Ne.symm hij)] at hl
          exact getD_set_true (hc i o ho hl e he hb)
      · rw [hrest]
        simp only [List.length_append, List.length_cons] at hlen ⊢
        omega

theorem SimG.drew (h : SimG C G s a W) : SimG C G s a { W with drawn := W.drawn + 1 } := by
  have hag : Agree G.Pr W { W with drawn := W.drawn + 1 } := fun _ _ => rfl
  refine ⟨h.ex.step ⟨rfl, rfl, rfl, Nat.le_refl _, fun _ _ _ => rfl, fun _ cur _ hc => ⟨cur, hc, rfl⟩, Nat.le_succ _⟩ (fun _ _ h _ => h) h.pr0 hag (fun _ => Nat.le_refl _) (fun _ _ _ => ⟨rfl, rfl, rfl⟩) (fun _ _ _ => id) rfl h.ex.yo2 h.ex.yo3 ⟨rfl, rfl, rfl⟩ (fun _ _ => id) (fun _ _ => .inl), h.size, fun hy => ⟨(h.below hy).os, (h.below hy).tape, (h.below hy).output, (h.below hy).size, (h.below hy).block, (h.below hy).kept, Nat.le_succ_of_le (h.below hy).drawn⟩, h.mkd, h.base_le, h.prb, h.pr0, h.pr, fun i => (h.temp i).move hag (fun _ _ => id) rfl rfl rfl, h.tag, fun d g cells hd => ?_, h.inj, h.gen, h.wf, h.own, h.ownne, h.prx⟩
  obtain ⟨h1, ⟨cur, e, hh, hsz, hcz, hr⟩, h3⟩ := h.box d g cells hd
  refine ⟨h1, ⟨cur, e, hh, hsz, hcz, fun j l tg u h4 h5 => ?_⟩, h3⟩
  obtain ⟨a1, a2, a3⟩ := hr j l tg u h4 h5
  exact ⟨a1.move hag (fun _ _ => id) rfl rfl rfl, a2, a3⟩

theorem draw_sim {rnd : Option Nat} {m : Nat} (hm : P.follows .mixedOrders = true) (hτ : TabOk P τ) (hΓ : EnvOk P Γ) {id : Nat} {ops : Array Oper} (hn : ∀ o ∈ ops, DstOk C o) (hok : drawOk ops = true) {s' : S} (h : Sim C s a W) (hr : stepsD τ Γ ops ops.toList s = some s')
    (hk : ∀ a' W', Sim C s' a' W' → Q .normal a' W') : (Code.region id ops true).wpIn (fenceOf rnd) m P Q a W := by
  obtain ⟨G, hG⟩ := h
  have hall : ((List.range ops.size).filter fun i => !(Array.replicate ops.size false).getD i true) = List.range ops.size := by
    rw [List.filter_eq_self]
    intro i hi
    have := List.mem_range.1 hi
    simp [this]
  refine wpIn_region_any hm (runAny_sim hτ hΓ hn hok hk _ _ (by simp) (fun i o _ hl => ?_) (by rw [hall]; simp) ⟨G, hG.drew⟩ (by rw [hall, runIx_stepsD]; exact hr))
  by_cases hi : i < ops.size
  · simp [hi] at hl
  · simp [hi] at hl
end
end Go.LI
