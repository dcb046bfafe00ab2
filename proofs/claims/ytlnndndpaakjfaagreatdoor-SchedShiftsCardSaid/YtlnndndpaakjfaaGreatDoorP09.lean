/- Texts of a small semantics over the model and of specifications of functions, joined: LIDraw, LISwap. -/
import Derived.Test.YtlnndndpaakjfaaGreatDoorP08
set_option linter.unusedSimpArgs false
set_option linter.unusedVariables false
namespace Go.LI
open Go Go.RowKit

section
variable {C : Ctx} {G : Gh} {s s' : S} {a : Act} {W : World}
variable {P : Program} {τ : Tab} {Γ : Env} {K : Act → World → Prop} {Q : Exit → Act → World → Prop}

theorem mapEval {xs : List Operand} (h : ∀ x ∈ xs, s'.eval x = s.eval x) : xs.map s'.eval = xs.map s.eval := List.map_congr_left h

/-- What is asked of a state for an operation to do just the same. -/
structure Alike (s s' : S) (o : Oper) : Prop where
  ev : ∀ x ∈ o.op.operands, s'.eval x = s.eval x ∧ s'.tag x = s.tag x
  gen : ∀ d, o.dst = some d → s'.g d = s.g d
  mem : isLoad o.op = true ∨ isStore o.op = true → ∀ x ∈ o.op.operands, ∀ d g off, s.eval x = .ptr d g off → s'.b d g = s.b d g
  tok : isAppend o.op = true → s'.tv = s.tv

theorem finds_alike {o : Oper} (h : Alike s s' o) : finds s' o.op = finds s o.op := by
  cases ho : o.op <;> try rfl
  rename_i t x
  have := (h.ev x (by rw [ho]; simp [Op.operands])).1
  simp only [finds, this]

theorem lendCall_own (s : S) (dst : Option Nat) (f : LV) (args : List LV) : lendCall Γ.own s dst f args = none := by
  unfold lendCall
  split <;> rfl

/-- Nothing is copied or cleared in memory of the frame's own. -/
theorem effCall_own_copy {s : S} {dst : Option Nat} {c : Call} (hc : c.callee = .builtin .copy) : effCall τ Γ.own s dst c = none := by
  unfold effCall
  rw [hc]
  simp only [Env.own, Bool.false_eq_true, false_and, if_false]
  split
  · split <;> rfl
  · rfl
theorem effCall_own_clear {s : S} {dst : Option Nat} {c : Call} (hc : c.callee = .builtin .clear) : effCall τ Γ.own s dst c = none := by
  unfold effCall
  rw [hc]
  simp only [Env.own, Bool.false_eq_true, if_false]
  split
  · split <;> rfl
  · rfl

theorem eff_alike {o : Oper} (h : Alike s s' o) : eff τ Γ.own s' o = eff τ Γ.own s o := by
  obtain ⟨ev, gen, mem, tok⟩ := h
  cases ho : o.op
  case call c =>
    rw [ho] at ev tok
    have hargs : ∀ x ∈ c.args, s'.eval x = s.eval x ∧ s'.tag x = s.tag x := fun x hx => ev x (by simp [Op.operands, Call.operands, hx])
    have hmap : c.args.toList.map s'.eval = c.args.toList.map s.eval := mapEval fun x hx => (hargs x (by simpa using hx)).1
    simp only [eff, ho]
    by_cases hcp : c.callee = .builtin .copy
    · rw [effCall_own_copy hcp, effCall_own_copy hcp]
    by_cases hcl : c.callee = .builtin .clear
    · rw [effCall_own_clear hcl, effCall_own_clear hcl]
    simp only [effCall]
    cases hc : c.callee with
    | value f => simp only [hmap, (ev f (by simp [Op.operands, Call.operands, hc])).1, lendCall_own]
    | invoke x name => simp only [hmap, (ev x (by simp [Op.operands, Call.operands, hc])).1]
    | builtin b =>
      cases b
      case len =>
        simp only
        split
        · rename_i x hx
          have hx' := hargs x (by have : x ∈ c.args.toList := by rw [hx]; simp
                                  simpa using this)
          simp only [hx'.1]
        · rfl
      case append =>
        simp only
        split
        · rename_i sx xx t t' d hx _ hdst
          have h1 := hargs sx (by have : sx ∈ c.args.toList := by rw [hx]; simp
                                  simpa using this)
          have h2 := hargs xx (by have : xx ∈ c.args.toList := by rw [hx]; simp
                                  simpa using this)
          have h3 := tok (by simp [isAppend, hc])
          simp only [h1.1, h1.2, h2.1, h3, Env.own, Bool.false_eq_true, false_and, and_false, if_false]
          split
          · split
            · rfl
            split
            · rename_i d0 g0 _ _ _ _
              cases elemOf τ t <;> cases (s.eval xx).asList <;> cases s'.b d0 g0 <;> cases s.b d0 g0 <;> rfl
            · rfl
          · rfl
        · rfl
      case min => simp only [hmap]
      case max => simp only [hmap]
      case copy => exact absurd hc hcp
      case clear => exact absurd hc hcl
      all_goals rfl
  case build t parts =>
    rw [ho] at ev
    have hp : ∀ p ∈ parts.toList, s'.eval p.2 = s.eval p.2 := fun p hp => (ev p.2 (by
      simp only [Op.operands, List.mem_toArray, List.mem_map]
      exact ⟨p, hp, rfl⟩)).1
    have h1 : (parts.toList.map fun p => (p.1, s'.eval p.2)) = parts.toList.map fun p => (p.1, s.eval p.2) := List.map_congr_left fun p hpp => by rw [hp p hpp]
    have h2 : (parts.toList.all fun p => (s'.eval p.2).cells.all LV.one) = (parts.toList.all fun p => (s.eval p.2).cells.all LV.one) := by
      rw [Bool.eq_iff_iff, List.all_eq_true, List.all_eq_true]
      exact ⟨fun h p hpp => by rw [← hp p hpp]; exact h p hpp, fun h p hpp => by rw [hp p hpp]; exact h p hpp⟩
    simp only [eff, ho, h1, h2]
  case buildSlice t len parts =>
    rw [ho] at ev
    have hp : ∀ p ∈ parts.toList, s'.eval p.2 = s.eval p.2 := fun p hp => (ev p.2 (by
      simp only [Op.operands, List.mem_toArray, List.mem_map]
      exact ⟨p, hp, rfl⟩)).1
    have h1 : (parts.toList.map fun p => (p.1, s'.eval p.2)) = parts.toList.map fun p => (p.1, s.eval p.2) := List.map_congr_left fun p hpp => by rw [hp p hpp]
    have h2 : (parts.toList.all fun p => (s'.eval p.2).cells.all LV.one) = (parts.toList.all fun p => (s.eval p.2).cells.all LV.one) := by
      rw [Bool.eq_iff_iff, List.all_eq_true, List.all_eq_true]
      exact ⟨fun h p hpp => by rw [← hp p hpp]; exact h p hpp, fun h p hpp => by rw [hp p hpp]; exact h p hpp⟩
    simp only [eff, ho, h1, h2]
    cases elemOf τ t with
    | none => rfl
    | some p =>
      simp only
      split
      · cases hd : o.dst with
        | none => rfl
        | some d => simp only [gen d hd]
      · rfl
  case makeInterface t x => rw [ho] at ev; have hx := ev x (by simp [Op.operands]); simp only [eff, ho, hx.1]
  case typeAssert x t0 t ok => rw [ho] at ev; have hx := ev x (by simp [Op.operands]); simp only [eff, ho, hx.1]
  case slice t x lo hi mx =>
    rw [ho] at ev
    have hx := (ev x (by simp [Op.operands])).1
    have hlo : lo.map s'.eval = lo.map s.eval := by
      cases lo with
      | none => rfl
      | some l => simp only [Option.map_some, (ev l (by simp [Op.operands])).1]
    have hhi : hi.map s'.eval = hi.map s.eval := by
      cases hi with
      | none => rfl
      | some l => simp only [Option.map_some, (ev l (by simp [Op.operands])).1]
    have hmx : mx.map s'.eval = mx.map s.eval := by
      cases mx with
      | none => rfl
      | some l => simp only [Option.map_some, (ev l (by simp [Op.operands])).1]
    simp only [eff, ho, hx, hlo, hhi, hmx]
  case makeFunc fn first captured =>
    rw [ho] at ev
    have h1 : first.toList.map s'.eval = first.toList.map s.eval := mapEval fun x hx => (ev x (by simp [Op.operands] at hx ⊢; exact .inl hx)).1
    have h2 : captured.toList.map s'.eval = captured.toList.map s.eval := mapEval fun x hx => (ev x (by simp [Op.operands] at hx ⊢; exact .inr hx)).1
    simp only [eff, ho, h1, h2]
  case makeSlice t x y =>
    rw [ho] at ev
    have hx := (ev x (by simp [Op.operands])).1
    have hy := (ev y (by simp [Op.operands])).1
    simp only [eff, ho, hx, hy]
    split
    · rename_i e ti k n k' m d h1 h2 h3 hdst
      simp only [gen d hdst]
    · rfl
  case load t x =>
    rw [ho] at ev mem
    have hx := (ev x (by simp [Op.operands])).1
    simp only [eff, ho, hx]
    cases hl : s.eval x with
    | ptr d g off => simp only [mem (.inl rfl) x (by simp [Op.operands]) d g off hl]
    | _ => rfl
  case store t y x =>
    rw [ho] at ev mem
    have hy := (ev y (by simp [Op.operands])).1
    have hx := ev x (by simp [Op.operands])
    simp only [eff, ho, hy, hx.1, hx.2]
    cases τ t with
    | none => rfl
    | some ti =>
      cases hl : s.eval y with
      | ptr d g off => simp only [mem (.inr rfl) y (by simp [Op.operands]) d g off hl]
      | _ => rfl
  case alloc t =>
    simp only [eff, ho]
    cases τ t with
    | none => rfl
    | some ti =>
      cases hd : o.dst with
      | none => rfl
      | some d => simp only [gen d hd]
  case box t x =>
    rw [ho] at ev
    have hx := (ev x (by simp [Op.operands])).1
    simp only [eff, ho, hx]
    cases τ t with
    | none => rfl
    | some ti =>
      cases hd : o.dst with
      | none => rfl
      | some d => simp only [gen d hd]
  case move x => rw [ho] at ev; have hx := ev x (by simp [Op.operands]); simp only [eff, ho, hx.1, hx.2]
  case assign x => rw [ho] at ev; have hx := ev x (by simp [Op.operands]); simp only [eff, ho, hx.1, hx.2]
  case pick c x y =>
    rw [ho] at ev
    have h1 := ev c (by simp [Op.operands])
    have h2 := ev x (by simp [Op.operands])
    have h3 := ev y (by simp [Op.operands])
    simp only [eff, ho, h1.1, h2.1, h2.2, h3.1, h3.2]
  case nilCheck x => rw [ho] at ev; have hx := ev x (by simp [Op.operands]); simp only [eff, ho, hx.1]
  case unOp op t x => rw [ho] at ev; have hx := ev x (by simp [Op.operands]); simp only [eff, ho, hx.1]
  case binOp op t x y t' =>
    rw [ho] at ev
    have hx := ev x (by simp [Op.operands])
    have hy := ev y (by simp [Op.operands])
    simp only [eff, ho, hx.1, hy.1]
  case convert t t' x => rw [ho] at ev; have hx := ev x (by simp [Op.operands]); simp only [eff, ho, hx.1]
  case fieldAddr t x f => rw [ho] at ev; have hx := ev x (by simp [Op.operands]); simp only [eff, ho, hx.1]
  case field t x f => rw [ho] at ev; have hx := ev x (by simp [Op.operands]); simp only [eff, ho, hx.1]
  case extract x f => rw [ho] at ev; have hx := ev x (by simp [Op.operands]); simp only [eff, ho, hx.1]
  case indexAddr t x y =>
    rw [ho] at ev
    have hx := ev x (by simp [Op.operands])
    have hy := ev y (by simp [Op.operands])
    simp only [eff, ho, hx.1, hy.1]
  case index t x y =>
    rw [ho] at ev
    have hx := ev x (by simp [Op.operands])
    have hy := ev y (by simp [Op.operands])
    simp only [eff, ho, hx.1, hy.1]
  all_goals simp only [eff, ho]

def isNewOp : Op → Bool
  | .alloc _ | .box .. | .makeSlice .. | .buildSlice .. => true
  | _ => false

/-- The kinds of what an operation does to memory. -/
theorem eff_kind {o : Oper} {u : Upd} (he : eff τ Γ.own s o = some u) :
    u.m = .none ∨ (∃ d cells, o.dst = some d ∧ u.m = .box d cells ∧ u.l.keys = [(d, s.g d + 1)] ∧ isNewOp o.op = true) ∨
    (isStore o.op = true ∧ ∃ x ∈ o.op.operands, ∃ d g off off' cells, s.eval x = .ptr d g off ∧ (s.b d g).isSome = true ∧ u.m = .store d g off' cells) ∨ (isAppend o.op = true ∧ ∃ t v, u.m = .tok t v) := by
  cases ho : o.op
  case store t y x =>
    simp only [eff, ho] at he
    split at he
    · rename_i ti d g off ht hy
      cases hb : s.b d g with
      | none => rw [hb] at he; cases he
      | some cells =>
        rw [hb] at he
        simp only at he
        split at he
        · simp only [Option.some.injEq] at he
          subst he
          exact .inr (.inr (.inl ⟨rfl, y, by simp [Op.operands], d, g, off, off, _, hy, by rw [hb]; rfl, rfl⟩))
        · cases he
    · cases he
  case alloc t =>
    simp only [eff, ho] at he
    split at he
    · rename_i ti d ht hdst
      cases he
      exact .inr (.inl ⟨d, _, hdst, rfl, rfl, rfl⟩)
    · cases he
  case box t x =>
    simp only [eff, ho] at he
    split at he
    · rename_i ti d ht hdst
      split at he
      · cases he
        exact .inr (.inl ⟨d, _, hdst, rfl, rfl, rfl⟩)
      · cases he
    · cases he
  case makeSlice t x y =>
    simp only [eff, ho] at he
    split at he
    · rename_i d _ _ _ hdst
      split at he
      · cases he
        exact .inr (.inl ⟨_, _, hdst, rfl, rfl, rfl⟩)
      · cases he
    · cases he
  case buildSlice t len parts =>
    simp only [eff, ho] at he
    split at he
    · split at he
      · split at he
        · rename_i d hdst
          split at he
          · cases he
            exact .inr (.inl ⟨_, _, hdst, rfl, rfl, rfl⟩)
          · cases he
        · cases he
      · split at he
        · obtain ⟨r, _, he⟩ := Option.bind_eq_some_iff.1 he
          split at he
          · cases he; exact .inl rfl
          · cases he
        · cases he
    · cases he
  case call c =>
    simp only [eff, ho] at he
    by_cases hcp : c.callee = .builtin .copy
    · rw [effCall_own_copy hcp] at he; cases he
    by_cases hcl : c.callee = .builtin .clear
    · rw [effCall_own_clear hcl] at he; cases he
    simp only [effCall] at he
    cases hc : c.callee with
    | value x =>
      rw [hc] at he
      simp only [lendCall_own] at he
      split at he
      · cases he; exact .inl rfl
      · cases he
    | invoke x name =>
      rw [hc] at he
      simp only at he
      split at he
      · split at he
        · split at he
          · obtain ⟨r, _, rfl⟩ := Option.map_eq_some_iff.1 he
            exact .inl rfl
          · cases he
        · cases he
      · cases he
    | builtin b =>
      have hb1 : b ≠ .copy := fun e => hcp (by rw [hc, e])
      have hb2 : b ≠ .clear := fun e => hcl (by rw [hc, e])
      rw [hc] at he
      cases b <;> simp only [ne_eq, not_true_eq_false] at hb1 hb2 <;> simp only at he <;> try (cases he; done)
      case len =>
        split at he
        · split at he
          · cases he
          · split at he
            · cases he; exact .inl rfl
            · cases he; exact .inl rfl
            · obtain ⟨r, _, rfl⟩ := Option.map_eq_some_iff.1 he
              exact .inl rfl
            · cases he
        · cases he
      case min =>
        split at he
        · obtain ⟨r, _, rfl⟩ := Option.map_eq_some_iff.1 he
          exact .inl rfl
        · cases he
      case max =>
        split at he
        · obtain ⟨r, _, rfl⟩ := Option.map_eq_some_iff.1 he
          exact .inl rfl
        · cases he
      case append =>
        simp only [Env.own, Bool.false_eq_true, false_and, and_false, if_false] at he
        split at he
        · split at he
          · split at he
            · cases he; exact .inl rfl
            refine .inr (.inr (.inr ⟨by simp [isAppend, hc], ?_⟩))
            split at he
            · split at he <;> cases he
            · split at he
              · split at he
                · split at he
                  · cases he; exact ⟨_, _, rfl⟩
                  · split at he
                    · cases he; exact ⟨_, _, rfl⟩
                    · cases he
                · cases he
              · cases he
          · cases he
        · cases he
  all_goals (left; simp only [eff, ho] at he)
  all_goals try (cases he; done)
  all_goals try (cases he; rfl)
  all_goals (repeat' split at he) <;> first | (cases he; rfl) | (cases he; done) | (obtain ⟨r, _, rfl⟩ := Option.map_eq_some_iff.1 he; rfl) | (obtain ⟨r, _, he⟩ := Option.bind_eq_some_iff.1 he; split at he <;> first | (cases he; rfl) | (cases he; done))
end
end Go.LI
namespace Go.LI
open Go Go.RowKit

section
variable {C : Ctx} {G : Gh} {s s' : S} {a : Act} {W : World}
variable {P : Program} {τ : Tab} {Γ : Env} {K : Act → World → Prop} {Q : Exit → Act → World → Prop}

/-- No pointer to what is not there yet. -/
structure WF (s : S) : Prop where
  t : ∀ i, ∀ k ∈ (s.t i).keys, k.2 ≤ s.g k.1
  b : ∀ d g cells, s.b d g = some cells → ∀ q ∈ cells, ∀ k ∈ q.1.keys, k.2 ≤ s.g k.1

theorem WF.eval (h : WF s) (x : Operand) : ∀ k ∈ (s.eval x).keys, k.2 ≤ s.g k.1 := by
  cases x with
  | tmp t => exact h.t t
  | const v => intro k hk; rw [show s.eval (.const v) = ofConst v from rfl, ofConst_keys] at hk; cases hk
  | global g => intro k hk; cases hk
  | func f => intro k hk; cases hk

theorem MU.apply_g (m : MU) (s : S) (d : Nat) : s.g d ≤ (m.apply s).g d := by
  cases m with
  | box d' cells =>
    simp only [MU.apply, upd]
    split
    · rename_i h; subst h; omega
    · exact Nat.le_refl _
  | renew d0 g0 d' cells =>
    simp only [MU.apply, upd]
    split
    · rename_i h; subst h; omega
    · exact Nat.le_refl _
  | objs us d' cnt =>
    simp only [MU.apply, upd]
    split
    · rename_i h; subst h; omega
    · exact Nat.le_refl _
  | _ => exact Nat.le_refl _

theorem MU.apply_t (m : MU) (s : S) : (m.apply s).t = s.t := by cases m <;> rfl
theorem MU.apply_o (m : MU) (s : S) : (m.apply s).o = s.o := by cases m <;> rfl

theorem S.put_g (s : S) (dst : Option Nat) (l : LV) (tg : Tag) : (s.put dst l tg).g = s.g := by cases dst <;> rfl
theorem S.put_b (s : S) (dst : Option Nat) (l : LV) (tg : Tag) : (s.put dst l tg).b = s.b := by cases dst <;> rfl
theorem S.put_tv (s : S) (dst : Option Nat) (l : LV) (tg : Tag) : (s.put dst l tg).tv = s.tv := by cases dst <;> rfl

theorem keys_of_not_hot {l : LV} (h : l.hot = false) : l.keys = [] := by cases l <;> first | rfl | simp [LV.hot] at h

/-- A box to which leads what an operation yields was there, or is new. -/
theorem eff_ptr {o : Oper} {u : Upd} (he : eff τ Γ.own s o = some u) (hf : (finds s o.op && u.l.hot) = false) {k : Nat × Nat} (hl : k ∈ u.l.keys) :
    (∃ x ∈ o.op.operands, k ∈ (s.eval x).keys) ∨ (∃ cells, u.m = .box k.1 cells ∧ k.2 = s.g k.1 + 1) ∨ (∃ d g cells, s.b d g = some cells ∧ ∃ q ∈ cells, k ∈ q.1.keys) := by
  have hh : u.l.hot = true := by
    cases hh : u.l.hot with
    | true => rfl
    | false => rw [keys_of_not_hot hh] at hl; cases hl
  have hfo : finds s o.op = false := by rw [hh] at hf; simpa using hf
  cases ho : o.op <;> rw [ho] at hfo <;> simp only [finds] at hfo <;> (try cases hfo) <;> simp only [eff, ho] at he <;> try (cases he; done)
  case load t x =>
    have hp : (s.eval x).isPtr = true := by simpa using hfo
    cases hx : s.eval x <;> rw [hx] at hp he <;> simp only [LV.isPtr] at hp <;> try (cases hp; done)
    rename_i d g off
    simp only at he
    split at he
    · cases hb : s.b d g with
      | none => rw [hb] at he; cases he
      | some cells =>
        rw [hb] at he
        simp only at he
        split at he
        · cases he
        · obtain ⟨r, hr, rfl⟩ := Option.map_eq_some_iff.1 he
          unfold part at hr
          split at hr
          · split at hr
            · cases hr; cases hl
            · cases hr
          · split at hr
            · rename_i c r0 hcr
              split at hr
              · injection hr with hr
                subst hr
                have h0 : ((cells.drop off).map (·.1))[0]? = some c := by rw [hcr]; rfl
                rw [List.getElem?_map, List.getElem?_drop] at h0
                obtain ⟨q, hq, rfl⟩ := Option.map_eq_some_iff.1 h0
                exact .inr (.inr ⟨d, g, cells, hb, q, List.mem_of_getElem? hq, hl⟩)
              · cases hr
            · cases hr
    · cases he
  case move x => cases he; exact .inl ⟨x, by simp [Op.operands], hl⟩
  case assign x => cases he; exact .inl ⟨x, by simp [Op.operands], hl⟩
  case pick c x y =>
    split at he
    · rename_i b hb
      cases he
      cases b
      · exact .inl ⟨y, by simp [Op.operands], hl⟩
      · exact .inl ⟨x, by simp [Op.operands], hl⟩
    · cases he
  case alloc t =>
    split at he
    · cases he; simp only [LV.keys, List.mem_singleton] at hl; subst hl; exact .inr (.inl ⟨_, rfl, rfl⟩)
    · cases he
  case box t x =>
    split at he
    · split at he
      · cases he; simp only [LV.keys, List.mem_singleton] at hl; subst hl; exact .inr (.inl ⟨_, rfl, rfl⟩)
      · cases he
    · cases he
  case makeSlice t x y =>
    split at he
    · split at he
      · cases he; simp only [LV.keys, List.mem_singleton] at hl; subst hl; exact .inr (.inl ⟨_, rfl, rfl⟩)
      · cases he
    · cases he
  case binOp op t x y t' =>
    split at he
    rotate_left
    split at he
    · obtain ⟨r, hr, rfl⟩ := Option.map_eq_some_iff.1 he
      exfalso
      unfold aggOp at hr
      split at hr
      · split at hr
        · split at hr
          · obtain ⟨b, _, rfl⟩ := Option.map_eq_some_iff.1 hr; cases hl
          · obtain ⟨b, _, rfl⟩ := Option.map_eq_some_iff.1 hr; cases hl
          · cases hr
        · cases hr
      · cases hr
    rotate_right
    · obtain ⟨r, hr, rfl⟩ := Option.map_eq_some_iff.1 he
      exfalso
      unfold sliceOp at hr
      split at hr
      · split at hr
        · obtain ⟨b, _, rfl⟩ := Option.map_eq_some_iff.1 hr; cases hl
        · obtain ⟨b, _, rfl⟩ := Option.map_eq_some_iff.1 hr; cases hl
        · cases hr
      · cases hr
    · split at he
      · split at he
        · obtain ⟨r, _, rfl⟩ := Option.map_eq_some_iff.1 he; cases hl
        · cases he
      · cases he
  case buildSlice t len parts =>
    split at he
    · split at he
      · split at he
        · split at he
          · cases he; simp only [LV.keys, List.mem_singleton] at hl; subst hl; exact .inr (.inl ⟨_, rfl, rfl⟩)
          · cases he
        · cases he
      · split at he
        · obtain ⟨r, _, he⟩ := Option.bind_eq_some_iff.1 he
          split at he
          · cases he; cases hl
          · cases he
        · cases he
    · cases he
  case makeFunc fn first captured =>
    split at he
    · split at he
      · cases he; cases hl
      · split at he
        · cases he; cases hl
        · split at he
          · cases he
            simp only [LV.keys, List.mem_flatMap, List.mem_map] at hl
            obtain ⟨_, ⟨x, hx, rfl⟩, hk⟩ := hl
            exact .inl ⟨x, by simp [Op.operands]; exact .inr (by simpa using hx), key1_sub _ k hk⟩
          · cases he
    · cases he
  case nilCheck x =>
    split at he
    · rename_i hx; cases he; exact .inl ⟨x, by simp [Op.operands], by rw [hx]; exact hl⟩
    · cases he; cases hl
    · cases he
  case fieldAddr t x f =>
    split at he
    · split at he
      · rename_i hx
        split at he
        · cases he; exact .inl ⟨x, by simp [Op.operands], by rw [hx]; simpa [LV.keys] using hl⟩
        · cases he
      · split at he
        · cases he; cases hl
        · cases he
      · cases he
    · cases he
  case indexAddr t x y =>
    split at he
    · obtain ⟨l, hl', rfl⟩ := Option.map_eq_some_iff.1 he
      unfold idxArrL at hl'
      split at hl'
      · split at hl'
        · rename_i hx hy
          split at hl'
          · cases hl'; exact .inl ⟨x, by simp [Op.operands], by rw [hx]; simpa [LV.keys] using hl⟩
          · cases hl'
        · split at hl'
          · cases hl'; cases hl
          · cases hl'
        · cases hl'
      · cases hl'
    split at he
    · rename_i hx
      split at he
      · split at he
        · cases he; exact .inl ⟨x, by simp [Op.operands], by rw [hx]; simpa [LV.keys] using hl⟩
        · cases he
      · cases he
    · split at he
      · split at he
        · obtain ⟨r, _, he⟩ := Option.bind_eq_some_iff.1 he
          split at he
          · cases he; cases hl
          · cases he
        · cases he
      · cases he
  case slice t x lo hi mx =>
    split at he
    · split at he
      · split at he
        · cases he; cases hl
        · cases he
      · cases he
    · rename_i hx _
      split at he
      · split at he
        · split at he
          · cases he; exact .inl ⟨x, by simp [Op.operands], by rw [hx]; simpa [LV.keys] using hl⟩
          · cases he
        · cases he
      · cases he
    · split at he
      · split at he
        · split at he
          · cases he; cases hl
          · cases he
        · cases he
      · cases he
    · split at he
      · split at he
        · split at he
          · cases he; cases hl
          · cases he
        · cases he
      · cases he
    · cases he
  all_goals (repeat' split at he) <;> first | (cases he; cases hl; done) | (cases he; done) | (obtain ⟨r, _, rfl⟩ := Option.map_eq_some_iff.1 he; cases hl; done) | (obtain ⟨r, _, he⟩ := Option.bind_eq_some_iff.1 he; split at he <;> first | (cases he; cases hl; done) | (cases he; done))

/-- What boxes then hold was there, or comes of an operand. -/
theorem eff_cells {o : Oper} {u : Upd} (he : eff τ Γ.own s o = some u) : match u.m with
    | .box _ cells | .store _ _ _ cells => ∀ q ∈ cells, ∀ k ∈ q.1.keys, ∃ x ∈ o.op.operands, k ∈ (s.eval x).keys
    | _ => True := by
  have hcl : ∀ (x : Operand) (tg : Tag), ((s.eval x).hot || (s.eval x).cells.all LV.one) = true → ∀ c ∈ (s.eval x).cells, ∀ k ∈ c.keys, k ∈ (s.eval x).keys := by
    intro x tg h c hc k hk
    by_cases hh : (s.eval x).hot = true
    · rw [hot_cells hh] at hc
      simp only [List.mem_singleton] at hc
      subst hc
      exact hk
    · have h2 : (s.eval x).cells.all LV.one = true := by simpa [hh] using h
      have := List.all_eq_true.1 h2 c hc
      cases c <;> simp [LV.one] at this <;> cases hk
  cases ho : o.op
  case store t y x =>
    simp only [eff, ho] at he
    split at he
    · rename_i ti d g off ht hy
      cases hb : s.b d g with
      | none => rw [hb] at he; cases he
      | some cells =>
        rw [hb] at he
        simp only at he
        split at he
        · rename_i hc
          simp only [Option.some.injEq] at he
          subst he
          intro q hq k hk
          refine ⟨x, by simp [Op.operands], hcl x (0, 0) hc.2.2 q.1 ?_ k hk⟩
          try simp only at hq
          split at hq
          · rename_i cs hcs
            obtain ⟨c, hc', rfl⟩ := List.mem_map.1 hq
            rw [hcs]; exact hc'
          · simp only [List.mem_singleton] at hq
            subst hq
            simp only
            generalize s.eval x = l at *
            cases l <;> first | (simp [LV.cells]; done) | (rename_i hn; exact absurd rfl (hn _))
        · cases he
    · cases he
  case box t x =>
    simp only [eff, ho] at he
    split at he
    · split at he
      · rename_i hc
        cases he
        intro q hq k hk
        obtain ⟨c, hc', rfl⟩ := List.mem_map.1 hq
        exact ⟨x, by simp [Op.operands], hcl x (0, 0) hc.2 c hc' k hk⟩
      · cases he
    · cases he
  case alloc t =>
    simp only [eff, ho] at he
    split at he
    · cases he
      intro q hq k hk
      obtain ⟨c, hc', rfl⟩ := List.mem_map.1 hq
      cases hk
    · cases he
  case buildSlice t len parts =>
    simp only [eff, ho] at he
    split at he
    · split at he
      · split at he
        · split at he
          · cases he
            intro q hq
            cases hq
          · cases he
        · cases he
      · split at he
        · obtain ⟨r, _, he⟩ := Option.bind_eq_some_iff.1 he
          split at he
          · cases he; trivial
          · cases he
        · cases he
    · cases he
  case makeSlice t x y =>
    simp only [eff, ho] at he
    split at he
    · split at he
      · cases he
        intro q hq k hk
        obtain ⟨c, hc', rfl⟩ := List.mem_map.1 hq
        obtain ⟨l, hl, hcl⟩ := List.mem_flatten.1 hc'
        rw [(List.mem_replicate.1 hl).2] at hcl
        obtain ⟨z, _, rfl⟩ := List.mem_map.1 hcl
        cases hk
      · cases he
    · cases he
  all_goals
    rcases eff_kind he with h | ⟨d, c, hd, h, _, hn⟩ | ⟨hs, _, _, d, g, off, off', c, _, _, h⟩ | ⟨_, t, v, h⟩
    · rw [h]; trivial
    · rw [ho] at hn; cases hn
    · rw [ho] at hs; cases hs
    · rw [h]; trivial

theorem WF.stepD {ops : Array Oper} {o : Oper} (h : WF s) (hs : stepD τ Γ ops o s = some s') : WF s' := by
  unfold LI.stepD at hs
  split at hs
  · cases he : eff τ Γ.own s o with
    | none => rw [he] at hs; cases hs
    | some u =>
      rw [he] at hs
      simp only [Option.bind_some] at hs
      split at hs
      · cases hs
      · rename_i hf
        simp only [Option.some.injEq] at hs
        subst hs
        have hg : ∀ d, s.g d ≤ (u.apply o.dst s).g d := fun d => by unfold Upd.apply; rw [S.put_g]; exact u.m.apply_g s d
        refine ⟨fun i k hi => ?_, fun x y cells hb q hq k hk => ?_⟩
        · unfold Upd.apply at hi
          cases hd : o.dst with
          | none =>
            rw [hd] at hi
            simp only [S.put, MU.apply_t] at hi
            rw [← hd]
            exact Nat.le_trans (h.t i k hi) (hg _)
          | some dd =>
            rw [hd, S.put_some] at hi
            simp only [MU.apply_t] at hi
            by_cases hid : i = dd
            · simp only [upd, hid, if_true] at hi
              rcases eff_ptr he (by simpa using hf) hi with ⟨x, _, hx⟩ | ⟨cells, hm, hgg⟩ | ⟨d, g, cells, hb, q, hq, hk⟩
              · exact Nat.le_trans (h.eval x k hx) (by rw [← hd]; exact hg _)
              · unfold Upd.apply
                rw [S.put_g, hm, hgg]
                simp [MU.apply]
              · exact Nat.le_trans (h.b d g cells hb q hq k hk) (by rw [← hd]; exact hg _)
            · simp only [upd, hid, if_false] at hi
              rw [← hd]
              exact Nat.le_trans (h.t i k hi) (hg _)
        · unfold Upd.apply at hb
          rw [S.put_b] at hb
          have hc := eff_cells he
          rcases eff_kind he with hm | ⟨d, c, hd, hm, _⟩ | ⟨_, _, _, d, g, off, off', c, _, _, hm⟩ | ⟨_, t, v, hm⟩
          · rw [hm] at hb
            exact Nat.le_trans (h.b x y cells hb q hq k hk) (hg _)
          · rw [hm] at hb hc
            simp only [MU.apply] at hb
            split at hb
            · cases hb
              obtain ⟨z, _, hz⟩ := hc q hq k hk
              exact Nat.le_trans (h.eval z k hz) (hg _)
            · exact Nat.le_trans (h.b x y cells hb q hq k hk) (hg _)
          · rw [hm] at hb hc
            simp only [MU.apply] at hb
            split at hb
            · obtain ⟨c0, h0, rfl⟩ := Option.map_eq_some_iff.1 hb
              unfold over at hq
              rcases List.mem_append.1 hq with hq | hq
              · rcases List.mem_append.1 hq with hq | hq
                · exact Nat.le_trans (h.b _ _ _ h0 q (List.mem_of_mem_take hq) k hk) (hg _)
                · obtain ⟨z, _, hz⟩ := hc q hq k hk
                  exact Nat.le_trans (h.eval z k hz) (hg _)
              · exact Nat.le_trans (h.b _ _ _ h0 q (List.mem_of_mem_drop hq) k hk) (hg _)
            · exact Nat.le_trans (h.b x y cells hb q hq k hk) (hg _)
          · rw [hm] at hb
            exact Nat.le_trans (h.b x y cells hb q hq k hk) (hg _)
  · simp only [Option.some.injEq] at hs
    subst hs
    refine ⟨fun i k hi => ?_, fun x y cells hb q hq k hk => ?_⟩
    · rw [S.put_g]
      cases hd : o.dst with
      | none => rw [hd] at hi; exact h.t i k hi
      | some dd =>
        rw [hd, S.put_some] at hi
        by_cases hid : i = dd
        · simp only [upd, hid, if_true] at hi; cases hi
        · simp only [upd, hid, if_false] at hi; exact h.t i k hi
    · rw [S.put_g]
      rw [S.put_b] at hb
      exact h.b x y cells hb q hq k hk
  · cases hs
end
end Go.LI
