/- Texts of a small semantics over the model and of specifications of functions, joined: LIDrawH, LITr. -/
import Derived.Test.YtlnndndpaakjfaaGreatDoorP13
set_option linter.unusedSimpArgs false
set_option linter.unusedVariables false
/- Regions whose order is drawn, in which some operations may be lent boxes or make rows grow. -/
namespace Go.LI
open Go Go.RowKit

section
variable {C : Ctx} {G : Gh} {s s' : S} {a : Act} {W : World}
variable {P : Program} {τ : Tab} {Γ : Env} {K : Act → World → Prop} {Q : Exit → Act → World → Prop} {hv : Nat → Bool}

/-! ### scopes out of which nothing jumps by a goto -/
section
variable {b : Frame} {k : List Item} {cs : List Frame} {w : World} {F : Fence} {n : Nat}
theorem stepR_scope {c : Code} : Go.step P (lone (b.atR a (.code (.scope c) :: k)) cs w) = .next (lone (b.atR a (.code c :: .inScope c :: k)) cs w) :=
  step_lone_go (by simp [stepG, stepG.exec, Frame.atR])
theorem stepR_inScope {c : Code} : Go.step P (lone (b.atR a (.inScope c :: k)) cs w) = .next (lone (b.atR a k) cs w) :=
  step_lone_go (by simp [stepG, stepG.exec, Frame.atR])

theorem wpIn_scope_straight {c : Code} (h : c.wpIn F n P (Exit.noGoto Q) a w) : (Code.scope c).wpIn F n P Q a w := by
  intro b k cs hro hb hr
  have h0 : (lone (b.atR a (.code (.scope c) :: k)) cs w).fenced P F := fenced_calm hb hr rfl
  obtain ⟨e, a₁, w₁, hq, harr⟩ := h b (.inScope c :: k) cs hro hb hr
  cases e with
  | normal => exact ⟨.normal, a₁, w₁, hq, .head h0 stepR_scope (StepsIn.trans harr (.one (fenced_calm hb hr rfl) stepR_inScope))⟩
  | exit id' =>
    have hx : exitTo id' (.inScope c :: k) = exitTo id' k := by simp [exitTo]
    exact ⟨.exit id', a₁, w₁, hq, fun k' hk => .head h0 stepR_scope (harr.1 k' (by rw [hx]; exact hk)),
      fun hr' hk => let ⟨k₁, h1, h2⟩ := harr.2 hr' (by rw [hx]; exact hk); ⟨k₁, h1, .head h0 stepR_scope h2⟩⟩
  | goto l => exact hq.elim
  | ret => exact ⟨_, a₁, w₁, hq, .of_steps (.one h0 stepR_scope) harr⟩
  | panic ch => exact ⟨_, a₁, w₁, hq, .of_steps (.one h0 stepR_scope) harr⟩
  | outgrown => exact ⟨_, a₁, w₁, hq, .of_steps (.one h0 stepR_scope) harr⟩
end

def noGotoL (R : Exit → S → Prop) : Exit → S → Prop
  | .goto _, _ => False
  | e, s => R e s

theorem LW.scope {n : Nat} {c : Code} {R : Exit → S → Prop} (h : LW P n c (noGotoL R) s) : LW P n (.scope c) R s := by
  intro C a W m hC hs
  refine wpIn_scope_straight (wpIn_mono (h C a W m hC hs) ?_)
  rintro e a' W' ⟨s', h1, h2⟩
  cases e with
  | goto => exact h2.elim
  | _ => exact ⟨s', h1, h2⟩

structure SameMem (s s' : S) (o : Oper) : Prop where
  ev : ∀ x ∈ o.op.operands, s'.eval x = s.eval x ∧ s'.tag x = s.tag x
  b : s'.b = s.b
  g : s'.g = s.g
  tv : s'.tv = s.tv

theorem look_same (h : s'.b = s.b) : look s' = look s := by unfold look; rw [h]

theorem lendCall_same (hb : s'.b = s.b) (hg : s'.g = s.g) (dst : Option Nat) (f : LV) (args : List LV) : lendCall Γ s' dst f args = lendCall Γ s dst f args := by
  unfold lendCall
  rw [look_same hb, hg]

theorem eff_same {o : Oper} (h : SameMem s s' o) : eff τ Γ s' o = eff τ Γ s o := by
  obtain ⟨ev, hb, hg, htv⟩ := h
  cases ho : o.op
  case call c =>
    rw [ho] at ev
    have hargs : ∀ x ∈ c.args, s'.eval x = s.eval x ∧ s'.tag x = s.tag x := fun x hx => ev x (by simp [Op.operands, Call.operands, hx])
    have hmap : c.args.toList.map s'.eval = c.args.toList.map s.eval := mapEval fun x hx => (hargs x (by simpa using hx)).1
    simp only [eff, ho, effCall]
    cases hc : c.callee with
    | value f => simp only [hmap, (ev f (by simp [Op.operands, Call.operands, hc])).1, lendCall_same hb hg]
    | invoke x name => simp only [hmap, (ev x (by simp [Op.operands, Call.operands, hc])).1]
    | builtin b =>
      cases b
      case len =>
        simp only
        split
        · rename_i x hx
          have hx' := hargs x (by have : x ∈ c.args.toList := by rw [hx]; simp
                                  simpa using this)
          simp only [hx'.1]
        · rfl
      case append =>
        simp only
        split
        · rename_i sx xx t t' d hx _ hdst
          have h1 := hargs sx (by have : sx ∈ c.args.toList := by rw [hx]; simp
                                  simpa using this)
          have h2 := hargs xx (by have : xx ∈ c.args.toList := by rw [hx]; simp
                                  simpa using this)
          simp only [h1.1, h1.2, h2.1, htv, hb, hg]
        · rfl
      case min => simp only [hmap]
      case max => simp only [hmap]
      case copy =>
        simp only
        split
        · rename_i dx sx t t2 hx _
          have h1 := hargs dx (by have : dx ∈ c.args.toList := by rw [hx]; simp
                                  simpa using this)
          have h2 := hargs sx (by have : sx ∈ c.args.toList := by rw [hx]; simp
                                  simpa using this)
          simp only [srcL, copyL, h1.1, h2.1, hb]
        · rfl
      case clear =>
        simp only
        split
        · rename_i x t hx _
          have h1 := hargs x (by have : x ∈ c.args.toList := by rw [hx]; simp
                                 simpa using this)
          simp only [clearL, h1.1, hb]
        · rfl
      all_goals rfl
  case build t parts =>
    rw [ho] at ev
    have hp : ∀ p ∈ parts.toList, s'.eval p.2 = s.eval p.2 := fun p hp => (ev p.2 (by
      simp only [Op.operands, List.mem_toArray, List.mem_map]
      exact ⟨p, hp, rfl⟩)).1
    have h1 : (parts.toList.map fun p => (p.1, s'.eval p.2)) = parts.toList.map fun p => (p.1, s.eval p.2) := List.map_congr_left fun p hpp => by rw [hp p hpp]
    have h2 : (parts.toList.all fun p => (s'.eval p.2).cells.all LV.one) = (parts.toList.all fun p => (s.eval p.2).cells.all LV.one) := by
      rw [Bool.eq_iff_iff, List.all_eq_true, List.all_eq_true]
      exact ⟨fun h p hpp => by rw [← hp p hpp]; exact h p hpp, fun h p hpp => by rw [hp p hpp]; exact h p hpp⟩
    simp only [eff, ho, h1, h2]
  case buildSlice t len parts =>
    rw [ho] at ev
    have hp : ∀ p ∈ parts.toList, s'.eval p.2 = s.eval p.2 := fun p hp => (ev p.2 (by
      simp only [Op.operands, List.mem_toArray, List.mem_map]
      exact ⟨p, hp, rfl⟩)).1
    have h1 : (parts.toList.map fun p => (p.1, s'.eval p.2)) = parts.toList.map fun p => (p.1, s.eval p.2) := List.map_congr_left fun p hpp => by rw [hp p hpp]
    have h2 : (parts.toList.all fun p => (s'.eval p.2).cells.all LV.one) = (parts.toList.all fun p => (s.eval p.2).cells.all LV.one) := by
      rw [Bool.eq_iff_iff, List.all_eq_true, List.all_eq_true]
      exact ⟨fun h p hpp => by rw [← hp p hpp]; exact h p hpp, fun h p hpp => by rw [hp p hpp]; exact h p hpp⟩
    simp only [eff, ho, h1, h2]
    cases elemOf τ t with
    | none => rfl
    | some p =>
      simp only
      split
      · cases hd : o.dst with
        | none => rfl
        | some d => simp only [hg]
      · rfl
  case makeInterface t x => rw [ho] at ev; have hx := ev x (by simp [Op.operands]); simp only [eff, ho, hx.1]
  case typeAssert x t0 t ok => rw [ho] at ev; have hx := ev x (by simp [Op.operands]); simp only [eff, ho, hx.1]
  case slice t x lo hi mx =>
    rw [ho] at ev
    have hx := (ev x (by simp [Op.operands])).1
    have hlo : lo.map s'.eval = lo.map s.eval := by
      cases lo with
      | none => rfl
      | some l => simp only [Option.map_some, (ev l (by simp [Op.operands])).1]
    have hhi : hi.map s'.eval = hi.map s.eval := by
      cases hi with
      | none => rfl
      | some l => simp only [Option.map_some, (ev l (by simp [Op.operands])).1]
    have hmx : mx.map s'.eval = mx.map s.eval := by
      cases mx with
      | none => rfl
      | some l => simp only [Option.map_some, (ev l (by simp [Op.operands])).1]
    simp only [eff, ho, hx, hlo, hhi, hmx]
  case makeFunc fn first captured =>
    rw [ho] at ev
    have h1 : first.toList.map s'.eval = first.toList.map s.eval := mapEval fun x hx => (ev x (by simp [Op.operands] at hx ⊢; exact .inl hx)).1
    have h2 : captured.toList.map s'.eval = captured.toList.map s.eval := mapEval fun x hx => (ev x (by simp [Op.operands] at hx ⊢; exact .inr hx)).1
    simp only [eff, ho, h1, h2]
  case makeSlice t x y =>
    rw [ho] at ev
    have hx := (ev x (by simp [Op.operands])).1
    have hy := (ev y (by simp [Op.operands])).1
    simp only [eff, ho, hx, hy]
    split
    · rename_i e ti k n k' m d h1 h2 h3 hdst
      simp only [hg]
    · rfl
  case load t x =>
    rw [ho] at ev
    have hx := (ev x (by simp [Op.operands])).1
    simp only [eff, ho, hx]
    cases hl : s.eval x with
    | ptr d g off => simp only [hb]
    | _ => rfl
  case store t y x =>
    rw [ho] at ev
    have hy := (ev y (by simp [Op.operands])).1
    have hx := ev x (by simp [Op.operands])
    simp only [eff, ho, hy, hx.1, hx.2]
    cases τ t with
    | none => rfl
    | some ti =>
      cases hl : s.eval y with
      | ptr d g off => simp only [hb]
      | _ => rfl
  case alloc t =>
    simp only [eff, ho]
    cases τ t with
    | none => rfl
    | some ti =>
      cases hd : o.dst with
      | none => rfl
      | some d => simp only [hg]
  case box t x =>
    rw [ho] at ev
    have hx := (ev x (by simp [Op.operands])).1
    simp only [eff, ho, hx]
    cases τ t with
    | none => rfl
    | some ti =>
      cases hd : o.dst with
      | none => rfl
      | some d => simp only [hg]
  case move x => rw [ho] at ev; have hx := ev x (by simp [Op.operands]); simp only [eff, ho, hx.1, hx.2]
  case assign x => rw [ho] at ev; have hx := ev x (by simp [Op.operands]); simp only [eff, ho, hx.1, hx.2]
  case pick c x y =>
    rw [ho] at ev
    have h1 := ev c (by simp [Op.operands])
    have h2 := ev x (by simp [Op.operands])
    have h3 := ev y (by simp [Op.operands])
    simp only [eff, ho, h1.1, h2.1, h2.2, h3.1, h3.2]
  case nilCheck x => rw [ho] at ev; have hx := ev x (by simp [Op.operands]); simp only [eff, ho, hx.1]
  case unOp op t x => rw [ho] at ev; have hx := ev x (by simp [Op.operands]); simp only [eff, ho, hx.1]
  case binOp op t x y t' =>
    rw [ho] at ev
    have hx := ev x (by simp [Op.operands])
    have hy := ev y (by simp [Op.operands])
    simp only [eff, ho, hx.1, hy.1]
  case convert t t' x => rw [ho] at ev; have hx := ev x (by simp [Op.operands]); simp only [eff, ho, hx.1]
  case fieldAddr t x f => rw [ho] at ev; have hx := ev x (by simp [Op.operands]); simp only [eff, ho, hx.1]
  case field t x f => rw [ho] at ev; have hx := ev x (by simp [Op.operands]); simp only [eff, ho, hx.1]
  case extract x f => rw [ho] at ev; have hx := ev x (by simp [Op.operands]); simp only [eff, ho, hx.1]
  case indexAddr t x y =>
    rw [ho] at ev
    have hx := ev x (by simp [Op.operands])
    have hy := ev y (by simp [Op.operands])
    simp only [eff, ho, hx.1, hy.1]
  case index t x y =>
    rw [ho] at ev
    have hx := ev x (by simp [Op.operands])
    have hy := ev y (by simp [Op.operands])
    simp only [eff, ho, hx.1, hy.1]
  all_goals simp only [eff, ho]


/-- What a change writes into memory. -/
def mcells : MU → List LV
  | .box _ cells => cells.map (·.1)
  | .store _ _ _ cells => cells.map (·.1)
  | .renew _ _ _ cells => cells.map (·.1)
  | .objs us _ _ => us.flatMap fun q => q.2.getD []
  | _ => []

/-- New boxes are the destination's. -/
def gDst (dst : Option Nat) : MU → Bool
  | .box d _ => dst == some d
  | .renew _ _ d _ => dst == some d
  | .objs _ d _ => dst == some d
  | _ => true

def wfU (s : S) (dst : Option Nat) (u : Upd) : Bool :=
  gDst dst u.m && (u.l :: mcells u.m).all fun l => l.keys.all fun k => decide (k.2 ≤ (u.m.apply s).g k.1)

def heavy (hv : Nat → Bool) (o : Oper) : Bool :=
  match o.dst with
  | some d => hv d
  | none => false

/-- What an operation does, skipped or not. -/
def effH (τ : Tab) (Γ : Env) (hv : Nat → Bool) (ops : Array Oper) (s : S) (o : Oper) : Option Upd :=
  if heavy hv o then
    match wantedL ops s o with
    | some true => (eff τ Γ s o).bind fun u => if wfU s o.dst u then some u else none
    | some false => some { l := .tup [] }
    | none => none
  else effD τ Γ ops s o

def stepH (τ : Tab) (Γ : Env) (hv : Nat → Bool) (ops : Array Oper) (o : Oper) (s : S) : Option S := (effH τ Γ hv ops s o).map fun u => u.apply o.dst s

def stepsH (τ : Tab) (Γ : Env) (hv : Nat → Bool) (ops : Array Oper) : List Oper → S → Option S
  | [], s => some s
  | o :: r, s => (stepH τ Γ hv ops o s).bind (stepsH τ Γ hv ops r)

theorem stepH_light {ops : Array Oper} {o : Oper} (h : heavy hv o = false) : stepH τ Γ hv ops o s = stepD τ Γ ops o s := by
  unfold stepH effH
  rw [h, stepD_eq]
  rfl

theorem stepH_step {ops : Array Oper} {o : Oper} (h : heavy hv o = true) (hs : stepH τ Γ hv ops o s = some s') : step τ Γ ops o s = some s' := by
  unfold stepH effH at hs
  rw [h] at hs
  simp only [if_true] at hs
  unfold step
  cases hw : wantedL ops s o with
  | none => rw [hw] at hs; cases hs
  | some b =>
    rw [hw] at hs
    cases b with
    | true =>
      simp only at hs ⊢
      cases he : eff τ Γ s o with
      | none => rw [he] at hs; cases hs
      | some u =>
        rw [he] at hs
        simp only [Option.bind_some] at hs
        split at hs
        · exact hs
        · cases hs
    | false => exact hs

def pureOp (hv : Nat → Bool) (o : Oper) : Bool := !heavy hv o && !isLoad o.op && !isStore o.op && !isAppend o.op && !isNewOp o.op

def indepH (hv : Nat → Bool) (ops : Array Oper) (x y : Oper) : Bool :=
  if heavy hv x then x.apart ops y && pureOp hv y else if heavy hv y then x.apart ops y && pureOp hv x else indep ops x y

/-- Any two operations are ordered, or may change places; each waits for such alone as stand ahead of it. -/
def drawOkH (hv : Nat → Bool) (ops : Array Oper) : Bool :=
  ((List.range ops.size).all fun j => (List.range j).all fun x => reach ops ops.size j x ||
    (match ops[x]?, ops[j]? with
     | some ox, some oj => indepH hv ops ox oj
     | _, _ => false)) &&
  (List.range ops.size).all fun j => match ops[j]? with
    | some o => o.after.toList.all fun e => !Region.binds .any e || decide (e.on < j)
    | none => false

theorem WF.upd {u : Upd} {dst : Option Nat} (h : WF s) (hu : wfU s dst u = true) : WF (u.apply dst s) := by
  unfold wfU at hu
  simp only [Bool.and_eq_true, List.all_eq_true, List.mem_cons, decide_eq_true_eq] at hu
  obtain ⟨_, hk⟩ := hu
  have hg : ∀ d, (u.apply dst s).g d = (u.m.apply s).g d := fun d => by unfold Upd.apply; rw [S.put_g]
  refine ⟨fun i k hi => ?_, fun x y cells hb q hq k hkk => ?_⟩
  · rw [hg]
    unfold Upd.apply at hi
    cases dst with
    | none =>
      simp only [S.put, MU.apply_t] at hi
      exact Nat.le_trans (h.t i k hi) (u.m.apply_g s _)
    | some dd =>
      rw [S.put_some] at hi
      simp only [MU.apply_t] at hi
      by_cases hid : i = dd
      · simp only [LI.upd, hid, if_true] at hi
        exact hk u.l (.inl rfl) k hi
      · simp only [LI.upd, hid, if_false] at hi
        exact Nat.le_trans (h.t i k hi) (u.m.apply_g s _)
  · rw [hg]
    unfold Upd.apply at hb
    rw [S.put_b] at hb
    have hold : ∀ {x y : Nat} {c : List (LV × Tag)}, s.b x y = some c → q ∈ c → k.2 ≤ (u.m.apply s).g k.1 := fun hc hqc => Nat.le_trans (h.b _ _ _ hc q hqc k hkk) (u.m.apply_g s _)
    have hnew : ∀ l ∈ mcells u.m, ∀ k ∈ l.keys, k.2 ≤ (u.m.apply s).g k.1 := fun l hl k hk' => hk l (.inr hl) k hk'
    generalize u.m = m at hb hold hnew
    cases m with
    | none => exact hold hb hq
    | tok t v => exact hold hb hq
    | box d c =>
      simp only [MU.apply] at hb
      split at hb
      · cases hb
        exact hnew q.1 (by simp only [mcells]; exact List.mem_map_of_mem hq) k hkk
      · exact hold hb hq
    | store d g off c =>
      simp only [MU.apply] at hb
      split at hb
      · obtain ⟨c0, h0, rfl⟩ := Option.map_eq_some_iff.1 hb
        unfold over at hq
        rcases List.mem_append.1 hq with hq' | hq'
        · rcases List.mem_append.1 hq' with hq' | hq'
          · exact hold h0 (List.mem_of_mem_take hq')
          · exact hnew q.1 (by simp only [mcells]; exact List.mem_map_of_mem hq') k hkk
        · exact hold h0 (List.mem_of_mem_drop hq')
      · exact hold hb hq
    | renew d g d' c =>
      simp only [MU.apply] at hb
      split at hb
      · cases hb
        exact hnew q.1 (by simp only [mcells]; exact List.mem_map_of_mem hq) k hkk
      · split at hb
        · cases hb
        · exact hold hb hq
    | objs us d cnt =>
      simp only [MU.apply] at hb
      have hobj : ∀ (us : List ((Nat × Nat) × Option (List LV))) (o : Option (List (LV × Tag))), objAt us x y o = some cells → (∃ p ∈ us, ∃ c, p.2 = some c ∧ q.1 ∈ c) ∨ o = some cells := by
        intro us
        induction us with
        | nil => intro o h; exact .inr h
        | cons p r ih =>
          intro o h
          obtain ⟨kk, c⟩ := p
          simp only [objAt] at h
          split at h
          · obtain ⟨c0, h0, rfl⟩ := Option.map_eq_some_iff.1 h
            obtain ⟨z, hz, rfl⟩ := List.mem_map.1 hq
            exact .inl ⟨_, List.mem_cons_self, c0, h0, hz⟩
          · rcases ih o h with ⟨p, hp, h⟩ | h
            · exact .inl ⟨p, List.mem_cons_of_mem _ hp, h⟩
            · exact .inr h
      rcases hobj us _ hb with ⟨p, hp, c, h1, h2⟩ | h1
      · exact hnew q.1 (by
          simp only [mcells, List.mem_flatMap]
          exact ⟨p, hp, by rw [h1]; exact h2⟩) k hkk
      · exact hold h1 hq

theorem WF.skip {dst : Option Nat} (h : WF s) : WF (s.put dst (.tup [])) := by
  refine ⟨fun i k hi => ?_, fun x y cells hb q hq k hk => ?_⟩
  · rw [S.put_g]
    cases dst with
    | none => exact h.t i k hi
    | some dd =>
      rw [S.put_some] at hi
      by_cases hid : i = dd
      · simp only [LI.upd, hid, if_true] at hi; cases hi
      · simp only [LI.upd, hid, if_false] at hi; exact h.t i k hi
  · rw [S.put_g]
    rw [S.put_b] at hb
    exact h.b x y cells hb q hq k hk

theorem WF.stepH {ops : Array Oper} {o : Oper} (h : WF s) (hs : stepH τ Γ hv ops o s = some s') : WF s' := by
  cases hh : heavy hv o with
  | false => rw [stepH_light hh] at hs; exact h.stepD hs
  | true =>
    unfold LI.stepH effH at hs
    rw [hh] at hs
    simp only [if_true] at hs
    cases hw : wantedL ops s o with
    | none => rw [hw] at hs; cases hs
    | some b =>
      rw [hw] at hs
      cases b with
      | true =>
        simp only at hs
        cases he : eff τ Γ s o with
        | none => rw [he] at hs; cases hs
        | some u =>
          rw [he] at hs
          simp only [Option.bind_some] at hs
          split at hs
          · rename_i hu
            simp only [Option.map_some, Option.some.injEq] at hs
            subst hs
            exact h.upd hu
          · cases hs
      | false =>
        simp only [Option.map_some, Option.some.injEq] at hs
        subst hs
        exact h.skip

theorem effD_pure {ops : Array Oper} {o : Oper} {u : Upd} (hp : pureOp hv o = true) (he : effD τ Γ ops s o = some u) : u.m = .none := by
  unfold pureOp at hp
  simp only [Bool.and_eq_true, Bool.not_eq_true'] at hp
  obtain ⟨⟨⟨⟨_, p2⟩, p3⟩, p4⟩, p5⟩ := hp
  unfold effD at he
  split at he
  · cases hh : eff τ Γ.own s o with
    | none => rw [hh] at he; cases he
    | some u' =>
      rw [hh] at he
      simp only [Option.bind_some] at he
      split at he
      · cases he
      · cases he
        rcases eff_kind hh with h | ⟨_, _, _, _, _, h⟩ | ⟨h, _⟩ | ⟨h, _⟩
        · exact h
        · rw [p5] at h; cases h
        · rw [p3] at h; cases h
        · rw [p4] at h; cases h
  · cases he; rfl
  · cases he

theorem wanted_apply {ops : Array Oper} {x y : Oper} (u : Upd) (hl : ∀ d, x.dst = some d → d ∉ y.looksAt ops) : wantedL ops (u.apply x.dst s) y = wantedL ops s y := by
  unfold wantedL
  cases hg : y.guard with
  | none => rfl
  | some p =>
    obtain ⟨j, w⟩ := p
    simp only
    cases hd : (ops[j]?).bind (·.dst) with
    | none => rfl
    | some d =>
      simp only
      rw [(u.apply_t x.dst s d (fun d' hd' hid => hl d' hd' (by subst hid; exact looksAt_guard hg hd))).1]

theorem ev_apply {ops : Array Oper} {x y : Oper} (u : Upd) (hl : ∀ d, x.dst = some d → d ∉ y.looksAt ops) : ∀ z ∈ y.op.operands, (u.apply x.dst s).eval z = s.eval z ∧ (u.apply x.dst s).tag z = s.tag z := by
  intro z hz
  cases z with
  | tmp i => exact u.apply_t x.dst s i (fun d hd hid => hl d hd (by subst hid; exact looksAt_op hz))
  | _ => exact ⟨rfl, rfl⟩

theorem effH_some {ops : Array Oper} {o : Oper} {u : Upd} (hh : heavy hv o = true) (he : effH τ Γ hv ops s o = some u) : (wantedL ops s o = some true ∧ eff τ Γ s o = some u ∧ wfU s o.dst u = true) ∨ (wantedL ops s o = some false ∧ u = { l := .tup [] }) := by
  unfold effH at he
  rw [hh] at he
  simp only [if_true] at he
  cases hw : wantedL ops s o with
  | none => rw [hw] at he; cases he
  | some b =>
    rw [hw] at he
    cases b with
    | true =>
      simp only at he
      obtain ⟨u', h1, h2⟩ := Option.bind_eq_some_iff.1 he
      split at h2
      · rename_i h3
        cases h2
        exact .inl ⟨rfl, h1, h3⟩
      · cases h2
    | false => cases he; exact .inr ⟨rfl, rfl⟩

/-- A heavy operation's change leaves a pure one as it was. -/
theorem pure_after {ops : Array Oper} {x y : Oper} {u : Upd} (hh : heavy hv x = true) (hy : pureOp hv y = true) (hu : effH τ Γ hv ops s x = some u) (hl : ∀ d, x.dst = some d → d ∉ y.looksAt ops) (hd : ∀ d, x.dst = some d → y.dst ≠ some d) :
    effD τ Γ ops (u.apply x.dst s) y = effD τ Γ ops s y := by
  have hp := hy
  unfold pureOp at hp
  simp only [Bool.and_eq_true, Bool.not_eq_true'] at hp
  obtain ⟨⟨⟨⟨_, p2⟩, p3⟩, p4⟩, _⟩ := hp
  refine effD_alike ⟨ev_apply u hl, fun d hdy => ?_, fun h => ?_, fun h => ?_⟩ (wanted_apply u hl)
  · have hgat : gDst x.dst u.m = true := by
      rcases effH_some hh hu with ⟨_, _, h⟩ | ⟨_, rfl⟩
      · unfold wfU at h
        exact (Bool.and_eq_true _ _ ▸ h).1
      · rfl
    unfold Upd.apply
    rw [S.put_g]
    have hne : ∀ d', x.dst = some d' → d ≠ d' := fun d' h1 h2 => hd d' h1 (h2 ▸ hdy)
    generalize u.m = m at hgat
    cases m <;> simp only [gDst, beq_iff_eq] at hgat <;> simp only [MU.apply]
    all_goals exact upd_ne _ _ (hne _ hgat)
  · rw [p2, p3] at h; simp at h
  · rw [p4] at h; cases h

/-- A pure operation leaves a heavy one as it was. -/
theorem heavy_after {ops : Array Oper} {x y : Oper} {u : Upd} (hh : heavy hv y = true) (hm : u.m = .none) (hl : ∀ d, x.dst = some d → d ∉ y.looksAt ops) : effH τ Γ hv ops (u.apply x.dst s) y = effH τ Γ hv ops s y := by
  have hput : u.apply x.dst s = s.put x.dst u.l u.tag := by unfold Upd.apply; rw [hm]; rfl
  have hsame : SameMem s (u.apply x.dst s) y := ⟨ev_apply u hl, by rw [hput, S.put_b], by rw [hput]; funext d; rw [S.put_g], by rw [hput, S.put_tv]⟩
  have hwf : ∀ v : Upd, wfU (u.apply x.dst s) y.dst v = wfU s y.dst v := by
    intro v
    unfold wfU
    rw [hput, MU.apply_put, S.put_g]
  unfold effH
  rw [hh, wanted_apply u hl, eff_same hsame]
  simp only [if_true, hwf]

theorem apply_pure_comm {x y : Option Nat} {u v : Upd} (hm : u.m = .none) (h : ∀ d, x = some d → y ≠ some d) : v.apply y (u.apply x s) = u.apply x (v.apply y s) := by
  have h0 : u.apply x s = s.put x u.l u.tag := by unfold Upd.apply; rw [hm]; rfl
  have h1 : u.apply x (v.apply y s) = (v.apply y s).put x u.l u.tag := by unfold Upd.apply; rw [hm]; rfl
  rw [h0, h1]
  unfold Upd.apply
  rw [MU.apply_put, S.put_comm _ _ _ _ _ h]

theorem swapH {ops : Array Oper} {x y : Oper} {s1 s2 : S} (hi : indepH hv ops x y = true) (hw : WF s) (h1 : stepH τ Γ hv ops x s = some s1) (h2 : stepH τ Γ hv ops y s1 = some s2) :
    ∃ s1', stepH τ Γ hv ops y s = some s1' ∧ stepH τ Γ hv ops x s1' = some s2 := by
  unfold indepH at hi
  cases hx : heavy hv x with
  | true =>
    rw [hx] at hi
    simp only [if_true, Bool.and_eq_true] at hi
    obtain ⟨hap, hpy⟩ := hi
    obtain ⟨a1, a2, a3⟩ := Oper.apart_spec hap
    have hy : heavy hv y = false := by
      unfold pureOp at hpy
      simp only [Bool.and_eq_true, Bool.not_eq_true'] at hpy
      exact hpy.1.1.1.1
    obtain ⟨u1, e1, rfl⟩ := Option.map_eq_some_iff.1 h1
    obtain ⟨u2, e2, rfl⟩ := Option.map_eq_some_iff.1 h2
    have e2' : effD τ Γ ops s y = some u2 := by
      rw [← pure_after hx hpy e1 a1 a2]
      unfold effH at e2
      rw [hy] at e2
      exact e2
    have hm := effD_pure hpy e2'
    refine ⟨u2.apply y.dst s, by unfold stepH effH; rw [hy]; simp only [Bool.false_eq_true, if_false, e2', Option.map_some], ?_⟩
    unfold stepH
    rw [heavy_after hx hm a3, e1]
    simp only [Option.map_some, Option.some.injEq]
    exact apply_pure_comm hm (fun d hd he => a2 d he hd)
  | false =>
    cases hy : heavy hv y with
    | true =>
      rw [hx, hy] at hi
      simp only [Bool.false_eq_true, if_false, if_true, Bool.and_eq_true] at hi
      obtain ⟨hap, hpx⟩ := hi
      obtain ⟨a1, a2, a3⟩ := Oper.apart_spec hap
      obtain ⟨u1, e1, rfl⟩ := Option.map_eq_some_iff.1 h1
      obtain ⟨u2, e2, rfl⟩ := Option.map_eq_some_iff.1 h2
      have e1' : effD τ Γ ops s x = some u1 := by
        unfold effH at e1
        rw [hx] at e1
        exact e1
      have hm := effD_pure hpx e1'
      rw [heavy_after hy hm a1] at e2
      refine ⟨u2.apply y.dst s, by unfold stepH; rw [e2]; rfl, ?_⟩
      unfold stepH effH
      rw [hx]
      simp only [Bool.false_eq_true, if_false]
      rw [pure_after hy hpx e2 a3 (fun d hd he => a2 d he hd), e1']
      simp only [Option.map_some, Option.some.injEq]
      exact (apply_pure_comm hm a2).symm
    | false =>
      rw [hx, hy] at hi
      simp only [Bool.false_eq_true, if_false] at hi
      rw [stepH_light hx] at h1
      rw [stepH_light hy] at h2
      obtain ⟨s1', k1, k2⟩ := swap hi hw h1 h2
      exact ⟨s1', by rw [stepH_light hy]; exact k1, by rw [stepH_light hx]; exact k2⟩

theorem runIx_stepsH (ops : Array Oper) (s : S) : runIx (stepH τ Γ hv ops) ops (List.range ops.size) s = stepsH τ Γ hv ops ops.toList s := by
  have := runIx_range (stepH τ Γ hv ops) ops (stepsH τ Γ hv ops) (fun _ => rfl) (fun _ _ _ => rfl) ops.size 0 s (by omega)
  simpa using this

theorem runH_front {ops : Array Oper} {j : Nat} {oj : Oper} (hj : ops[j]? = some oj) : ∀ (L1 L2 : List Nat) {s s' : S}, WF s → (∀ x ∈ L1, ∃ ox, ops[x]? = some ox ∧ indepH hv ops ox oj = true) → runIx (stepH τ Γ hv ops) ops (L1 ++ j :: L2) s = some s' →
    ∃ s1, stepH τ Γ hv ops oj s = some s1 ∧ runIx (stepH τ Γ hv ops) ops (L1 ++ L2) s1 = some s'
  | [], L2, s, s', hw, _, hr => by
    simp only [List.nil_append, runIx, hj] at hr
    obtain ⟨s1, h1, h2⟩ := Option.bind_eq_some_iff.1 hr
    exact ⟨s1, h1, h2⟩
  | x :: L1, L2, s, s', hw, hL, hr => by
    obtain ⟨ox, hox, hin⟩ := hL x (by simp)
    simp only [List.cons_append, runIx, hox] at hr
    obtain ⟨s1, h1, h2⟩ := Option.bind_eq_some_iff.1 hr
    obtain ⟨s2, h3, h4⟩ := runH_front hj L1 L2 (hw.stepH h1) (fun y hy => hL y (by simp [hy])) h2
    obtain ⟨s1', h5, h6⟩ := swapH hin hw h1 h3
    refine ⟨s1', h5, ?_⟩
    simp only [List.cons_append, runIx, hox, h6, Option.bind_some]
    exact h4

theorem runAnyH_sim {rnd : Option Nat} {m : Nat} (hτ : TabOk P τ) (hΓ : EnvOk P Γ) {ops : Array Oper} (hn : ∀ o ∈ ops, DstOk C o) (hok : drawOkH hv ops = true) {s' : S} (hk : ∀ a' W', Sim C s' a' W' → Q .normal a' W') :
    ∀ (fuel : Nat) (listed : Array Bool) {s : S} {a : Act} {W : World}, listed.size = ops.size → Closed ops listed → ((List.range ops.size).filter fun i => !listed.getD i true).length ≤ fuel → Sim C s a W →
      runIx (stepH τ Γ hv ops) ops ((List.range ops.size).filter fun i => !listed.getD i true) s = some s' → wpAnyIn (fenceOf rnd) m P .any ops Q fuel listed a W := by
  unfold drawOkH at hok
  rw [Bool.and_eq_true, List.all_eq_true, List.all_eq_true] at hok
  obtain ⟨hok1, hok2⟩ := hok
  have hready : ∀ (listed : Array Bool), listed.size = ops.size → Region.ready .any ops listed = [] → ((List.range ops.size).filter fun i => !listed.getD i true) = [] := by
    intro listed hsz hr
    rw [List.filter_eq_nil_iff]
    intro j
    induction j using Nat.strongRecOn with
    | _ j ih =>
      intro hj hjl
      have hjn := List.mem_range.1 hj
      have hjl' : listed.getD j true = false := by simpa using hjl
      have hmem : j ∉ Region.ready .any ops listed := by rw [hr]; simp
      apply hmem
      rw [mem_ready]
      refine ⟨hjl', ops[j], Array.getElem?_eq_getElem hjn, fun e he hb => ?_⟩
      have := hok2 j hj
      rw [Array.getElem?_eq_getElem hjn] at this
      simp only [List.all_eq_true] at this
      have hlt := this e (by simpa using he)
      rw [hb] at hlt
      simp only [Bool.not_true, Bool.false_or, decide_eq_true_eq] at hlt
      have h2 := ih e.on hlt (List.mem_range.2 (by omega))
      rw [← listed_getD hsz (by omega)]
      simpa using h2
  have hsub : ∀ (listed : Array Bool), ((List.range ops.size).filter fun i => !listed.getD i true) = [] → Region.ready .any ops listed = [] := by
    intro listed h
    rw [List.eq_nil_iff_forall_not_mem]
    intro j hj
    obtain ⟨h0, o, ho, _⟩ := mem_ready.1 hj
    have := List.filter_eq_nil_iff.1 h j (List.mem_range.2 (Array.getElem?_eq_some_iff.1 ho).1)
    rw [h0] at this
    simp at this
  intro fuel
  induction fuel with
  | zero =>
    intro listed s a W hsz hc hlen h hr
    have hnil := List.eq_nil_of_length_eq_zero (Nat.le_zero.1 hlen)
    rw [hnil] at hr
    simp only [runIx, Option.some.injEq] at hr
    subst hr
    exact ⟨hsub listed hnil, hk _ _ h⟩
  | succ fuel ih =>
    intro listed s a W hsz hc hlen h hr
    refine ⟨fun hnil => ?_, fun j hj => ?_⟩
    · rw [hready listed hsz hnil] at hr
      simp only [runIx, Option.some.injEq] at hr
      subst hr
      exact hk _ _ h
    · obtain ⟨h0, oj, hoj, hdeps⟩ := mem_ready.1 hj
      have hjn : j < ops.size := (Array.getElem?_eq_some_iff.1 hoj).1
      have hsplit := filter_split (p := fun i => !listed.getD i true) hjn (by simp only [h0]; rfl)
      rw [hsplit] at hr hlen
      obtain ⟨G, hG⟩ := h
      obtain ⟨s1, h1, h2⟩ := runH_front hoj _ _ hG.WF (fun x hx => by
        obtain ⟨hx1, hx2⟩ := List.mem_filter.1 hx
        have hxj := List.mem_range.1 hx1
        have hxn : x < ops.size := by omega
        refine ⟨ops[x], Array.getElem?_eq_getElem hxn, ?_⟩
        have := List.all_eq_true.1 (hok1 j (List.mem_range.2 hjn)) x hx1
        rw [Array.getElem?_eq_getElem hxn, hoj] at this
        simp only [Bool.or_eq_true] at this
        rcases this with h | h
        · have hl := reach_listed hc x _ j oj hoj h hdeps
          rw [← listed_getD hsz hxn] at hl
          rw [hl] at hx2
          simp at hx2
        · exact h) hr
      have hget : ∀ i, i ≠ j → (listed.setIfInBounds j true).getD i true = listed.getD i true := fun i hi => getD_set_ne true (Ne.symm hi)
      have hset : (listed.setIfInBounds j true).getD j true = true := by
        have : j < listed.size := by omega
        simp [this]
      have hrest : ((List.range ops.size).filter fun i => !(listed.setIfInBounds j true).getD i true) = ((List.range j).filter fun i => !listed.getD i true) ++ ((List.range ops.size).filter fun i => (!listed.getD i true) && decide (j < i)) := by
        have e1 : ((List.range ops.size).filter fun i => !(listed.setIfInBounds j true).getD i true) = ((List.range ops.size).filter fun i => !listed.getD i true).filter fun i => decide (i ≠ j) := by
          rw [List.filter_filter]
          apply List.filter_congr
          intro i _
          by_cases hij : i = j
          · subst hij; rw [hset]; simp
          · rw [hget i hij]; simp [hij]
        rw [e1, hsplit, List.filter_append, List.filter_cons]
        simp only [ne_eq, not_true_eq_false, decide_false, Bool.false_eq_true, if_false]
        congr 1
        · rw [List.filter_eq_self]
          intro i hi
          have := List.mem_range.1 (List.mem_filter.1 hi).1
          simp; omega
        · rw [List.filter_eq_self]
          intro i hi
          have := (List.mem_filter.1 hi).2
          simp only [Bool.and_eq_true, decide_eq_true_eq] at this
          simp; omega
      have hrec : ∀ a' W', Sim C s1 a' W' → wpAnyIn (fenceOf rnd) m P .any ops Q fuel (listed.setIfInBounds j true) a' W' := by
        refine fun a' W' hs => ih _ (by simpa using hsz) ?_ ?_ hs (by rw [hrest]; exact h2)
        · intro i o ho hl e he hb
          by_cases hij : i = j
          · subst hij
            rw [hoj] at ho
            cases ho
            exact getD_set_true (hdeps e he hb)
          · rw [getD_set_ne false (Ne.symm hij)] at hl
            exact getD_set_true (hc i o ho hl e he hb)
        · rw [hrest]
          simp only [List.length_append, List.length_cons] at hlen ⊢
          omega
      cases hh : heavy hv oj with
      | true => exact step_sim hτ hΓ hn hoj hG (stepH_step hh h1) hrec
      | false =>
        rw [stepH_light hh] at h1
        exact step_sim hτ hΓ.own hn hoj hG (stepD_step h1) hrec

theorem drawH_sim {rnd : Option Nat} {m : Nat} (hm : P.follows .mixedOrders = true) (hτ : TabOk P τ) (hΓ : EnvOk P Γ) {id : Nat} {ops : Array Oper} (hn : ∀ o ∈ ops, DstOk C o) (hok : drawOkH hv ops = true) {s' : S} (h : Sim C s a W) (hr : stepsH τ Γ hv ops ops.toList s = some s')
    (hk : ∀ a' W', Sim C s' a' W' → Q .normal a' W') : (Code.region id ops true).wpIn (fenceOf rnd) m P Q a W := by
  obtain ⟨G, hG⟩ := h
  have hall : ((List.range ops.size).filter fun i => !(Array.replicate ops.size false).getD i true) = List.range ops.size := by
    rw [List.filter_eq_self]
    intro i hi
    have := List.mem_range.1 hi
    simp [this]
  refine wpIn_region_any hm (runAnyH_sim hτ hΓ hn hok hk _ _ (by simp) (fun i o _ hl => ?_) (by rw [hall]; simp) ⟨G, hG.drew⟩ (by rw [hall, runIx_stepsH]; exact hr))
  by_cases hi : i < ops.size
  · simp [hi] at hl
  · simp [hi] at hl

theorem LW.drawH {n : Nat} {R : Exit → S → Prop} (hm : P.follows .mixedOrders = true) (hτ : TabOk P τ) (hΓ : EnvOk P Γ) {id : Nat} {ops : Array Oper} (hn : dstsOk n ops = true) (hok : drawOkH hv ops = true) (hr : stepsH τ Γ hv ops ops.toList s = some s') (h : R .normal s') :
    LW P n (.region id ops true) R s := by
  intro C a W m hC hs
  subst hC
  exact drawH_sim hm hτ hΓ (dstsOk_spec hn) hok hs hr fun a' W' hs' => ⟨s', hs', h⟩
end
end Go.LI
/- States as tables, for runs that the kernel carries out. -/
namespace Go.LI
open Go Go.RowKit

inductive Tr (α : Type) where
  | leaf
  | node (v : Option α) (l r : Tr α)

namespace Tr
variable {α β : Type}

def get : Tr α → Nat → Option α
  | .leaf, _ => none
  | .node v l r, k => cond (Nat.beq k 0) v (cond (Nat.beq (k % 2) 1) (l.get (k / 2)) (r.get (k / 2 - 1)))

def set : Nat → Tr α → Nat → α → Tr α
  | 0, t, _, _ => t
  | n + 1, .leaf, k, x => cond (Nat.beq k 0) (.node (some x) .leaf .leaf) (cond (Nat.beq (k % 2) 1) (.node none (set n .leaf (k / 2) x) .leaf) (.node none .leaf (set n .leaf (k / 2 - 1) x)))
  | n + 1, .node v l r, k, x => cond (Nat.beq k 0) (.node (some x) l r) (cond (Nat.beq (k % 2) 1) (.node v (set n l (k / 2) x) r) (.node v l (set n r (k / 2 - 1) x)))

def map (f : α → β) : Tr α → Tr β
  | .leaf => .leaf
  | .node v l r => .node (v.map f) (l.map f) (r.map f)

theorem get_map (f : α → β) : ∀ (t : Tr α) (k : Nat), (t.map f).get k = (t.get k).map f
  | .leaf, _ => rfl
  | .node v l r, k => by
    unfold map get
    cases Nat.beq k 0 with
    | true => rfl
    | false =>
      cases Nat.beq (k % 2) 1 with
      | true => exact get_map f l _
      | false => exact get_map f r _

theorem get_leaf (k : Nat) : (Tr.leaf : Tr α).get k = none := rfl

theorem beq_iff (a b : Nat) : Nat.beq a b = decide (a = b) := by
  by_cases h : a = b
  · subst h; simp
  · simp only [h, decide_false]
    cases hb : Nat.beq a b with
    | false => rfl
    | true => exact absurd (Nat.eq_of_beq_eq_true hb) h

theorem half {i k : Nat} (hi : i ≠ 0) (hk : k ≠ 0) (h : i % 2 = k % 2) (h2 : i / 2 = k / 2) : i = k := by omega

theorem get_node (v : Option α) (l r : Tr α) (k : Nat) : (Tr.node v l r).get k = if k = 0 then v else if k % 2 = 1 then l.get (k / 2) else r.get (k / 2 - 1) := by
  simp only [get, beq_iff, Bool.cond_decide]

theorem set_leaf (n k : Nat) (x : α) : set (n + 1) .leaf k x = set (n + 1) (.node none .leaf .leaf) k x := by
  simp only [set]

theorem get_set : ∀ (n : Nat) (t : Tr α) (k : Nat) (x : α) (i : Nat), k + 1 < 2 ^ n → (set n t k x).get i = if i = k then some x else t.get i
  | 0, _, k, _, _, h => by simp at h
  | n + 1, .leaf, k, x, i, h => by
    rw [set_leaf, get_set_node n none .leaf .leaf k x i h]
    split
    · rfl
    · rw [get_node, get_leaf, get_leaf, get_leaf]; split <;> (try split) <;> rfl
  | n + 1, .node v l r, k, x, i, h => get_set_node n v l r k x i h
  where
  get_set_node (n : Nat) (v : Option α) (l r : Tr α) (k : Nat) (x : α) (i : Nat) (h : k + 1 < 2 ^ (n + 1)) : (set (n + 1) (.node v l r) k x).get i = if i = k then some x else (Tr.node v l r).get i := by
    rw [Nat.pow_succ] at h
    simp only [set, beq_iff, Bool.cond_decide]
    by_cases hk0 : k = 0
    · subst hk0
      simp only [if_true, get_node]
      by_cases hi : i = 0
      · simp [hi]
      · simp [hi]
    · simp only [hk0, if_false]
      by_cases hk1 : k % 2 = 1
      · simp only [hk1, if_true, get_node]
        by_cases hi : i = 0
        · simp [hi, Ne.symm hk0]
        · simp only [hi, if_false]
          by_cases hi1 : i % 2 = 1
          · simp only [hi1, if_true]
            rw [get_set n l (k / 2) x (i / 2) (by omega)]
            by_cases he : i = k
            · subst he; simp
            · have : ¬ i / 2 = k / 2 := fun h2 => he (half hi hk0 (by omega) h2)
              simp [he, this]
          · have : ¬ i = k := fun e => hi1 (e ▸ hk1)
            simp [hi1, this]
      · simp only [hk1, if_false, get_node]
        by_cases hi : i = 0
        · simp [hi, Ne.symm hk0]
        · simp only [hi, if_false]
          by_cases hi1 : i % 2 = 1
          · have : ¬ i = k := fun e => hk1 (e ▸ hi1)
            simp [hi1, this]
          · simp only [hi1, if_false]
            rw [get_set n r (k / 2 - 1) x (i / 2 - 1) (by omega)]
            by_cases he : i = k
            · subst he; simp
            · have : ¬ i / 2 - 1 = k / 2 - 1 := fun h2 => he (half hi hk0 (by omega) (by omega))
              simp [he, this]
end Tr

/-! ### states -/
structure E where
  t : Tr (LV × Tag) := .leaf
  b : Tr (List (Nat × Option (List (LV × Tag)))) := .leaf
  g : Tr Nat := .leaf
  tv : Tr Nat := .leaf
  tvf : Nat → Nat := fun _ => 0
  mkd : Nat → Nat → Bool := fun x _ => Nat.ble lentBase x

/-- Lent boxes and own ones, in turn. -/
def bk (d : Nat) : Nat := cond (Nat.ble lentBase d) (2 * (d - lentBase)) (2 * d + 1)

theorem bk_inj {x y : Nat} (h : bk x = bk y) : x = y := by
  unfold bk at h
  have hx : Nat.ble lentBase x = decide (lentBase ≤ x) := by rw [Bool.eq_iff_iff]; simp
  have hy : Nat.ble lentBase y = decide (lentBase ≤ y) := by rw [Bool.eq_iff_iff]; simp
  rw [hx, hy] at h
  simp only [Bool.cond_decide] at h
  split at h <;> split at h <;> omega

def lookG : List (Nat × Option (List (LV × Tag))) → Nat → Option (List (LV × Tag))
  | [], _ => none
  | (g', c) :: r, g => cond (Nat.beq g g') c (lookG r g)

def putG : List (Nat × Option (List (LV × Tag))) → Nat → Option (List (LV × Tag)) → List (Nat × Option (List (LV × Tag)))
  | [], g, c => [(g, c)]
  | (g', c') :: r, g, c => cond (Nat.beq g g') ((g, c) :: r) ((g', c') :: putG r g c)

theorem lookG_putG : ∀ (l : List (Nat × Option (List (LV × Tag)))) (g : Nat) (c : Option (List (LV × Tag))) (i : Nat), lookG (putG l g c) i = if i = g then c else lookG l i
  | [], g, c, i => by simp only [putG, lookG, Tr.beq_iff, Bool.cond_decide]
  | (g', c') :: r, g, c, i => by
    simp only [putG, Tr.beq_iff, Bool.cond_decide]
    by_cases h : g = g'
    · subst h
      simp only [if_true, lookG, Tr.beq_iff, Bool.cond_decide]
      split <;> rfl
    · simp only [h, if_false, lookG, Tr.beq_iff, Bool.cond_decide]
      rw [lookG_putG r g c i]
      by_cases h1 : i = g'
      · subst h1; simp [Ne.symm h]
      · simp [h1]

namespace E
def gen (e : E) (d : Nat) : Nat := (e.g.get (bk d)).getD 0
def box (e : E) (d g : Nat) : Option (List (LV × Tag)) :=
  match e.b.get (bk d) with
  | some l => lookG l g
  | none => none
def tok (e : E) (t : Nat) : Nat :=
  match e.tv.get t with
  | some v => v
  | none => e.tvf t

def toS (e : E) : S where
  t := fun i => match e.t.get i with
    | some p => p.1
    | none => .tup []
  o := fun i => match e.t.get i with
    | some p => p.2
    | none => (0, 0)
  b := e.box
  g := e.gen
  tv := e.tok
  mkd := e.mkd

def put (e : E) (dst : Option Nat) (l : LV) (tag : Tag) : E :=
  match dst with
  | some d => { e with t := Tr.set 24 e.t d (l, tag) }
  | none => e

def setB (e : E) (d g : Nat) (c : Option (List (LV × Tag))) : E :=
  { e with b := Tr.set 24 e.b (bk d) (putG (match e.b.get (bk d) with | some l => l | none => []) g c) }

/-- Within the tables' bounds. -/
def small (d : Nat) : Bool := Nat.ble (bk d) 16000000
def smallO (d : Option Nat) : Bool :=
  match d with
  | some d => Nat.ble d 16000000
  | none => true

theorem small_lt {d : Nat} (h : small d = true) : bk d + 1 < 2 ^ 24 := by
  have := Nat.le_of_ble_eq_true h
  omega

theorem box_setB {e : E} {d g : Nat} {c : Option (List (LV × Tag))} (h : small d = true) (x y : Nat) : (e.setB d g c).box x y = if x = d ∧ y = g then c else e.box x y := by
  unfold setB box
  simp only
  rw [Tr.get_set _ _ _ _ _ (small_lt h)]
  by_cases hx : x = d
  · subst hx
    simp only [if_true, true_and]
    rw [lookG_putG]
    split
    · rfl
    · cases e.b.get (bk x) <;> rfl
  · have : ¬ bk x = bk d := fun he => hx (bk_inj he)
    simp only [this, if_false, hx, false_and]

theorem gen_set {e : E} {d v : Nat} (h : small d = true) (x : Nat) : ({ e with g := Tr.set 24 e.g (bk d) v } : E).gen x = upd e.gen d v x := by
  unfold gen upd
  simp only
  rw [Tr.get_set _ _ _ _ _ (small_lt h)]
  by_cases hx : x = d
  · subst hx; simp
  · have : ¬ bk x = bk d := fun he => hx (bk_inj he)
    simp [this, hx]

theorem toS_put {e : E} {dst : Option Nat} {l : LV} {tag : Tag} (h : smallO dst = true) : (e.put dst l tag).toS = e.toS.put dst l tag := by
  cases dst with
  | none => rfl
  | some d =>
    have hd : d + 1 < 2 ^ 24 := by have := Nat.le_of_ble_eq_true h; omega
    rw [S.put_some]
    refine S.ext' rfl rfl rfl ?_ ?_ rfl rfl rfl rfl
    · funext i
      simp only [toS, put, upd]
      rw [Tr.get_set _ _ _ _ _ hd]
      by_cases hi : i = d
      · simp [hi]
      · simp [hi]
    · funext i
      simp only [toS, put, upd]
      rw [Tr.get_set _ _ _ _ _ hd]
      by_cases hi : i = d
      · simp [hi]
      · simp [hi]

def objs1 (e : E) : List ((Nat × Nat) × Option (List LV)) → E
  | [] => e
  | q :: r => (objs1 e r).setB q.1.1 q.1.2 (q.2.map fun l => l.map fun z => (z, (0, 0)))

def mu (e : E) : MU → E
  | .none => e
  | .box d cells => ({ e with g := Tr.set 24 e.g (bk d) (e.gen d + 1) } : E).setB d (e.gen d + 1) (some cells)
  | .store d g off cells => e.setB d g ((e.box d g).map (over off cells))
  | .tok t v => { e with tv := Tr.set 24 e.tv t v }
  | .renew d g d' cells => { (({ e with g := Tr.set 24 e.g (bk d') (e.gen d' + 1) } : E).setB d g none).setB d' (e.gen d' + 1) (some cells) with mkd := fun x y => if x = d' ∧ y = e.gen d' + 1 then e.mkd d g else e.mkd x y }
  | .objs us d cnt => { ({ e with g := Tr.set 24 e.g (bk d) (e.gen d + cnt) } : E).objs1 us with mkd := fun x y => if x = d ∧ e.gen d < y ∧ y ≤ e.gen d + cnt then us.any (fun k => e.mkd k.1.1 k.1.2 && k.2.isNone) else e.mkd x y }

def muOk : MU → Bool
  | .none => true
  | .box d _ => small d
  | .store d _ _ _ => small d
  | .tok t _ => Nat.ble t 16000000
  | .renew d _ d' _ => small d && small d'
  | .objs us d _ => small d && us.all fun q => small q.1.1

theorem box_objs1 : ∀ (us : List ((Nat × Nat) × Option (List LV))) (e : E), (us.all fun q => small q.1.1) = true → ∀ x y, (e.objs1 us).box x y = objAt us x y (e.box x y)
  | [], _, _, _, _ => rfl
  | q :: r, e, h, x, y => by
    simp only [List.all_cons, Bool.and_eq_true] at h
    unfold objs1
    rw [box_setB h.1, box_objs1 r e h.2 x y]
    obtain ⟨k, c⟩ := q
    rfl

theorem objs1_g : ∀ (us : List ((Nat × Nat) × Option (List LV))) (e : E), (e.objs1 us).g = e.g ∧ (e.objs1 us).t = e.t ∧ (e.objs1 us).tv = e.tv ∧ (e.objs1 us).tvf = e.tvf
  | [], _ => ⟨rfl, rfl, rfl, rfl⟩
  | _ :: r, e => objs1_g r e

theorem toS_mu {e : E} {m : MU} (h : muOk m = true) : (e.mu m).toS = m.apply e.toS := by
  cases m with
  | none => rfl
  | box d cells =>
    refine S.ext' rfl rfl rfl rfl rfl ?_ ?_ rfl rfl
    · funext x y
      exact box_setB h x y
    · funext x
      exact gen_set h x
  | store d g off cells =>
    refine S.ext' rfl rfl rfl rfl rfl ?_ rfl rfl rfl
    funext x y
    exact box_setB h x y
  | tok t v =>
    refine S.ext' rfl rfl rfl rfl rfl rfl rfl ?_ rfl
    funext i
    have ht : t + 1 < 2 ^ 24 := by have := Nat.le_of_ble_eq_true h; omega
    simp only [toS, mu, tok, MU.apply, upd]
    rw [Tr.get_set _ _ _ _ _ ht]
    by_cases hi : i = t
    · simp [hi]
    · simp [hi]
  | renew d g d' cells =>
    simp only [muOk, Bool.and_eq_true] at h
    refine S.ext' rfl rfl rfl rfl rfl ?_ ?_ rfl rfl
    · funext x y
      refine (box_setB (e := (({ e with g := Tr.set 24 e.g (bk d') (e.gen d' + 1) } : E).setB d g none)) h.2 x y).trans ?_
      rw [box_setB h.1]
      rfl
    · funext x
      exact gen_set h.2 x
  | objs us d cnt =>
    simp only [muOk, Bool.and_eq_true] at h
    refine S.ext' rfl rfl rfl ?_ ?_ ?_ ?_ ?_ rfl
    · funext i
      simp only [toS, mu, MU.apply, (objs1_g us _).2.1]
    · funext i
      simp only [toS, mu, MU.apply, (objs1_g us _).2.1]
    · funext x y
      exact box_objs1 us _ h.2 x y
    · funext x
      simp only [toS, mu, MU.apply]
      unfold gen
      simp only [(objs1_g us _).1]
      exact gen_set h.1 x
    · funext x
      simp only [toS, mu, MU.apply]
      unfold tok
      simp only [(objs1_g us _).2.2.1, (objs1_g us _).2.2.2]

def app (e : E) (u : Upd) (dst : Option Nat) : Option E := cond (smallO dst && muOk u.m) (some ((e.mu u.m).put dst u.l u.tag)) none

theorem app_some {e e' : E} {u : Upd} {dst : Option Nat} (h : e.app u dst = some e') : e'.toS = u.apply dst e.toS := by
  unfold app at h
  cases hc : smallO dst && muOk u.m with
  | false => rw [hc] at h; cases h
  | true =>
    rw [hc] at h
    simp only [Bool.and_eq_true] at hc
    cases h
    unfold Upd.apply
    rw [toS_put hc.1, toS_mu hc.2]
end E
end Go.LI
