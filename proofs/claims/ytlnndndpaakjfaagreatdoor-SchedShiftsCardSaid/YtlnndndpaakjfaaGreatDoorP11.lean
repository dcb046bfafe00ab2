/- Texts of a small semantics over the model and of specifications of functions, joined: LICode. -/
import Derived.Test.YtlnndndpaakjfaaGreatDoorP10
import Derived.ControlIn
import Derived.RangeFuncLeaves
import Derived.RangeFuncRecord
import Derived.Scope
import Derived.Shelf.Abstract
set_option linter.unusedSimpArgs false
set_option linter.unusedVariables false
namespace Go.LI
open Go Go.RowKit

/-- Whatever the machine's state that reads so: the code runs, and behind it the state reads as R asks. -/
def LW (P : Program) (n : Nat) (c : Code) (R : Exit → S → Prop) (s : S) : Prop :=
  ∀ (C : Ctx) (a : Act) (W : World) (m : Nat), C.n = n → Sim C s a W → c.wpIn (fenceOf C.rnd) m P (fun e a' W' => ∃ s', Sim C s' a' W' ∧ R e s') a W

/-- All destinations of a list of operations lie in the frame. -/
def dstsOk (n : Nat) (ops : Array Oper) : Bool := ops.toList.all fun o => match o.dst with
  | some d => decide (d < n)
  | none => true

theorem dstsOk_spec {C : Ctx} {ops : Array Oper} (h : dstsOk C.n ops = true) : ∀ o ∈ ops, DstOk C o := by
  intro o ho d hd
  have := List.all_eq_true.1 h o (by simpa using ho)
  rw [hd] at this
  simpa using this

/-- The exits of the code ahead: at the end it goes on with K. -/
def thenL (K : S → Prop) (R : Exit → S → Prop) : Exit → S → Prop
  | .normal, s => K s
  | e, s => R e s

def blockL (id : Nat) (R : Exit → S → Prop) : Exit → S → Prop
  | .exit i, s => if i = id then R .normal s else R (.exit i) s
  | e, s => R e s

section
variable {P : Program} {τ : Tab} {Γ : Env} {n : Nat} {R : Exit → S → Prop} {s s' : S}

theorem LW.mono {c : Code} {R' : Exit → S → Prop} (h : LW P n c R s) (hr : ∀ e s, R e s → R' e s) : LW P n c R' s :=
  fun C a W m hn hs => wpIn_mono (h C a W m hn hs) fun e _ _ ⟨s', h1, h2⟩ => ⟨s', h1, hr e s' h2⟩

theorem LW.skip (h : R .normal s) : LW P n .skip R s := fun _ _ _ _ _ hs => wpIn_skip ⟨s, hs, h⟩
theorem LW.label {l : Nat} (h : R .normal s) : LW P n (.label l) R s := fun _ _ _ _ _ hs => wpIn_label ⟨s, hs, h⟩
theorem LW.exit {i : Nat} (h : R (.exit i) s) : LW P n (.exit i) R s := fun _ _ _ _ _ hs => wpIn_exit ⟨s, hs, h⟩
theorem LW.ret (h : R .ret s) : LW P n .ret R s := fun _ _ _ _ _ hs => wpIn_ret ⟨s, hs, h⟩

theorem LW.region (hτ : TabOk P τ) (hΓ : EnvOk P Γ) {id : Nat} {ops : Array Oper} (hn : dstsOk n ops = true) (hr : steps τ Γ ops ops.toList s = some s') (h : R .normal s') : LW P n (.region id ops false) R s := by
  intro C a W m hC hs
  subst hC
  exact region_sim hτ hΓ (dstsOk_spec hn) hs hr fun a' W' hs' => ⟨s', hs', h⟩

theorem LW.draw (hm : P.follows .mixedOrders = true) (hτ : TabOk P τ) (hΓ : EnvOk P Γ) {id : Nat} {ops : Array Oper} (hn : dstsOk n ops = true) (hok : drawOk ops = true) (hr : stepsD τ Γ ops ops.toList s = some s') (h : R .normal s') :
    LW P n (.region id ops true) R s := by
  intro C a W m hC hs
  subst hC
  exact draw_sim hm hτ hΓ (dstsOk_spec hn) hok hs hr fun a' W' hs' => ⟨s', hs', h⟩

theorem LW.seq {x y : Code} (h : LW P n x (thenL (LW P n y R) R) s) : LW P n (.seq x y) R s := by
  intro C a W m hC hs
  refine wpIn_seq (wpIn_mono (h C a W m hC hs) ?_)
  rintro e a' W' ⟨s', h1, h2⟩
  cases e with
  | normal => exact h2 C a' W' m hC h1
  | exit => exact ⟨s', h1, h2⟩
  | goto => exact ⟨s', h1, h2⟩
  | ret => exact ⟨s', h1, h2⟩
  | panic => exact ⟨s', h1, h2⟩
  | outgrown => exact ⟨s', h1, h2⟩

theorem LW.cond {c : Operand} {x y : Code} {b : Bool} (hc : s.eval c = .v (.bool b)) (h : LW P n (if b then x else y) R s) : LW P n (.cond c x y) R s := by
  intro C a W m hC hs
  obtain ⟨G, hG⟩ := hs
  exact wpIn_cond (rd_vv hG hc) (h C a W m hC ⟨G, hG⟩)

theorem LW.block {id : Nat} {c : Code} (h : LW P n c (blockL id R) s) : LW P n (.block id c) R s := by
  intro C a W m hC hs
  refine wpIn_block (wpIn_mono (h C a W m hC hs) ?_)
  rintro e a' W' ⟨s', h1, h2⟩
  cases e with
  | exit i =>
    simp only [blockL, Exit.inBlock] at h2 ⊢
    split at h2
    · rename_i hi; rw [if_pos hi]; exact ⟨s', h1, h2⟩
    · rename_i hi; rw [if_neg hi]; exact ⟨s', h1, h2⟩
  | normal => exact ⟨s', h1, h2⟩
  | goto => exact ⟨s', h1, h2⟩
  | ret => exact ⟨s', h1, h2⟩
  | panic => exact ⟨s', h1, h2⟩
  | outgrown => exact ⟨s', h1, h2⟩

theorem least (p : Nat → Prop) (h : ∃ n, p n) : ∃ m, p m ∧ ∀ k, p k → m ≤ k := by
  obtain ⟨n, hn⟩ := h
  induction n using Nat.strongRecOn with
  | _ n ih =>
    by_cases hm : ∃ k, k < n ∧ p k
    · obtain ⟨k, hk, hp⟩ := hm
      exact ih k hk hp
    · exact ⟨n, hn, fun k hk => Nat.le_of_not_lt fun hlt => hm ⟨k, hlt, hk⟩⟩

open Classical in
/-- I k: so it stands with (at most) k rounds to go. -/
theorem LW.loop {c : Code} (I : Nat → S → Prop) {k : Nat} (h0 : I k s) (round : ∀ k s, I k s → LW P n c (thenL (fun s' => ∃ k', k' < k ∧ I k' s') R) s) : LW P n (.loop c) R s := by
  intro C a W m hC hs
  let J : Act → World → Nat → Prop := fun a W k => ∃ s, Sim C s a W ∧ I k s
  let μ : Act → World → Nat := fun a W => if h : ∃ k, J a W k then Classical.choose (least _ h) else 0
  refine wpIn_loop (fun a W => ∃ k, J a W k) μ ⟨k, s, hs, h0⟩ ?_
  intro a W hI
  have hμ : μ a W = Classical.choose (least _ hI) := dif_pos hI
  obtain ⟨s1, hs1, hI1⟩ := (Classical.choose_spec (least _ hI)).1
  refine wpIn_mono (round _ s1 hI1 C a W m hC hs1) ?_
  rintro e a' W' ⟨s', h1, h2⟩
  cases e with
  | normal =>
    obtain ⟨k', hk', hI'⟩ := h2
    have hJ : ∃ k, J a' W' k := ⟨k', s', h1, hI'⟩
    refine ⟨hJ, ?_⟩
    have hμ' : μ a' W' = Classical.choose (least _ hJ) := dif_pos hJ
    rw [hμ, hμ']
    exact Nat.lt_of_le_of_lt ((Classical.choose_spec (least _ hJ)).2 k' ⟨s', h1, hI'⟩) hk'
  | exit => exact ⟨s', h1, h2⟩
  | goto => exact ⟨s', h1, h2⟩
  | ret => exact ⟨s', h1, h2⟩
  | panic => exact ⟨s', h1, h2⟩
  | outgrown => exact ⟨s', h1, h2⟩

end

/-! ### functions -/
/-- The frame's first state. -/
def init (args : List LV) : S where
  t := fun i => args.getD i (.tup [])
  o := fun _ => (0, 0)
  b := fun _ _ => none
  g := fun _ => 0
  tv := fun _ => 0
  mkd := fun x _ => decide (lentBase ≤ x)

/-- .. of a frame that is lent boxes. -/
def initL (args : List LV) (objs : List (List LV)) : S :=
  { init args with b := fun x y => if lentBase ≤ x ∧ y = 0 then (objs[x - lentBase]?).map (fun l => l.map fun c => (c, (0, 0))) else none }

def resOne (τ : Tab) (s : S) : ResultVar → Option LV
  | .tmp t => if (s.t t).plain then some (s.t t) else none
  | .cell x ty => match τ ty, s.t x with
    | some ti, .ptr d g off => match s.b d g with
      | some cells => if ((cells.drop off).take ti.size).all (fun c => c.1.plain) then part ti.d.isAgg ti.size ((cells.drop off).map (·.1)) else none
      | none => none
    | _, _ => none

def resL (τ : Tab) (results : Array ResultVar) (s : S) : Option LV :=
  match results.toList with
  | [x] => resOne τ s x
  | xs => (xs.mapM (resOne τ s)).map .tup

def retL (τ : Tab) (results : Array ResultVar) (r : LV) : Exit → S → Prop
  | .normal, s | .ret, s => resL τ results s = some r
  | _, _ => False

section
variable {P : Program} {τ : Tab} {Γ : Env}

/-- How the machine takes a result. -/
def resRun (a : Act) : ResultVar → Sem Value
  | .tmp t => pure (a.tmps.getD t undef)
  | .cell y t => do loadVar t (← asAddr (a.tmps.getD y undef))

theorem resOne_run (hτ : TabOk P τ) {C : Ctx} {G : Gh} {s : S} {a : Act} {W : World} (h : SimG C G s a W) {x : ResultVar} {r : LV} (hr : resOne τ s x = some r) :
    ∃ v, (resRun a x).run P W = .ok v W ∧ Rd G.Pr W r v := by
  cases x with
  | tmp t =>
    unfold resOne at hr
    simp only at hr
    split at hr
    · rename_i hp
      simp only [Option.some.injEq] at hr
      subst hr
      exact ⟨_, by simp [resRun], RepT.rd (h.temp t) hp⟩
    · cases hr
  | cell y t =>
    unfold resOne at hr
    simp only at hr
    split at hr
    · rename_i ti d g off ht hy
      obtain ⟨i, hT⟩ := hτ _ _ ht
      cases hb : s.b d g with
      | none => rw [hb] at hr; cases hr
      | some cells =>
        rw [hb] at hr
        simp only at hr
        split at hr
        · rename_i hpl
          have hv : a.tmps.getD y undef = .pointer (some ⟨G.β d g, off, none⟩) := by have := h.temp y; rw [hy] at this; exact this
          obtain ⟨cur, e, hh, hc, h1, h2, h3, h4⟩ := h.loadPart hb hr (by rw [hpl]; simp)
          have hrun := run_loadAt (W := W) hT ⟨G.β d g, off, none⟩ (fun j => cur.getD (off + j) undef) (fun j hj => by
            rw [add_lit, cell_box hh]
            exact hc j hj) h1
          have hplain : r.plain = true := by
            unfold part at hr
            split at hr
            · split at hr
              · simp only [Option.some.injEq] at hr; subst hr; rfl
              · cases hr
            · split at hr
              · rename_i c r0 hcr
                split at hr
                · rename_i hn
                  simp only [Option.some.injEq] at hr
                  subst hr
                  have h0 : ((cells.drop off).map (·.1))[0]? = some c := by rw [hcr]; rfl
                  rw [List.getElem?_map] at h0
                  obtain ⟨q, hq, rfl⟩ := Option.map_eq_some_iff.1 h0
                  refine List.all_eq_true.1 hpl q ?_
                  rw [hn]
                  exact List.mem_of_getElem? (i := 0) (by rw [List.getElem?_take, if_pos (by omega)]; exact hq)
                · cases hr
              · cases hr
          refine ⟨_, ?_, RepT.rd h2 hplain⟩
          simp only [Instr.loadAt, Instr.sureAddr, Sem.run_bind, Sem.run_pure, Result.andThen_ok] at hrun
          simp only [resRun, hv, asAddr, Sem.run_bind, Sem.run_pure, Result.andThen_ok]
          exact hrun
        · cases hr
    · cases hr

theorem mapM_run (hτ : TabOk P τ) {C : Ctx} {G : Gh} {s : S} {a : Act} {W : World} (h : SimG C G s a W) : ∀ (xs : List ResultVar) (rs : List LV), xs.mapM (resOne τ s) = some rs →
    ∃ vs, (xs.mapM (resRun a)).run P W = .ok vs W ∧ rs.length = vs.length ∧ ∀ (i : Nat) l u, rs[i]? = some l → vs[i]? = some u → Rd G.Pr W l u
  | [], rs, hr => by
    simp at hr
    subst hr
    exact ⟨[], by simp, rfl, by simp⟩
  | x :: xs, rs, hr => by
    simp only [List.mapM_cons, Option.bind_eq_bind, Option.pure_def] at hr
    obtain ⟨r, h1, hr⟩ := Option.bind_eq_some_iff.1 hr
    obtain ⟨rs', h2, hr⟩ := Option.bind_eq_some_iff.1 hr
    cases hr
    obtain ⟨v, hv, hrd⟩ := resOne_run hτ h h1
    obtain ⟨vs, hvs, hl, hall⟩ := mapM_run hτ h xs rs' h2
    refine ⟨v :: vs, ?_, by simp [hl], fun i l u hi hu => ?_⟩
    · rw [List.mapM_cons]
      simp only [Sem.run_bind, hv, Result.andThen_ok, hvs, Sem.run_pure]
    · cases i with
      | zero =>
        simp only [List.getElem?_cons_zero, Option.some.injEq] at hi hu
        subst hi; subst hu
        exact hrd
      | succ i => exact hall i l u (by simpa using hi) (by simpa using hu)

theorem results_run (hτ : TabOk P τ) {C : Ctx} {G : Gh} {s : S} {a : Act} {W : World} (h : SimG C G s a W) {fn : Func} {r : LV} (hr : resL τ fn.results s = some r) : ∃ v, (results fn a.tmps).run P W = .ok v W ∧ Rd G.Pr W r v := by
  have hkey : ∀ rs, fn.results.toList.mapM (resOne τ s) = some rs → ∃ vs : List Value, (results fn a.tmps).run P W = .ok (if h : vs.toArray.size = 1 then vs.toArray[0] else .tuple vs.toArray) W ∧ rs.length = vs.length ∧ ∀ (i : Nat) l u, rs[i]? = some l → vs[i]? = some u → Rd G.Pr W l u := by
    intro rs hrs
    obtain ⟨vs, h1, h2, h3⟩ := mapM_run hτ h _ rs hrs
    refine ⟨vs, ?_, h2, h3⟩
    have hfun : results fn a.tmps = (do
        let vs ← fn.results.mapM (resRun a)
        pure (if h : vs.size = 1 then vs[0] else .tuple vs)) := by
      unfold results
      congr 1
    rw [hfun, Array.mapM_eq_mapM_toList]
    simp only [Sem.run_bind, Sem.run_map, h1, Result.andThen_ok, Sem.run_pure]
  unfold resL at hr
  split at hr
  · rename_i x hx
    obtain ⟨vs, h1, h2, h3⟩ := hkey [r] (by rw [hx]; simp [List.mapM_cons, hr])
    match vs, h2 with
    | [v], _ => exact ⟨v, by simpa using h1, h3 0 r v rfl rfl⟩
  · rename_i hx
    obtain ⟨rs, h0, h4⟩ := Option.map_eq_some_iff.1 hr
    cases h4
    obtain ⟨vs, h1, h2, h3⟩ := hkey rs h0
    have hne : ¬ vs.toArray.size = 1 := by
      have hl : rs.length = fn.results.toList.length := by
        clear hr h1 h2 h3 hkey hx
        generalize fn.results.toList = xs at h0
        induction xs generalizing rs with
        | nil => simp at h0; subst h0; rfl
        | cons x xs ih =>
          simp only [List.mapM_cons, Option.bind_eq_bind, Option.pure_def] at h0
          obtain ⟨r, h1, h0⟩ := Option.bind_eq_some_iff.1 h0
          obtain ⟨rs', h2, h0⟩ := Option.bind_eq_some_iff.1 h0
          cases h0
          simp [ih rs' h2]
      intro h5
      have h6 : fn.results.toList.length = 1 := by rw [← hl, h2]; simpa using h5
      obtain ⟨x, hx'⟩ := List.length_eq_one_iff.1 h6
      exact hx x hx'
    rw [dif_neg hne] at h1
    exact ⟨_, h1, .tup h2 h3⟩

/-- The frame's first state. -/
theorem sim_init {Pr : Nat → Nat → Prop} {W : World} {args : List LV} {us : List Value} {n : Nat} (hp : ∀ k o, Pr k o → k < W.heap.size) (hl : args.length = us.length) (hn : us.length ≤ n)
    (hr : ∀ (i : Nat) l u, args[i]? = some l → us[i]? = some u → Rd Pr W l u) :
    Sim { base := W.heap.size, W0 := W, Pr0 := Pr, n := n } (init args) { tmps := us.toArray ++ Array.replicate (n - us.toArray.size) undef, defers := [] } W := by
  have htemp : ∀ i, Rd Pr W ((init args).t i) ((us.toArray ++ Array.replicate (n - us.toArray.size) undef).getD i undef) := by
    intro i
    simp only [init, List.getD]
    cases ha : args[i]? with
    | none =>
      have hi : us.length ≤ i := by rw [← hl]; exact List.getElem?_eq_none_iff.1 ha
      have hv : (us.toArray ++ Array.replicate (n - us.toArray.size) undef).getD i undef = .tuple #[] := by
        rw [Array.getD_eq_getD_getElem?, Array.getElem?_append_right (by simpa using hi), Array.getElem?_replicate]
        split <;> rfl
      rw [hv]
      exact .tup (vs := []) (us := []) rfl (fun i l u hl _ => by simp at hl)
    | some l =>
      have hi : i < us.length := by rw [← hl]; exact (List.getElem?_eq_some_iff.1 ha).1
      have hv : (us.toArray ++ Array.replicate (n - us.toArray.size) undef).getD i undef = us[i] := by
        rw [Array.getD_eq_getD_getElem?, Array.getElem?_append_left (by simpa using hi)]
        simp [hi]
      rw [hv]
      exact hr i l _ ha (List.getElem?_eq_getElem hi)
  refine ⟨⟨fun _ _ => 0, Pr, fun _ => none, fun _ _ => 0, fun _ _ => 0, fun _ => False⟩, ⟨⟨fun _ _ _ _ _ _ _ h _ _ _ => h, fun _ _ _ h => (by cases h), Nat.le_refl _⟩, fun d h => (by cases h), fun l h => (by cases h), List.nodup_nil, .refl _ _, fun _ _ _ => ⟨rfl, rfl, rfl⟩, fun _ => Nat.le_refl _, fun _ _ _ h => h.elim, trivial, rfl, fun _ _ _ h => h.elim, fun b h => h.elim, fun _ _ _ h => h, fun _ _ h => (by cases h)⟩, ?_, fun _ => BelowX.refl _ _ _, fun d g h => by simp [init] at h, Nat.le_refl _, hp, fun _ _ => id, fun k o h => .inl h, fun i => RepT.of_rd (htemp i), fun i => ⟨Nat.le_refl _, fun h => absurd rfl h⟩, fun d g cells h => by simp [init] at h, fun d g d' g' h => by simp [init] at h, fun d g h => by simp [init] at h, fun i k hk => ?_, fun tok w h => by simp at h, fun t t' w w' h => (by simp at h), fun k o h => .inl h⟩
  · simp; omega
  · rw [keys_of_rd (htemp i)] at hk
    cases hk

/-- .. where boxes are lent. -/
theorem simG_initL {G : Gh} {W : World} {args : List LV} {objs : List (List LV)} {us : List Value} {n : Nat} (hp : ∀ k o, G.Pr k o → k < W.heap.size) (hob : ObjsAt G W (objs.map some)) (hl : args.length = us.length) (hn : us.length ≤ n)
    (hr : ∀ (i : Nat) l u, args[i]? = some l → us[i]? = some u → RepT G W l u) (hk1 : ∀ l ∈ args, KeysIn objs.length l) (hk2 : ∀ o ∈ objs, ∀ l ∈ o, KeysIn objs.length l) :
    SimG { base := W.heap.size, W0 := W, Pr0 := G.Pr, n := n, X := fun k => ∃ i, i < objs.length ∧ k = G.β (lentBase + i) 0, β0 := fun x _ => G.β x 0, rc0 := fun x _ => G.rc x 0, rz0 := fun x _ => G.rz x 0 } { G with ow := fun _ => none, O := fun _ => False } (initL args objs)
      { tmps := us.toArray ++ Array.replicate (n - us.toArray.size) undef, defers := [] } W := by
  have hsome : ∀ x y cells, (initL args objs).b x y = some cells → ∃ i ob, x = lentBase + i ∧ y = 0 ∧ objs[i]? = some ob ∧ cells = ob.map fun c => (c, ((0, 0) : Tag)) := by
    intro x y cells h
    simp only [initL] at h
    split at h
    · rename_i hxy
      obtain ⟨ob, h1, h2⟩ := Option.map_eq_some_iff.1 h
      exact ⟨x - lentBase, ob, by omega, hxy.2, h1, h2.symm⟩
    · cases h
  have hsomeS : ∀ x y, ((initL args objs).b x y).isSome → ∃ i ob, x = lentBase + i ∧ y = 0 ∧ objs[i]? = some ob := by
    intro x y h
    obtain ⟨c, hc⟩ := Option.isSome_iff_exists.1 h
    obtain ⟨i, ob, h1, h2, h3, _⟩ := hsome x y c hc
    exact ⟨i, ob, h1, h2, h3⟩
  have hkeys : ∀ {l : LV}, KeysIn objs.length l → ∀ k ∈ l.keys, k.2 ≤ 0 := fun h k hk => by
    obtain ⟨i, _, rfl⟩ := h k hk
    exact Nat.le_refl _
  have htemp : ∀ i, RepT G W ((initL args objs).t i) ((us.toArray ++ Array.replicate (n - us.toArray.size) undef).getD i undef) ∧ ∀ k ∈ ((initL args objs).t i).keys, k.2 ≤ 0 := by
    intro i
    simp only [initL, init, List.getD]
    cases ha : args[i]? with
    | none =>
      have hi : us.length ≤ i := by rw [← hl]; exact List.getElem?_eq_none_iff.1 ha
      have hv : (us.toArray ++ Array.replicate (n - us.toArray.size) undef).getD i undef = .tuple #[] := by
        rw [Array.getD_eq_getD_getElem?, Array.getElem?_append_right (by simpa using hi), Array.getElem?_replicate]
        split <;> rfl
      rw [hv]
      exact ⟨RepT.of_rd (.tup (vs := []) (us := []) rfl (fun i l u hl _ => by simp at hl)), fun k hk => by cases hk⟩
    | some l =>
      have hi : i < us.length := by rw [← hl]; exact (List.getElem?_eq_some_iff.1 ha).1
      have hv : (us.toArray ++ Array.replicate (n - us.toArray.size) undef).getD i undef = us[i] := by
        rw [Array.getD_eq_getD_getElem?, Array.getElem?_append_left (by simpa using hi)]
        simp [hi]
      rw [hv]
      exact ⟨hr i l _ ha (List.getElem?_eq_getElem hi), hkeys (hk1 l (List.mem_of_getElem? ha))⟩
  have hobm : ∀ (i : Nat) ob, objs[i]? = some ob → (objs.map some)[i]? = some (some ob) := fun i ob h => by rw [List.getElem?_map, h]; rfl
  refine ⟨⟨⟨fun _ _ _ _ _ _ _ h _ _ _ => h, fun _ _ _ h => (by cases h), Nat.le_refl _⟩, fun d h => (by cases h), fun l h => (by cases h), List.nodup_nil, .refl _ _, fun x y hy => by obtain rfl : y = 0 := Nat.le_zero.1 hy; exact ⟨rfl, rfl, rfl⟩, fun _ => Nat.le_refl _, fun _ _ _ h => h.elim, trivial, rfl, fun _ _ _ h => h.elim, fun b h => h.elim, fun _ _ _ h => h, fun _ _ h => (by cases h)⟩, ?_, fun _ => BelowX.refl _ _ _, ?_, Nat.le_refl _, hp, fun _ _ => id, fun k o h => .inl h, fun i => (htemp i).1.move' (fun _ _ => rfl) (fun _ _ => id) (fun _ _ => ⟨rfl, rfl, rfl⟩), fun i => ⟨Nat.le_refl _, fun h => absurd rfl h⟩, ?_, ?_, ?_, fun i => (htemp i).2, fun tok w h => by simp at h, fun t t' w w' h => (by simp at h), fun k o h => .inl h⟩
  · simp; omega
  · intro x y hxy hm
    obtain ⟨i, ob, rfl, _, _⟩ := hsomeS x y hxy
    simp [initL, init] at hm
  · intro x y cells hxy
    obtain ⟨i, ob, rfl, rfl, hi, rfl⟩ := hsome x y cells hxy
    obtain ⟨⟨cur, e, hh, hsz, hcz, hc⟩, hnp⟩ := hob.1 i ob (hobm i ob hi)
    refine ⟨.inr ⟨i, (List.getElem?_eq_some_iff.1 hi).1, rfl⟩, ⟨cur, e, hh, by simpa using hsz, hcz, fun j l tg u h1 h2 => ?_⟩, hnp⟩
    rw [List.getElem?_map] at h1
    obtain ⟨l', hl', he⟩ := Option.map_eq_some_iff.1 h1
    obtain ⟨rfl, rfl⟩ : l' = l ∧ (0, 0) = tg := by simpa using he
    obtain ⟨a1, a2⟩ := hc j l' u hl' h2
    exact ⟨a1.move' (fun _ _ => rfl) (fun _ _ => id) (fun _ _ => ⟨rfl, rfl, rfl⟩), a2, .zero, hkeys (hk2 ob (List.mem_of_getElem? hi) l' (List.mem_of_getElem? hl'))⟩
  · intro x y x' y' h1 h2 he
    obtain ⟨i, ob, rfl, rfl, hi⟩ := hsomeS x y h1
    obtain ⟨i', ob', rfl, rfl, hi'⟩ := hsomeS x' y' h2
    rw [hob.2 i i' ob ob' (hobm i ob hi) (hobm i' ob' hi') he]
    exact ⟨rfl, rfl⟩
  · intro x y h1
    obtain ⟨i, ob, rfl, rfl, hi⟩ := hsomeS x y h1
    exact Nat.le_refl _

theorem sim_initL {G : Gh} {W : World} {args : List LV} {objs : List (List LV)} {us : List Value} {n : Nat} (hp : ∀ k o, G.Pr k o → k < W.heap.size) (hob : ObjsAt G W (objs.map some)) (hl : args.length = us.length) (hn : us.length ≤ n)
    (hr : ∀ (i : Nat) l u, args[i]? = some l → us[i]? = some u → RepT G W l u) (hk1 : ∀ l ∈ args, KeysIn objs.length l) (hk2 : ∀ o ∈ objs, ∀ l ∈ o, KeysIn objs.length l) :
    Sim { base := W.heap.size, W0 := W, Pr0 := G.Pr, n := n, X := fun k => ∃ i, i < objs.length ∧ k = G.β (lentBase + i) 0, β0 := fun x _ => G.β x 0, rc0 := fun x _ => G.rc x 0, rz0 := fun x _ => G.rz x 0 } (initL args objs)
      { tmps := us.toArray ++ Array.replicate (n - us.toArray.size) undef, defers := [] } W := ⟨_, simG_initL hp hob hl hn hr hk1 hk2⟩

/-- Blocks of book-keeping alone have turned. -/
structure Turn (T : Nat → Prop) (w w' : World) : Prop where
  os : w'.os = w.os
  tape : w'.tape = w.tape
  output : w'.output = w.output
  size : w'.heap.size = w.heap.size
  other : ∀ k, ¬ T k → w'.heap[k]? = w.heap[k]?
  was : ∀ k, T k → ∀ cur e f, w.heap[k]? ≠ some (Obj.cells cur e f)
  is : ∀ k, T k → ∀ cur e f, w'.heap[k]? ≠ some (Obj.cells cur e f)
  drawn : w.drawn ≤ w'.drawn

theorem cell_none {w : World} {x : Addr} (h : ∀ cur e f, w.heap[x.block]? ≠ some (Obj.cells cur e f)) : w.cell? x = none := by
  unfold World.cell?
  split
  · rename_i cur e f hh; exact absurd hh (h _ _ _)
  · rfl

theorem Turn.cell {T : Nat → Prop} {w w' : World} (h : Turn T w w') (x : Addr) : w'.cell? x = w.cell? x := by
  by_cases hT : T x.block
  · rw [cell_none (h.was _ hT), cell_none (h.is _ hT)]
  · exact World.cell?_of_block (w := w) (h.other _ hT)

theorem Turn.box {T : Nat → Prop} {w w' : World} (h : Turn T w w') {k : Nat} {cur : Array Value} {e : Nat} (hk : w.heap[k]? = some (Obj.cells cur e (0, 0))) : w'.heap[k]? = some (Obj.cells cur e (0, 0)) := by
  by_cases hT : T k
  · exact absurd hk (h.was k hT _ _ _)
  · exact (h.other k hT).trans hk

theorem SimG.turn {C : Ctx} {G : Gh} {s : S} {a : Act} {W W' W0' : World} {T : Nat → Prop} {ds : List Deferred} (h : SimG C G s a W) (ht : Turn T W W') (hbel : C.yld = none → BelowX C.X C.base W0' W') (hagr : Agree C.Pr0 W0' W') (hctx : ({ C with W0 := W0' } : Ctx).Ok) (hrnd : ∀ l, C.rnd = some l → ∃ r, W'.heap[l]? = some (.loop r))
    (hds : ∀ d ∈ ds, ∃ D, d = mark D ∧ C.base ≤ D ∧ W'.heap[D]? = some (Obj.deferred (some [])) ∧ ¬ G.O D) (hnd : ds.Nodup) (hO : ∀ k, T k → ¬ G.O k) : SimG { C with W0 := W0' } G s { a with defers := ds } W' := by
  have hag : Agree G.Pr W W' := fun x _ => ht.cell x
  have hout : Out G.O W W' := ⟨ht.os, ht.tape, ht.output, Nat.le_of_eq ht.size.symm, fun b hb _ => ht.other b fun hT => hO b hT hb, fun b cur e hc => ⟨cur, ht.box hc, rfl⟩, ht.drawn⟩
  refine ⟨⟨hctx, hds, hrnd, hnd, hagr, h.ex.l0, h.ex.gle, h.ex.dd, hctx.jab _ _ _ _ _ _ _ h.ex.yj hout hag (fun _ _ => id), h.ex.yl, h.ex.yo4, fun b hb => by rw [ht.size]; exact h.ex.yo1 b hb, h.ex.yo2, h.ex.yo3⟩, h.size, hbel, h.mkd, by rw [ht.size]; exact h.base_le, h.prb, h.pr0, by rw [ht.size]; exact h.pr, fun i => (h.temp i).move hag (fun _ _ => id) rfl rfl rfl, h.tag, ?_, h.inj, h.gen, h.wf, ?_, h.ownne, h.prx⟩
  · intro d g cells hb
    obtain ⟨b1, ⟨cur, e, hh, hsz, hcz, hr⟩, b3⟩ := h.box d g cells hb
    refine ⟨b1, ⟨cur, e, ht.box hh, hsz, hcz, fun j l tg u h4 h5 => ?_⟩, b3⟩
    obtain ⟨a1, a2, a3⟩ := hr j l tg u h4 h5
    exact ⟨a1.move hag (fun _ _ => id) rfl rfl rfl, a2, a3⟩
  · intro tok w hw
    obtain ⟨b1, ⟨cur, hh, hsz⟩, b2⟩ := h.own tok w hw
    exact ⟨b1, ⟨cur, ht.box hh, hsz⟩, b2⟩

theorem turn_putObj {w : World} {l : Nat} {o o' : Obj} (h : w.heap[l]? = some o) (ho : ∀ cur e f, o ≠ .cells cur e f) (ho' : ∀ cur e f, o' ≠ .cells cur e f) : Turn (fun k => k = l) w (w.putObj l o') := by
  have hl := (Array.getElem?_eq_some_iff.1 h).1
  refine ⟨rfl, rfl, rfl, by simp [World.putObj], fun k hk => World.putObj_heap_other hk, ?_, ?_, Nat.le_refl _⟩
  · rintro k rfl cur e f hc
    rw [h] at hc
    injection hc with hc
    exact ho _ _ _ hc
  · rintro k rfl cur e f hc
    have : (w.putObj k o').heap[k]? = some o' := by simp [World.putObj, hl]
    rw [this] at hc
    injection hc with hc
    exact ho' _ _ _ hc

theorem SimG.noO {C : Ctx} {G : Gh} {s : S} {a : Act} {W : World} (h : SimG C G s a W) (hJ : C.J s.k s.st (fun _ => False) G.Pr W) : SimG C { G with O := fun _ => False } s a W := by
  have hm : ∀ {l : LV} {u : Value}, RepT G W l u → RepT { G with O := fun _ => False } W l u := fun h => h.move' (fun _ _ => rfl) (fun _ _ => id) (fun _ _ => ⟨rfl, rfl, rfl⟩)
  refine ⟨⟨h.ex.ctx, fun d hd => (h.ex.marks d hd).imp fun D hD => ⟨hD.1, hD.2.1, hD.2.2.1, fun h => h⟩, h.ex.rnd, h.ex.nd, h.ex.agr, h.ex.l0, h.ex.gle, h.ex.dd, hJ, h.ex.yl, fun _ _ _ h => h.elim, fun _ h => h.elim, fun _ _ _ h => h, fun _ _ _ h => h⟩, h.size, h.below, h.mkd, h.base_le, h.prb, h.pr0, h.pr, fun i => hm (h.temp i), h.tag, ?_, h.inj, h.gen, h.wf, h.own, h.ownne, h.prx⟩
  intro d g cells hb
  obtain ⟨b1, ⟨cur, e, hh, hsz, hcz, hr⟩, b3⟩ := h.box d g cells hb
  refine ⟨b1, ⟨cur, e, hh, hsz, hcz, fun j l tg u h4 h5 => ?_⟩, b3⟩
  obtain ⟨a1, a2, a3⟩ := hr j l tg u h4 h5
  exact ⟨hm a1, a2, a3⟩

/-- At a function's end: the marks are come to. -/
theorem leaves_marks {P : Program} {fn : Func} {R : Ending → World → Prop} {m : Nat} {C : Ctx} {G : Gh} {s : S} {tmps : Array Value} (hC : C.rnd = none)
    (hfin : ∀ W, SimG C G s { tmps := tmps, defers := [] } W → ∃ v, (results fn tmps).run P W = .ok v W ∧ R (.returned v) W) :
    ∀ (ds : List Deferred) (W : World), SimG C G s { tmps := tmps, defers := ds } W → LeavesInM (fenceOf none) m P fn tmps R ds .returning W
  | [], W, h => hfin W h
  | d :: ds, W, h => by
    obtain ⟨D, rfl, hD, hh, hO⟩ := h.ex.marks d (by simp)
    obtain ⟨hn1, hn2⟩ := List.nodup_cons.1 h.ex.nd
    have ht := turn_putObj (o' := .deferred none) hh (fun _ _ _ e => by cases e) (fun _ _ _ e => by cases e)
    refine ⟨by simp, .inl ⟨D, W.putObj D (.deferred none), rfl, run_takeDeferred hh, ?_⟩⟩
    have hbel : BelowX C.X C.base W (W.putObj D (.deferred none)) := ⟨rfl, rfl, rfl, Nat.le_of_eq ht.size.symm, fun k hk _ => ht.other k (fun e => by omega), fun k hk cur e _ hc => ⟨cur, ht.box hc, rfl⟩, Nat.le_refl _⟩
    have := h.turn (ds := ds) (W0' := C.W0) ht (fun hy => (h.below hy).trans hbel) (fun x hx => (ht.cell x).trans (h.ex.agr x hx)) h.ex.ctx (fun l hl => by rw [hC] at hl; cases hl) (fun d hd => by
      obtain ⟨D', rfl, h1, h2, h3⟩ := h.ex.marks d (by simp [hd])
      have hne : D' ≠ D := by rintro rfl; exact hn1 hd
      exact ⟨D', rfl, h1, (ht.other D' hne).trans h2, h3⟩) hn2 (fun k hk => by subst hk; exact hO)
    exact leaves_marks hC hfin ds _ this

/-- What the code answers, the call answers. -/
theorem CallSpec.of_LW (hτ : TabOk P τ) {f : Nat} {fn : Func} {c : Code} {args : List LV} {r : LV} (hf : P.funcs[f]? = some fn) (hname : (fn.name == "runtime.NumGoroutine") = false) (hb : fn.body = some c) (hn : args.length ≤ fn.ntmps)
    (h : LW P fn.ntmps c (retL τ fn.results r) (init args)) : CallSpec P f args r := by
  refine .inl ⟨fun us w => Go.Proofs.enters_of hf hname hb us w, fun Pr W us hp hl hr => ?_⟩
  refine calls_of_fence (rnd := none) (m := 0) (callsIn_of_wp_marks hf hb trivial (wpIn_mono (h _ _ _ 0 rfl (sim_init (n := fn.ntmps) hp hl (by omega) hr)) ?_) rfl)
  rintro e a W' ⟨s', ⟨G, hG⟩, hR⟩
  have key : resL τ fn.results s' = some r → LeavesInM (fenceOf none) 0 P fn a.tmps (fun e W' => ∃ u, e = .returned u ∧ Below W.heap.size W W' ∧ Rd (fun k o => Pr k o ∨ (W.heap.size ≤ k ∧ k < W'.heap.size)) W' r u) a.defers .returning W' := by
    intro hr'
    refine leaves_marks (C := { base := W.heap.size, W0 := W, Pr0 := Pr, n := fn.ntmps }) (G := { G with O := fun _ => False }) (s := s') rfl (fun W2 h2 => ?_) a.defers W' ?_
    · obtain ⟨v, h1, h3⟩ := results_run hτ h2 hr'
      exact ⟨v, h1, v, rfl, (h2.below rfl).below, h3.mono h2.pr⟩
    · exact hG.noO trivial
  cases e with
  | normal => exact key hR
  | ret => exact key hR
  | exit => exact hR.elim
  | goto => exact hR.elim
  | panic => exact hR.elim
  | outgrown => exact hR.elim

/-! ### functions that are lent boxes -/
/-- A result, a hot one too. -/
def resH (τ : Tab) (results : Array ResultVar) (s : S) : Option LV :=
  match results.toList with
  | [.tmp t] => some (s.t t)
  | _ => resL τ results s

def lentKeys (n : Nat) : List (Nat × Nat) := (List.range n).map fun i => (lentBase + i, 0)

/-- At the return: what the boxes hold, those that were lent and the new ones (nk), and what is handed back. -/
def retO (τ : Tab) (results : Array ResultVar) (n : Nat) (r : LV) (objs' : List (Option (List LV))) (e : Exit) (s : S) : Prop :=
  (e = .normal ∨ e = .ret) ∧ ∃ nk : List (Nat × Nat), (lentKeys n ++ nk).Nodup ∧ resH τ results s = some (r.un (lentKeys n ++ nk)) ∧ ((lentKeys n ++ nk).map fun k => look s k.1 k.2) = objs'.map fun o => o.map fun c => c.map (LV.un (lentKeys n ++ nk))

theorem resH_run (hτ : TabOk P τ) {C : Ctx} {G : Gh} {s : S} {a : Act} {W : World} (h : SimG C G s a W) {fn : Func} {r : LV} (hr : resH τ fn.results s = some r) : ∃ v, (results fn a.tmps).run P W = .ok v W ∧ RepT G W r v := by
  unfold resH at hr
  split at hr
  · rename_i t ht
    simp only [Option.some.injEq] at hr
    subst hr
    refine ⟨a.tmps.getD t undef, ?_, h.temp t⟩
    have hfr : fn.results = #[.tmp t] := by rw [← Array.toList_inj, ht]
    unfold results
    rw [hfr, Array.mapM_eq_mapM_toList]
    simp
  · obtain ⟨v, h1, h2⟩ := results_run hτ h hr
    exact ⟨v, h1, RepT.of_rd h2⟩

theorem LendSpec.of_LW (hτ : TabOk P τ) {f : Nat} {fn : Func} {c : Code} {args : List LV} {objs : List (List LV)} {r : LV} {objs' : List (Option (List LV))} (hf : P.funcs[f]? = some fn) (hname : (fn.name == "runtime.NumGoroutine") = false) (hb : fn.body = some c) (hn : args.length ≤ fn.ntmps)
    (hk1 : ∀ l ∈ args, KeysIn objs.length l) (hk2 : ∀ o ∈ objs, ∀ l ∈ o, KeysIn objs.length l) (hk3 : KeysIn objs'.length r) (hk4 : ∀ o, some o ∈ objs' → ∀ l ∈ o, KeysIn objs'.length l)
    (h : LW P fn.ntmps c (retO τ fn.results objs.length r objs') (initL args objs)) (hlen : objs.length ≤ objs'.length) : LendSpec P f args objs r objs' := by
  refine ⟨fun us w => Go.Proofs.enters_of hf hname hb us w, hlen, hk1, hk2, hk3, hk4, fun G W us hp hob hl hr => ?_⟩
  refine calls_of_fence (rnd := none) (m := 0) (callsIn_of_wp_marks hf hb trivial (wpIn_mono (h _ _ _ 0 rfl (sim_initL (n := fn.ntmps) hp hob hl (by omega) hr hk1 hk2)) ?_) rfl)
  rintro e a W1 ⟨s', ⟨Gf, hG1⟩, he, nk, hnd, hres, hlook⟩
  have hG2 : SimG { base := W.heap.size, W0 := W, Pr0 := G.Pr, n := fn.ntmps, X := fun k => ∃ i, i < objs.length ∧ k = G.β (lentBase + i) 0, β0 := fun x _ => G.β x 0, rc0 := fun x _ => G.rc x 0, rz0 := fun x _ => G.rz x 0 } { Gf with O := fun _ => False } s' a W1 :=
    hG1.noO trivial
  have hfin : ∀ W', SimG { base := W.heap.size, W0 := W, Pr0 := G.Pr, n := fn.ntmps, X := fun k => ∃ i, i < objs.length ∧ k = G.β (lentBase + i) 0, β0 := fun x _ => G.β x 0, rc0 := fun x _ => G.rc x 0, rz0 := fun x _ => G.rz x 0 } { Gf with O := fun _ => False } s' { tmps := a.tmps, defers := [] } W' → ∃ v, (results fn a.tmps).run P W' = .ok v W' ∧ ∃ u G', Ending.returned v = .returned u ∧ BelowX (fun k => ∃ i, i < objs.length ∧ k = G.β (lentBase + i) 0) W.heap.size W W' ∧
      (∀ i, i < objs.length → G'.β (lentBase + i) 0 = G.β (lentBase + i) 0 ∧ G'.rc (lentBase + i) 0 = G.rc (lentBase + i) 0 ∧ G'.rz (lentBase + i) 0 = G.rz (lentBase + i) 0) ∧
      (∀ k o, G.Pr k o → G'.Pr k o) ∧ (∀ k o, G'.Pr k o → G.Pr k o ∨ (W.heap.size ≤ k ∧ k < W'.heap.size)) ∧
      ObjsAt G' W' objs' ∧ (∀ (i : Nat) c, objs'[i]? = some (some c) → W.heap.size ≤ G'.β (lentBase + i) 0 ∨ ∃ j, j < objs.length ∧ G'.β (lentBase + i) 0 = G.β (lentBase + j) 0) ∧
      RepT G' W' r u := by
    intro W' hG
    clear hG1 hG2
    generalize hKS : lentKeys objs.length ++ nk = KS at hnd hres hlook
    obtain ⟨v, hv, hrep⟩ := resH_run hτ hG hres
    have hKSl : KS.length = objs'.length := by have := congrArg List.length hlook; simpa using this
    have hlk : (lentKeys objs.length).length = objs.length := by simp [lentKeys]
    have hKSi : ∀ i, i < objs.length → KS[i]? = some (lentBase + i, 0) := by
      intro i hi
      rw [← hKS, List.getElem?_append_left (by omega)]
      simp [lentKeys, hi]
    have hgetD : ∀ (i : Nat) k, KS[i]? = some k → KS.getD i (0, 0) = k := fun i k hi => by simp [List.getD, hi]
    have hβ : ∀ (i : Nat) k, KS[i]? = some k → (Gf.lent KS).β (lentBase + i) 0 = Gf.β k.1 k.2 ∧ (Gf.lent KS).rc (lentBase + i) 0 = Gf.rc k.1 k.2 ∧ (Gf.lent KS).rz (lentBase + i) 0 = Gf.rz k.1 k.2 := by
      intro i k hi
      simp only [Gh.lent, Nat.add_sub_cancel_left, hgetD i k hi, and_self]
    have hobj : ∀ (i : Nat) c, objs'[i]? = some (some c) → ∃ k cells, KS[i]? = some k ∧ s'.b k.1 k.2 = some cells ∧ cells.map (·.1) = c.map (LV.un KS) := by
      intro i c hi
      have hlt := (List.getElem?_eq_some_iff.1 hi).1
      have hki := List.getElem?_eq_getElem (l := KS) (i := i) (by omega)
      have := congrArg (fun l => l[i]?) hlook
      simp only [List.getElem?_map, hi, hki, Option.map_some, Option.some.injEq, look] at this
      obtain ⟨cells, h1, h2⟩ := Option.map_eq_some_iff.1 this
      exact ⟨_, cells, hki, h1, h2⟩
    refine ⟨v, hv, v, Gf.lent KS, rfl, hG.below rfl, fun i hi => ?_, hG.pr0, hG.pr, ⟨fun i c hi => ?_, fun i j c c' hi hj he => ?_⟩, fun i c hi => ?_, hrep.lent⟩
    · obtain ⟨e1, e2, e3⟩ := hβ i _ (hKSi i hi)
      obtain ⟨f1, f2, f3⟩ := hG.ex.l0 (lentBase + i) 0 (Nat.le_refl _)
      exact ⟨e1.trans f1, e2.trans f2, e3.trans f3⟩
    · obtain ⟨k, cells, hki, hb, hm⟩ := hobj i c hi
      obtain ⟨e1, e2, e3⟩ := hβ i k hki
      obtain ⟨_, ⟨cur, e, hh, hsz, hcz, hc⟩, hnp⟩ := hG.box _ _ _ hb
      have hll : cells.length = c.length := by have := congrArg List.length hm; simpa using this
      rw [e1, e2, e3]
      refine ⟨⟨cur, e, hh, by omega, hcz, fun j l u h1 h2 => ?_⟩, hnp⟩
      have hjl := (List.getElem?_eq_some_iff.1 h1).1
      have hcj := List.getElem?_eq_getElem (l := cells) (i := j) (by omega)
      have hmj := congrArg (fun l => l[j]?) hm
      simp only [List.getElem?_map, hcj, h1, Option.map_some, Option.some.injEq] at hmj
      obtain ⟨a1, a2, _, _⟩ := hc j (cells[j]).1 (cells[j]).2 u hcj h2
      rw [hmj] at a1
      exact ⟨a1.lent, a2⟩
    · obtain ⟨k, cells, hki, hb, _⟩ := hobj i c hi
      obtain ⟨k', cells', hkj, hb', _⟩ := hobj j c' hj
      rw [(hβ i k hki).1, (hβ j k' hkj).1] at he
      have := hG.inj _ _ _ _ (by rw [hb]; rfl) (by rw [hb']; rfl) he
      have hkk : k = k' := Prod.ext this.1 this.2
      subst hkk
      obtain ⟨h1, h2⟩ := List.getElem?_eq_some_iff.1 hki
      obtain ⟨h3, h4⟩ := List.getElem?_eq_some_iff.1 hkj
      exact (List.getElem_inj hnd).1 (h2.trans h4.symm)
    · obtain ⟨k, cells, hki, hb, _⟩ := hobj i c hi
      rw [(hβ i k hki).1]
      rcases (hG.box _ _ _ hb).1 with h5 | ⟨j, hj, h5⟩
      · exact .inl h5
      · exact .inr ⟨j, hj, h5⟩
  rcases he with rfl | rfl
  · exact leaves_marks rfl hfin a.defers W1 hG2
  · exact leaves_marks rfl hfin a.defers W1 hG2
end

/-! ### freezing: an object that is turned no more -/
def fz1 (d g : Nat) (cells : List LV) : LV → LV
  | .ptr x y off => if x = d ∧ y = g then .el (cells.drop off) else .ptr x y off
  | l => l

def chunks (sz n : Nat) (cs : List LV) : List (List LV) := (List.range n).map fun i => (cs.drop (i * sz)).take sz

def fz (d g : Nat) (cells : List LV) : LV → LV
  | .ptr x y off => if x = d ∧ y = g then .el (cells.drop off) else .ptr x y off
  | .rs x y lo n sz => if x = d ∧ y = g then (if (lo + n) * sz ≤ cells.length then .list (chunks sz n (cells.drop (lo * sz))) else .dead) else .rs x y lo n sz
  | .clo f caps => if (caps.map (fz1 d g cells)).all LV.plain then .fn f [] (caps.map (fz1 d g cells)) else .clo f (caps.map (fz1 d g cells))
  | l => l

def S.freeze (s : S) (d g : Nat) (cells : List LV) : S :=
  { s with
    t := fun i => fz d g cells (s.t i)
    b := fun x y => if x = d ∧ y = g then none else (s.b x y).map fun c => c.map fun q => (fz d g cells q.1, q.2) }

theorem fz_plain {d g : Nat} {cells : List LV} {l : LV} (h : l.plain = true) : fz d g cells l = l := by
  cases l <;> first | rfl | simp [LV.plain] at h

theorem fz_keys {d g : Nat} {cells : List LV} {l : LV} : ∀ k ∈ (fz d g cells l).keys, k ∈ l.keys := by
  intro k hk
  cases l
  case ptr x y off =>
    simp only [fz] at hk
    split at hk
    · cases hk
    · exact hk
  case rs x y lo n sz =>
    simp only [fz] at hk
    split at hk
    · split at hk <;> cases hk
    · exact hk
  case clo f caps =>
    simp only [fz] at hk
    split at hk
    · cases hk
    · simp only [LV.keys, List.mem_flatMap, List.mem_map] at hk ⊢
      obtain ⟨_, ⟨l, hl, rfl⟩, hk⟩ := hk
      refine ⟨l, hl, ?_⟩
      cases l
      case ptr x y off =>
        simp only [fz1] at hk
        split at hk
        · cases hk
        · exact hk
      all_goals exact hk
  all_goals exact hk

section
variable {P : Program} {C : Ctx} {G : Gh} {s : S} {a : Act} {W : World}

theorem SimG.freeze (h : SimG C G s a W) {d g : Nat} {cl : List (LV × Tag)} (hb : s.b d g = some cl) (hm : s.mkd d g = false) (hpl : cl.all (fun c => c.1.plain) = true) :
    SimG C { G with Pr := fun k o => G.Pr k o ∨ k = G.β d g } (s.freeze d g (cl.map (·.1))) a W := by
  obtain ⟨cur, e, hh, hsz, hat⟩ := h.boxAt hb
  obtain ⟨_, ⟨cur', e', hh', _, hcz, _⟩, hnp⟩ := h.box d g cl hb
  obtain rfl : cur = cur' := by rw [hh] at hh'; injection hh' with hh'; injection hh'
  have hbase := h.mkd d g (by rw [hb]; rfl) hm
  have hlt := (Array.getElem?_eq_some_iff.1 hh).1
  generalize hcells : cl.map (·.1) = cells
  have hrd : ∀ (j : Nat) l, cells[j]? = some l → cur[j]? = some (cur.getD j undef) ∧ Rd G.Pr W l (cur.getD j undef) ∧ (cur.getD j undef).oneCell' = true := by
    intro j l hj
    rw [← hcells, List.getElem?_map] at hj
    obtain ⟨q, hq, rfl⟩ := Option.map_eq_some_iff.1 hj
    obtain ⟨b1, b2, b3, _⟩ := hat j q hq
    exact ⟨b1, RepT.rd b2 (List.all_eq_true.1 hpl q (List.mem_of_getElem? hq)), b3⟩
  have hcl : cells.length ≤ cur.size := by rw [← hcells, List.length_map]; exact hsz
  have hmono : ∀ {l : LV} {u : Value}, Rd G.Pr W l u → Rd (fun k o => G.Pr k o ∨ k = G.β d g) W l u := fun hr => hr.mono fun _ _ => .inl
  have hel : ∀ off, Rd (fun k o => G.Pr k o ∨ k = G.β d g) W (.el (cells.drop off)) (.pointer (some ⟨G.β d g, off, none⟩)) := by
    intro off
    refine .el (fun i => cur.getD (off + i) undef) (fun i l hi => ?_) (fun i l hi => ?_)
    · rw [List.getElem?_drop] at hi
      obtain ⟨b1, _, b3⟩ := hrd _ l hi
      rw [add_lit, cell_box hh]
      exact ⟨b1, b3, .inr rfl⟩
    · rw [List.getElem?_drop] at hi
      exact hmono (hrd _ l hi).2.1
  have h1 : ∀ {l : LV} {u : Value}, Rep1 G W l u → Rep1 { G with Pr := fun k o => G.Pr k o ∨ k = G.β d g } W (fz1 d g cells l) u := by
    intro l u hr
    cases l
    case ptr x y off =>
      simp only [fz1]
      split
      · rename_i hk
        obtain ⟨rfl, rfl⟩ := hk
        cases (show u = _ from hr)
        exact hel off
      · exact hr
    all_goals exact hmono hr
  have hT : ∀ {l : LV} {u : Value}, RepT G W l u → RepT { G with Pr := fun k o => G.Pr k o ∨ k = G.β d g } W (fz d g cells l) u := by
    intro l u hr
    cases l
    case ptr x y off =>
      simp only [fz]
      split
      · rename_i hk
        obtain ⟨rfl, rfl⟩ := hk
        cases (show u = _ from hr)
        exact hel off
      · exact hr
    case dead => trivial
    case rs x y lo n sz =>
      simp only [fz]
      split
      · rename_i hk
        obtain ⟨rfl, rfl⟩ := hk
        split
        · rename_i hfit
          obtain ⟨hz, hs, hc, A, c, rfl, hnc, hA⟩ := hr
          have hlen : (chunks sz n (cells.drop (lo * sz))).length = n := by simp [chunks]
          have hget : ∀ (j : Nat) el (i : Nat) l, (chunks sz n (cells.drop (lo * sz)))[j]? = some el → el[i]? = some l → j < n ∧ i < sz ∧ cells[lo * sz + (j * sz + i)]? = some l := by
            intro j el i l hj hi
            unfold chunks at hj
            rw [List.getElem?_map] at hj
            by_cases hjl : j < n
            · rw [List.getElem?_range hjl] at hj
              simp only [Option.map_some, Option.some.injEq] at hj
              subst hj
              rw [List.getElem?_take] at hi
              split at hi
              · rename_i hil
                rw [List.getElem?_drop, List.getElem?_drop] at hi
                exact ⟨hjl, hil, hi⟩
              · cases hi
            · rw [List.getElem?_eq_none (by simpa using hjl)] at hj
              cases hj
          have := Rd.list (Pr := fun k o => G.Pr k o ∨ k = G.β x y) (W := W) (xs := chunks sz n (cells.drop (lo * sz))) (A := A) (c := c) sz (fun j i => cur.getD (lo * sz + (j * sz + i)) undef) (by omega) (by
              rw [hlen]
              by_cases h0 : 0 < n
              · obtain ⟨_, hc2⟩ := hA (.inl h0)
                have hzz : 0 < G.rz x y := by omega
                have := (hcz hzz).2
                simp only [maxLen] at this
                omega
              · omega)
            (fun e he => by
              obtain ⟨j, hj⟩ := List.mem_iff_getElem?.1 he
              unfold chunks at hj
              rw [List.getElem?_map] at hj
              by_cases hjl : j < n
              · rw [List.getElem?_range hjl] at hj
                simp only [Option.map_some, Option.some.injEq] at hj
                subst hj
                rw [List.length_take, List.length_drop, List.length_drop]
                have : (lo + (j + 1)) * sz ≤ (lo + n) * sz := Nat.mul_le_mul_right _ (by omega)
                rw [Nat.add_mul, Nat.add_mul, Nat.one_mul] at this
                omega
              · rw [List.getElem?_eq_none (by simpa using hjl)] at hj
                cases hj)
            (fun hn => by
              rw [hlen] at hn
              obtain ⟨rfl, _⟩ := hA (.inl hn)
              refine ⟨_, rfl, fun j el i l hj hi => ?_⟩
              obtain ⟨_, _, hx⟩ := hget j el i l hj hi
              obtain ⟨b1, _, b3⟩ := hrd _ l hx
              rw [add_lit, cell_box hh]
              exact ⟨b1, b3, .inr rfl⟩)
            (fun j el i l hj hi => hmono (hrd _ l (hget j el i l hj hi).2.2).2.1)
          rw [hlen] at this
          exact this
        · trivial
      · exact hr
    case clo f caps =>
      obtain ⟨us, rfl, hl, hc⟩ := hr
      have hc' : ∀ (i : Nat) l v, (caps.map (fz1 d g cells))[i]? = some l → us[i]? = some v → Rep1 { G with Pr := fun k o => G.Pr k o ∨ k = G.β d g } W l v := by
        intro i l v hi hv
        rw [List.getElem?_map] at hi
        obtain ⟨l', hl', rfl⟩ := Option.map_eq_some_iff.1 hi
        exact h1 (hc i l' v hl' hv)
      simp only [fz]
      split
      · rename_i hp
        refine Rd.fn (first := []) (us := []) rfl (fun i l u hl _ => by simp at hl) (by simpa using hl) (fun i l v hi hv => ?_)
        have := hc' i l v hi hv
        have hpl' := List.all_eq_true.1 hp l (List.mem_of_getElem? hi)
        cases l <;> first | exact this | simp [LV.plain] at hpl'
      · exact ⟨us, rfl, by simpa using hl, hc'⟩
    all_goals exact hmono hr
  have hTag : ∀ {tg : Tag} {l : LV} {u : Value}, TagOK G s tg l u → TagOK { G with Pr := fun k o => G.Pr k o ∨ k = G.β d g } (s.freeze d g cells) tg (fz d g cells l) u := by
    rintro tg l u ⟨h1, h2⟩
    refine ⟨h1, fun h0 hv => ?_⟩
    obtain ⟨w, xs, a1, a2, rfl, a4⟩ := h2 h0 hv
    exact ⟨w, xs, a1, a2, rfl, a4⟩
  have hcase : ∀ x y c, (s.freeze d g cells).b x y = some c → ¬ (x = d ∧ y = g) ∧ ∃ c0, s.b x y = some c0 ∧ c = c0.map fun q => (fz d g cells q.1, q.2) := by
    intro x y c hxy
    simp only [S.freeze] at hxy
    split at hxy
    · cases hxy
    · rename_i hk
      obtain ⟨c0, h1, h2⟩ := Option.map_eq_some_iff.1 hxy
      exact ⟨hk, c0, h1, h2.symm⟩
  have hcaseS : ∀ x y, ((s.freeze d g cells).b x y).isSome → ¬ (x = d ∧ y = g) ∧ (s.b x y).isSome := by
    intro x y hxy
    obtain ⟨c, hc⟩ := Option.isSome_iff_exists.1 hxy
    obtain ⟨h1, c0, h2, _⟩ := hcase x y c hc
    exact ⟨h1, by rw [h2]; rfl⟩
  have hne : ∀ x y, ¬ (x = d ∧ y = g) → (s.b x y).isSome → G.β x y ≠ G.β d g := fun x y hk hxy he => hk (h.inj x y d g hxy (by rw [hb]; rfl) he)
  refine ⟨h.ex.step (.refl _ _) (fun _ _ h _ => h) h.pr0 (.refl _ _) (fun _ => Nat.le_refl _) (fun _ _ _ => ⟨rfl, rfl, rfl⟩) (fun x y _ hn => by simp only [S.freeze, hn, Option.map_none, ite_self]) rfl (fun x y hxy => h.ex.yo2 x y (hcaseS x y hxy).2) h.ex.yo3 ⟨rfl, rfl, rfl⟩ (fun _ _ => .inl) (fun b o hp => hp.imp id (fun h1 => .inr (by rw [h1]; exact h.ex.yo2 d g (by rw [hb]; rfl)))), h.size, h.below, fun x y hxy hm' => h.mkd x y (hcaseS x y hxy).2 hm', h.base_le, h.prb, fun k o hk => .inl (h.pr0 k o hk), ?_, fun i => hT (h.temp i), fun i => hTag (h.tag i), ?_, ?_, ?_, fun i k hk => h.wf i k (fz_keys k hk), ?_, h.ownne, fun k o hk => hk.elim (h.prx k o) (fun h1 => .inr (by rw [h1]; exact (h.box d g _ hb).1))⟩
  · intro k o hk
    rcases hk with hk | rfl
    · exact h.pr k o hk
    · exact .inr ⟨hbase, hlt⟩
  · intro x y c hxy
    obtain ⟨hk, c0, h0, rfl⟩ := hcase x y c hxy
    obtain ⟨b1, ⟨cur2, e2, hh2, hsz2, hcz2, hr2⟩, b3⟩ := h.box x y c0 h0
    refine ⟨b1, ⟨cur2, e2, hh2, by simpa using hsz2, hcz2, fun j l tg u h4 h5 => ?_⟩, fun o ho => ?_⟩
    · rw [List.getElem?_map] at h4
      obtain ⟨q, hq, he⟩ := Option.map_eq_some_iff.1 h4
      obtain ⟨rfl, rfl⟩ : fz d g cells q.1 = l ∧ q.2 = tg := by simpa using he
      obtain ⟨a1, a2, a3, a4⟩ := hr2 j q.1 q.2 u hq h5
      exact ⟨hT a1, a2, hTag a3, fun k hk => a4 k (fz_keys k hk)⟩
    · rcases ho with ho | ho
      · exact b3 o ho
      · exact hne x y hk (by rw [h0]; rfl) ho
  · intro x y x' y' k1 k2 he
    exact h.inj x y x' y' (hcaseS x y k1).2 (hcaseS x' y' k2).2 he
  · intro x y k1
    exact h.gen x y (hcaseS x y k1).2
  · intro tok w hw
    obtain ⟨b1, b2, b3, b4, b5, b6, b7⟩ := h.own tok w hw
    refine ⟨b1, b2, b3, b4, b5, fun o ho => ?_, fun x y hxy => b7 x y (hcaseS x y hxy).2⟩
    rcases ho with ho | ho
    · exact b6 o ho
    · exact absurd ho.symm (b7 d g (by rw [hb]; rfl))

/-- A step of the proof's own: the object (d, g) is turned no more. -/
theorem LW.freeze {n : Nat} {c : Code} {R : Exit → S → Prop} {s : S} (d g : Nat) {cl : List (LV × Tag)} (hb : s.b d g = some cl) (hm : s.mkd d g = false) (hpl : cl.all (fun c => c.1.plain) = true)
    (h : LW P n c R (s.freeze d g (cl.map (·.1)))) : LW P n c R s := by
  intro C a W m hC hs
  obtain ⟨G, hG⟩ := hs
  exact h C a W m hC ⟨_, hG.freeze hb hm hpl⟩
end
end Go.LI
