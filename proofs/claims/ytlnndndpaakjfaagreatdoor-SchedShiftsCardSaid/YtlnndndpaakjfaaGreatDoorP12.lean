/- Texts of a small semantics over the model and of specifications of functions, joined: LIRange, LIRange2. -/
import Derived.Test.YtlnndndpaakjfaaGreatDoorP11
set_option linter.unusedSimpArgs false
set_option linter.unusedVariables false
/- Iterators, and ranges over them. -/
namespace Go.LI
open Go Go.RowKit

section
variable {P : Program} {τ : Tab} {Γ : Env} {C : Ctx} {G : Gh} {s : S} {a : Act} {W : World} {K : Act → World → Prop} {Q : Exit → Act → World → Prop}

theorem runIx_cont {rnd : Option Nat} {m : Nat} (hτ : TabOk P τ) (hΓ : EnvOk P Γ) {ops : Array Oper} (hn : ∀ o ∈ ops, DstOk C o) {l2 : List Nat} : ∀ (l : List Nat) {s s' : S} {a : Act} {W : World}, Sim C s a W → runIx (step τ Γ ops) ops l s = some s' →
    (∀ a' W', Sim C s' a' W' → wpOpsIn (fenceOf rnd) m P ops Q l2 a' W') → wpOpsIn (fenceOf rnd) m P ops Q (l ++ l2) a W
  | [], s, s', a, W, h, hr, hk => by simp only [runIx, Option.some.injEq] at hr; subst hr; exact hk _ _ h
  | i :: l, s, s', a, W, h, hr, hk => by
    rw [List.cons_append, wpOpsIn_cons]
    unfold runIx at hr
    cases ho : ops[i]? with
    | none =>
      rw [ho] at hr
      unfold wpOpIn
      rw [ho]
      exact runIx_cont hτ hΓ hn l h hr hk
    | some o =>
      rw [ho] at hr
      obtain ⟨s1, h1, h2⟩ := Option.bind_eq_some_iff.1 hr
      obtain ⟨G, hG⟩ := h
      exact step_sim hτ hΓ hn ho hG h1 (fun a' W' hs => runIx_cont hτ hΓ hn l hs h2 hk)

theorem runIx_part (f : Oper → S → Option S) (ops : Array Oper) (g : List Oper → S → Option S) (h0 : ∀ s, g [] s = some s) (h1 : ∀ o r s, g (o :: r) s = (f o s).bind (g r)) :
    ∀ (n k : Nat) s, k + n ≤ ops.size → runIx f ops ((List.range n).map (k + ·)) s = g ((ops.toList.drop k).take n) s := by
  intro n
  induction n with
  | zero => intro k s hk; simp [runIx, h0]
  | succ n ih =>
    intro k s hk
    rw [List.range_succ_eq_map, List.map_cons, List.map_map]
    have hlt : k < ops.size := by omega
    have hcons : ops.toList.drop k = ops[k] :: ops.toList.drop (k + 1) := by
      rw [List.drop_eq_getElem_cons (by simpa using hlt)]
      simp
    simp only [runIx, Nat.add_zero, Array.getElem?_eq_getElem hlt, hcons, List.take_succ_cons, h1]
    have hfun : ((fun x => k + x) ∘ Nat.succ) = (fun x => k + 1 + x) := by funext x; simp [Nat.succ_eq_add_one]; omega
    rw [hfun]
    congr 1
    funext s'
    exact ih (k + 1) s' (by omega)

/-- The round has run: the iterator goes on. -/
theorem SimG.gave (h : SimG C G s a W) {x : Program × Nat × List (List LV)} (hyl : s.yl = some x) {W' : World} {b : Bool} (hf : RFrame G.O G.Pr W W') (hJ : C.J (s.k + 1) b (fun x => G.O x ∨ (W.heap.size ≤ x ∧ x < W'.heap.size)) G.Pr W') :
    SimG C { G with O := fun x => G.O x ∨ (W.heap.size ≤ x ∧ x < W'.heap.size) } { s with k := s.k + 1, st := b } a W' := by
  have hyld : C.yld = some x := h.ex.yl.symm.trans hyl
  obtain ⟨hrnd, _⟩ := h.ex.ctx.rounds x.1 x.2.1 x.2.2 hyld
  have hm : ∀ {l : LV} {u : Value}, RepT G W l u → RepT { G with O := fun x => G.O x ∨ (W.heap.size ≤ x ∧ x < W'.heap.size) } W' l u := fun h => h.move' hf.agree (fun _ _ => id) (fun _ _ => ⟨rfl, rfl, rfl⟩)
  have hno : ∀ b, b < W.heap.size → ¬ G.O b → ¬ (G.O b ∨ (W.heap.size ≤ b ∧ b < W'.heap.size)) := fun b h1 h2 h3 => h3.elim h2 (fun h4 => by omega)
  refine ⟨⟨h.ex.ctx, fun d hd => ?_, fun l hl => (by rw [hrnd] at hl; cases hl), h.ex.nd, fun x hx => (hf.agree x (h.pr0 _ _ hx)).trans (h.ex.agr x hx), h.ex.l0, h.ex.gle, h.ex.dd, hJ, h.ex.yl, fun b o hp hO => ?_, fun b hb => ?_, fun d g hb => ?_, fun tok w hw => ?_⟩,
    h.size, fun hy => (by rw [hyld] at hy; cases hy), h.mkd, Nat.le_trans h.base_le hf.size, h.prb, h.pr0, fun k o hk => (h.pr k o hk).imp id (fun h1 => ⟨h1.1, Nat.lt_of_lt_of_le h1.2 hf.size⟩), fun i => hm (h.temp i), h.tag, fun d g cells hb => ?_, h.inj, h.gen, h.wf, fun tok w hw => ?_, h.ownne, h.prx⟩
  · obtain ⟨D, h1, h2, h3, h4⟩ := h.ex.marks d hd
    have hlt := (Array.getElem?_eq_some_iff.1 h3).1
    exact ⟨D, h1, h2, (hf.other D hlt h4).trans h3, hno D hlt h4⟩
  · rcases hO with hO | hO
    · exact h.ex.yo4 b o hp hO
    · have := h.prlt b o hp; omega
  · rcases hb with hb | hb
    · exact Nat.lt_of_lt_of_le (h.ex.yo1 b hb) hf.size
    · exact hb.2
  · exact hno _ (h.blockLt hb) (h.ex.yo2 d g hb)
  · obtain ⟨_, ⟨cur, hh, _⟩, _⟩ := h.own tok w hw
    exact hno _ (Array.getElem?_eq_some_iff.1 hh).1 (h.ex.yo3 tok w hw)
  · obtain ⟨b1, ⟨cur, e, hh, hsz, hcz, hr⟩, b3⟩ := h.box d g cells hb
    refine ⟨b1, ⟨cur, e, (hf.other _ (Array.getElem?_eq_some_iff.1 hh).1 (h.ex.yo2 d g (by rw [show s.b d g = some cells from hb]; rfl))).trans hh, hsz, hcz, fun j l tg u h4 h5 => ?_⟩, b3⟩
    obtain ⟨a1, a2, a3⟩ := hr j l tg u h4 h5
    exact ⟨hm a1, a2, a3⟩
  · obtain ⟨b1, ⟨cur, hh, hsz⟩, b2⟩ := h.own tok w hw
    exact ⟨b1, ⟨cur, (hf.other _ (Array.getElem?_eq_some_iff.1 hh).1 (h.ex.yo3 tok w hw)).trans hh, hsz⟩, b2⟩

/-- A region in which an iterator hands on a value. -/
theorem LW.yield {n : Nat} {R : Exit → S → Prop} {id i d ty l : Nat} {ops : Array Oper} {y : Operand} {args : Array Operand} {tys : Array Nat} {pos : String} {aft : Array Edge} {ys : List (List LV)} {s1 : S} (hτ : TabOk P τ) (hΓ : EnvOk P Γ) (hn : dstsOk n ops = true)
    (hi : ops[i]? = some ⟨some d, .call ⟨.value y, args, tys⟩, ty, pos, aft, none⟩) (hpre : steps τ Γ ops (ops.toList.take i) s = some s1) (hyl : s1.yl = some (P, l, ys)) (hst : s1.st = true) (hy : s1.eval y = .v (.func (.yield l) #[] #[]))
    (hv : ys[s1.k]? = some (args.toList.map s1.eval)) (hpl : (args.toList.map s1.eval).all LV.plain = true)
    (hpost : ∀ b, ∃ s2, steps τ Γ ops (ops.toList.drop (i + 1)) ({ s1 with k := s1.k + 1, st := b }.put (some d) (.v (.bool b))) = some s2 ∧ R .normal s2) : LW P n (.region id ops false) R s := by
  intro C a W m hC hs
  subst hC
  have hdst := dstsOk_spec hn
  have hlt : i < ops.size := (Array.getElem?_eq_some_iff.1 hi).1
  have hsplit : List.range ops.size = (List.range i).map (0 + ·) ++ i :: (List.range (ops.size - (i + 1))).map (i + 1 + ·) := by
    have : ops.size = i + (1 + (ops.size - (i + 1))) := by omega
    conv => lhs; rw [this]
    rw [List.range_add, List.range_add, List.map_append, List.map_map]
    simp [Function.comp_def, Nat.add_assoc]
  refine wpIn_region ?_
  rw [hsplit]
  refine runIx_cont hτ hΓ hdst _ hs (by rw [runIx_part (step τ Γ ops) ops (steps τ Γ ops) (fun _ => rfl) (fun _ _ _ => rfl) i 0 s (by omega)]; simpa using hpre) ?_
  rintro a1 W1 ⟨G, hG⟩
  rw [wpOpsIn_cons]
  unfold wpOpIn
  rw [hi]
  simp only [Region.wanted, if_true]
  have hyld : C.yld = some (P, l, ys) := hG.ex.yl.symm.trans hyl
  obtain ⟨hrnd, hround⟩ := hG.ex.ctx.rounds P l ys hyld
  have hay : a1.eval y = .func (.yield l) #[] #[] := rd_vv hG hy
  have hrd := evals_rd hG hpl
  obtain ⟨fn, tmps, assign, body, hrun, hR⟩ := hround s1.k _ hv (m - 1) G.O W1 (args.toList.map a1.eval) G.Pr (by have := hG.ex.yj; rw [hst] at this; exact this) (fun b o hp => ⟨hG.prlt b o hp, fun hO => hG.ex.yo4 b o hp hO, (hG.pr b o hp).imp (fun h => h) (·.1)⟩) (by simp) hrd
  have hargs : args.map a1.eval = (args.toList.map a1.eval).toArray := by rw [← Array.toList_map]
  refine ⟨fun f _ => trivial, ?_⟩
  rw [Oper.semAt_eq _ _ _ (by intro c hc; cases hc)]
  have hexec : (execOp a1.eval ⟨some d, .call ⟨.value y, args, tys⟩, ty, pos, aft, none⟩).run P W1 = .ok (.round l fn tmps assign body) W1 := by
    simp [execOp, resolve, hay, hargs, Deferred.ofValue, invoke, hrun]
  rw [hexec]
  refine ⟨fun hd => by simp [fenceOf, Fence.wide] at hd, ?_⟩
  have hfe : fenceOf C.rnd = fenceOf none := by rw [hrnd]
  rw [hfe]
  refine hR.mono ?_
  rintro e W2 ⟨b, rfl, hf, hJ⟩
  obtain ⟨s2, h2, h3⟩ := hpost b
  have hG2 := (hG.gave hyl hf hJ).put' (dst := some d) (l := .v (.bool b)) (tag := (0, 0)) (u := .bool b) (fun d' hd' => hdst _ (Array.mem_of_getElem? hi) d' hd') (RepT.of_rd (.v _ rfl)) .zero (fun _ hk => by cases hk)
  have := runIx_cont (Q := fun e a' W' => ∃ s', Sim C s' a' W' ∧ R e s') (rnd := none) (m := m) (l2 := []) hτ hΓ hdst ((List.range (ops.size - (i + 1))).map (i + 1 + ·)) ⟨_, hG2⟩ (by
    rw [runIx_part (step τ Γ ops) ops (steps τ Γ ops) (fun _ => rfl) (fun _ _ _ => rfl) _ (i + 1) _ (by omega), List.take_of_length_le (by simp)]
    exact h2) (fun a' W' hs => ⟨s2, hs, h3⟩)
  simpa using this

/-! ### what an iterator promises -/
def initY (l : Nat) (P : Program) (caps : List LV) (objs ys : List (List LV)) : S := { initL (.v (.func (.yield l) #[] #[]) :: caps) objs with yl := some (P, l, ys) }

/-- The closure f (with caps, and lent objs) gives the values ys, or as many of them as are wanted. -/
def IterSpec (P : Program) (f : Nat) (caps : List LV) (objs ys : List (List LV)) : Prop :=
  (∀ (us : Array Value) (w : World), (callFunc f us).run P w = .ok (.enter f us) w) ∧ (∀ l ∈ caps, KeysIn objs.length l) ∧ (∀ o ∈ objs, ∀ l ∈ o, KeysIn objs.length l) ∧
  ∀ (l : Nat) (J : Nat → Bool → (Nat → Prop) → (Nat → Nat → Prop) → World → Prop) (G : Gh) (W : World) (us : List Value) (O0 : Nat → Prop), (∀ k o, G.Pr k o → k < W.heap.size) → ObjsAt G W (objs.map some) → caps.length = us.length →
    (∀ (i : Nat) l u, caps[i]? = some l → us[i]? = some u → RepT G W l u) → (∀ k st O PS PS' W W', J k st O PS W → Out O W W' → Agree PS W W' → (∀ k o, PS k o → PS' k o) → J k st O PS' W') → RoundOk P l ys J G.Pr W.heap.size →
    J 0 true O0 G.Pr W → (∀ b, O0 b → b < W.heap.size) → (∀ i, i < objs.length → ¬ O0 (G.β (lentBase + i) 0)) →
    Calls P f (#[.func (.yield l) #[] #[]] ++ us.toArray) W fun e W' => (∃ v, e = .returned v) ∧ ∃ k st O PS, J k st O PS W' ∧ (st = true → k = ys.length)

theorem IterSpec.of_LW {f : Nat} {fn : Func} {c : Code} {caps : List LV} {objs ys : List (List LV)} (hf : P.funcs[f]? = some fn) (hname : (fn.name == "runtime.NumGoroutine") = false) (hb : fn.body = some c) (hn : caps.length + 1 ≤ fn.ntmps) (hres : fn.results = #[])
    (hk1 : ∀ l ∈ caps, KeysIn objs.length l) (hk2 : ∀ o ∈ objs, ∀ l ∈ o, KeysIn objs.length l)
    (h : ∀ l, LW P fn.ntmps c (fun e s => (e = .normal ∨ e = .ret) ∧ (s.st = true → s.k = ys.length)) (initY l P caps objs ys)) : IterSpec P f caps objs ys := by
  refine ⟨fun us w => Go.Proofs.enters_of hf hname hb us w, hk1, hk2, fun l J G W us O0 hp hob hl hr hjab hround hJ hO1 hO2 => ?_⟩
  have hG1 := simG_initL (n := fn.ntmps) (args := .v (.func (.yield l) #[] #[]) :: caps) (us := .func (.yield l) #[] #[] :: us) hp hob (by simp [hl]) (by simp; omega) (fun i l' u hi hu => by
    cases i with
    | zero =>
      simp only [List.getElem?_cons_zero, Option.some.injEq] at hi hu
      subst hi; subst hu
      exact RepT.of_rd (.v _ rfl)
    | succ i => exact hr i l' u (by simpa using hi) (by simpa using hu)) (fun l' hl' => by
      rcases List.mem_cons.1 hl' with rfl | hl'
      · intro k hk; cases hk
      · exact hk1 l' hl') hk2
  have hm : ∀ {l : LV} {u : Value}, RepT { G with ow := fun _ => none, O := fun _ => False } W l u → RepT { G with ow := fun _ => none, O := O0 } W l u := fun h => h.move' (fun _ _ => rfl) (fun _ _ => id) (fun _ _ => ⟨rfl, rfl, rfl⟩)
  have hobm : ∀ (i : Nat) ob, objs[i]? = some ob → (objs.map some)[i]? = some (some ob) := fun i ob h => by rw [List.getElem?_map, h]; rfl
  have hsim : Sim { base := W.heap.size, W0 := W, Pr0 := G.Pr, n := fn.ntmps, X := fun k => ∃ i, i < objs.length ∧ k = G.β (lentBase + i) 0, β0 := fun x _ => G.β x 0, rc0 := fun x _ => G.rc x 0, rz0 := fun x _ => G.rz x 0, J := J, yld := some (P, l, ys) } (initY l P caps objs ys)
      { tmps := (Value.func (.yield l) #[] #[] :: us).toArray ++ Array.replicate (fn.ntmps - (Value.func (.yield l) #[] #[] :: us).toArray.size) undef, defers := [] } W := by
    refine ⟨{ G with ow := fun _ => none, O := O0 }, ⟨⟨hjab, fun P' l' ys' he => by cases he; exact ⟨rfl, hround⟩, Nat.le_refl _⟩, fun d h => (by cases h), fun l h => (by cases h), List.nodup_nil, .refl _ _, hG1.ex.l0, hG1.ex.gle, hG1.ex.dd, hJ, rfl, fun _ _ h _ => h, hO1, fun d g hb' => ?_, fun _ _ h => (by cases h)⟩, hG1.size, fun hy => (by cases hy), hG1.mkd, hG1.base_le, hG1.prb, hG1.pr0, hG1.pr, fun i => hm (hG1.temp i), hG1.tag, fun d g cells hb' => ?_, hG1.inj, hG1.gen, hG1.wf, fun _ _ h => (by cases h), fun _ _ _ _ h => (by cases h), hG1.prx⟩
    · have hb'' : ((initL (.v (.func (.yield l) #[] #[]) :: caps) objs).b d g).isSome = true := hb'
      simp only [initL] at hb''
      split at hb''
      · rename_i hxy
        obtain ⟨c, hc⟩ := Option.isSome_iff_exists.1 hb''
        obtain ⟨ob, h1, _⟩ := Option.map_eq_some_iff.1 hc
        have := hO2 (d - lentBase) (List.getElem?_eq_some_iff.1 h1).1
        rw [show lentBase + (d - lentBase) = d by omega] at this
        rw [hxy.2]
        exact this
      · cases hb''
    · obtain ⟨b1, ⟨cur, e, hh, hsz, hcz, hr⟩, b3⟩ := hG1.box d g cells hb'
      refine ⟨b1, ⟨cur, e, hh, hsz, hcz, fun j l tg u h4 h5 => ?_⟩, b3⟩
      obtain ⟨a1, a2, a3⟩ := hr j l tg u h4 h5
      exact ⟨hm a1, a2, a3⟩
  have hargs : (#[Value.func (.yield l) #[] #[]] ++ us.toArray) = (Value.func (.yield l) #[] #[] :: us).toArray := by simp
  rw [hargs]
  refine calls_of_fence (rnd := none) (m := 0) (callsIn_of_wp_marks hf hb trivial (wpIn_mono (h l _ _ _ 0 rfl hsim) ?_) rfl)
  rintro e a W' ⟨s', ⟨G', hG⟩, he, hk⟩
  have key : LeavesInM (fenceOf none) 0 P fn a.tmps (fun e W' => (∃ v, e = .returned v) ∧ ∃ k st O PS, J k st O PS W' ∧ (st = true → k = ys.length)) a.defers .returning W' := by
    refine leaves_marks (s := s') rfl (fun W2 h2 => ?_) a.defers W' hG
    refine ⟨.tuple #[], ?_, ⟨_, rfl⟩, s'.k, s'.st, _, _, h2.ex.yj, hk⟩
    unfold results
    rw [hres]
    simp
  rcases he with rfl | rfl
  · exact key
  · exact key
end
end Go.LI
/- Ranges over iterators: the caller's side. -/
namespace Go.LI
open Go Go.RowKit

section
variable {P : Program} {τ : Tab} {Γ : Env} {C : Ctx} {G : Gh} {s : S} {a : Act} {W : World} {K : Act → World → Prop} {Q : Exit → Act → World → Prop}

theorem Out.mono {O O' : Nat → Prop} {w w' : World} (h : Out O w w') (ho : ∀ b, O' b → O b) : Out O' w w' := ⟨h.os, h.tape, h.output, h.size, fun b hb hl => h.same b (ho b hb) hl, h.kept, h.drawn⟩

/-- Others have done something to what is not the frame's. -/
theorem SimG.outer (h : SimG C G s a W) {W' : World} (hout : Out G.O W W') (hag : Agree G.Pr W W') (hbox : ∀ d g, (s.b d g).isSome → W'.heap[G.β d g]? = W.heap[G.β d g]?) (how : ∀ tok w, G.ow tok = some w → W'.heap[w.g]? = W.heap[w.g]?)
    (hbel : C.yld = none → BelowX C.X C.base W W') (hmk : ∀ D, mark D ∈ a.defers → W'.heap[D]? = W.heap[D]?) (hrnd : ∀ l, C.rnd = some l → W'.heap[l]? = W.heap[l]?) : SimG C G s a W' := by
  refine ⟨⟨h.ex.ctx, fun d hd => ?_, fun l hl => ?_, h.ex.nd, fun x hx => (hag x (h.pr0 _ _ hx)).trans (h.ex.agr x hx), h.ex.l0, h.ex.gle, h.ex.dd, h.ex.ctx.jab _ _ _ _ _ _ _ h.ex.yj hout hag (fun _ _ => id), h.ex.yl, h.ex.yo4, fun b hb => Nat.lt_of_lt_of_le (h.ex.yo1 b hb) hout.size, h.ex.yo2, h.ex.yo3⟩,
    h.size, fun hy => (h.below hy).trans (hbel hy), h.mkd, Nat.le_trans h.base_le hout.size, h.prb, h.pr0, fun k o hk => (h.pr k o hk).imp id (fun h1 => ⟨h1.1, Nat.lt_of_lt_of_le h1.2 hout.size⟩), fun i => (h.temp i).move hag (fun _ _ => id) rfl rfl rfl, h.tag, fun d g cells hb => ?_, h.inj, h.gen, h.wf, fun tok w hw => ?_, h.ownne, h.prx⟩
  · obtain ⟨D, h1, h2, h3, h4⟩ := h.ex.marks d hd
    exact ⟨D, h1, h2, (hmk D (h1 ▸ hd)).trans h3, h4⟩
  · obtain ⟨r, hr⟩ := h.ex.rnd l hl
    exact ⟨r, (hrnd l hl).trans hr⟩
  · obtain ⟨b1, ⟨cur, e, hh, hsz, hcz, hr⟩, b3⟩ := h.box d g cells hb
    refine ⟨b1, ⟨cur, e, (hbox d g (by rw [hb]; rfl)).trans hh, hsz, hcz, fun j l tg u h4 h5 => ?_⟩, b3⟩
    obtain ⟨a1, a2, a3⟩ := hr j l tg u h4 h5
    exact ⟨a1.move hag (fun _ _ => id) rfl rfl rfl, a2, a3⟩
  · obtain ⟨b1, ⟨cur, hh, hsz⟩, b2⟩ := h.own tok w hw
    exact ⟨b1, ⟨cur, (how tok w hw).trans hh, hsz⟩, b2⟩

/-- Rows that grow by their tags are so no more. -/
def S.forget (s : S) : S := { s with o := fun _ => (0, 0), tv := fun t => s.tv t + 1 }

theorem TagOK.stale {G G' : Gh} {s s' : S} {tg : Tag} {l : LV} {u : Value} (h : TagOK G s tg l u) (ht : ∀ t, s'.tv t = s.tv t + 1) : TagOK G' s' tg l u := by
  refine ⟨by rw [ht]; exact Nat.le_succ_of_le h.1, fun _ he => ?_⟩
  have := h.1
  rw [ht] at he
  omega

theorem SimG.forget (h : SimG C G s a W) : SimG C { G with ow := fun _ => none } s.forget a W := by
  have hm : ∀ {l : LV} {u : Value}, RepT G W l u → RepT { G with ow := fun _ => none } W l u := fun h => h.move' (fun _ _ => rfl) (fun _ _ => id) (fun _ _ => ⟨rfl, rfl, rfl⟩)
  refine ⟨⟨h.ex.ctx, h.ex.marks, h.ex.rnd, h.ex.nd, h.ex.agr, h.ex.l0, h.ex.gle, h.ex.dd, h.ex.yj, h.ex.yl, h.ex.yo4, h.ex.yo1, h.ex.yo2, fun _ _ hw => (by cases hw)⟩, h.size, h.below, h.mkd, h.base_le, h.prb, h.pr0, h.pr, fun i => hm (h.temp i), fun i => .zero, fun d g cells hb => ?_, h.inj, h.gen, h.wf, fun _ _ hw => (by cases hw), fun _ _ _ _ hw => (by cases hw), h.prx⟩
  obtain ⟨b1, ⟨cur, e, hh, hsz, hcz, hr⟩, b3⟩ := h.box d g cells hb
  refine ⟨b1, ⟨cur, e, hh, hsz, hcz, fun j l tg u h4 h5 => ?_⟩, b3⟩
  obtain ⟨a1, a2, a3, a4⟩ := hr j l tg u h4 h5
  exact ⟨hm a1, a2, a3.stale (fun _ => rfl), a4⟩

def S.kills (s : S) (ks : List (Nat × Nat)) : S := ks.foldl (fun s k => s.kill k.1 k.2) s

theorem SimG.kills (ks : List (Nat × Nat)) : ∀ {s : S}, SimG C G s a W → SimG C G (s.kills ks) a W := by
  induction ks with
  | nil => exact fun h => h
  | cons k ks ih => exact fun h => ih (h.kill k.1 k.2)

theorem kills_b (ks : List (Nat × Nat)) : ∀ (s : S) (x y : Nat), (s.kills ks).b x y = if (x, y) ∈ ks then none else s.b x y := by
  induction ks with
  | nil => intro s x y; simp [S.kills]
  | cons k ks ih =>
    intro s x y
    show ((s.kill k.1 k.2).kills ks).b x y = _
    rw [ih]
    simp only [S.kill, List.mem_cons]
    by_cases h1 : (x, y) ∈ ks
    · simp [h1]
    · by_cases h2 : (x, y) = k
      · subst h2; simp
      · have : ¬ (x = k.1 ∧ y = k.2) := fun ⟨e1, e2⟩ => h2 (Prod.ext e1 e2)
        simp [h1, h2, this]

/-- What the loop begins with. -/
def startS (s : S) (ks : List (Nat × Nat)) : S := (s.kills ks).forget

/-- A round's first state. -/
def roundS (s' : S) (ps : List Nat) (y : List LV) : S :=
  { s' with t := (ps.zip y).foldl (fun t q => upd t q.1 q.2) s'.t, o := fun _ => (0, 0), tv := fun t => s'.tv t + 1, k := 0, st := true, yl := none }

/-- What stands behind a round. -/
def backS (s s2 : S) : S := { t := s.t, o := fun _ => (0, 0), b := s2.b, g := s2.g, tv := fun t => s2.tv t + 1, mkd := s2.mkd, k := s.k, st := s.st, yl := s.yl }

theorem foldl_temp {G : Gh} {W : World} : ∀ (ps : List Nat) (y : List LV) (us : List Value) (t : Nat → LV) (A : Array Value), y.length = us.length → (∀ p ∈ ps, p < A.size) → (∀ (i : Nat) l u, y[i]? = some l → us[i]? = some u → RepT G W l u) → (∀ i, RepT G W (t i) (A.getD i undef)) →
    (∀ i, RepT G W (((ps.zip y).foldl (fun t q => upd t q.1 q.2) t) i) (((ps.zip us).foldl (fun A q => A.setIfInBounds q.1 q.2) A).getD i undef)) ∧ ((ps.zip us).foldl (fun A q => A.setIfInBounds q.1 q.2) A).size = A.size
  | [], y, us, t, A, _, _, _, h => by simpa using h
  | p :: ps, [], us, t, A, hl, _, _, h => by
    obtain rfl : us = [] := List.eq_nil_of_length_eq_zero (by simpa using hl.symm)
    simpa using h
  | p :: ps, l :: y, [], t, A, hl, _, _, _ => by simp at hl
  | p :: ps, l :: y, u :: us, t, A, hl, hp, hr, h => by
    have hpA := hp p (by simp)
    have := foldl_temp ps y us (upd t p l) (A.setIfInBounds p u) (by simpa using hl) (fun q hq => by simpa using hp q (by simp [hq])) (fun i l' u' hi hu => hr (i + 1) l' u' (by simpa using hi) (by simpa using hu)) (fun i => by
      by_cases hi : i = p
      · subst hi
        simp only [upd_same]
        rw [show (A.setIfInBounds i u).getD i undef = u by simp [hpA]]
        exact hr 0 l u rfl rfl
      · rw [upd_ne _ _ hi, getD_set_ne' (Ne.symm hi)]
        exact h i)
    simpa using this
  where
  getD_set_ne' {A : Array Value} {p i : Nat} {u : Value} (h : p ≠ i) : (A.setIfInBounds p u).getD i undef = A.getD i undef := by
    simp [Array.getD_eq_getD_getElem?, Array.getElem?_setIfInBounds_ne h]

theorem foldl_keys : ∀ (ps : List Nat) (y : List LV) (t : Nat → LV) (g : Nat → Nat), (∀ l ∈ y, l.keys = []) → (∀ i, ∀ k ∈ (t i).keys, k.2 ≤ g k.1) → ∀ i, ∀ k ∈ (((ps.zip y).foldl (fun t q => upd t q.1 q.2) t) i).keys, k.2 ≤ g k.1
  | [], y, t, g, _, h => by simpa using h
  | p :: ps, [], t, g, _, h => by simpa using h
  | p :: ps, l :: y, t, g, hy, h => by
    have := foldl_keys ps y (upd t p l) g (fun l' hl' => hy l' (by simp [hl'])) (fun i k hk => by
      by_cases hi : i = p
      · subst hi
        simp only [upd_same, hy l (by simp)] at hk
        cases hk
      · rw [upd_ne _ _ hi] at hk
        exact h i k hk)
    simpa using this

/-- The surroundings of a round. -/
def roundC (C : Ctx) (G : Gh) (s' : S) (W0 W : World) (Pr : Nat → Nat → Prop) (l : Nat) : Ctx :=
  { base := W.heap.size, W0 := W0, Pr0 := fun k o => G.Pr k o ∨ Pr k o, n := C.n, X := fun b => ∃ d g, (s'.b d g).isSome ∧ b = G.β d g, g0 := s'.g, β0 := G.β, rc0 := G.rc, rz0 := G.rz, D0 := fun x y => s'.b x y = none, mb := C.mb,
    J := fun _ _ O _ _ => ∀ b, O b ↔ G.O b, rnd := some l }

theorem SimG.round (h : SimG C G s a W) (how : ∀ tok, G.ow tok = none) {Pr : Nat → Nat → Prop} {l : Nat} {r : Loop} (hl : W.heap[l]? = some (.loop r)) (hPr1 : ∀ b o, Pr b o → b < W.heap.size) (hPr2 : ∀ d g o, (s.b d g).isSome → ¬ Pr (G.β d g) o) (hPr3 : ∀ b o, Pr b o → G.O b → G.Pr b o)
    {ps : List Nat} {y : List LV} {us : List Value} (hps : ∀ p ∈ ps, p < C.n) (hy : y.length = us.length) (hrd : ∀ (i : Nat) l u, y[i]? = some l → us[i]? = some u → Rd Pr W l u) :
    SimG (roundC C G s W W Pr l) { G with Pr := fun k o => G.Pr k o ∨ Pr k o } (roundS s ps y) { tmps := (ps.zip us).foldl (fun A q => A.setIfInBounds q.1 q.2) a.tmps, defers := [] } W := by
  have hm : ∀ {l : LV} {u : Value}, RepT G W l u → RepT { G with Pr := fun k o => G.Pr k o ∨ Pr k o } W l u := fun h => h.move' (fun _ _ => rfl) (fun _ _ => .inl) (fun _ _ => ⟨rfl, rfl, rfl⟩)
  have hyr : ∀ (i : Nat) l u, y[i]? = some l → us[i]? = some u → RepT { G with Pr := fun k o => G.Pr k o ∨ Pr k o } W l u := fun i l u h1 h2 => RepT.of_rd ((hrd i l u h1 h2).mono fun _ _ => .inr)
  obtain ⟨hft, hfs⟩ := foldl_temp (G := { G with Pr := fun k o => G.Pr k o ∨ Pr k o }) (W := W) ps y us s.t a.tmps hy (fun p hp => by rw [h.size]; exact hps p hp) hyr (fun i => hm (h.temp i))
  refine ⟨⟨⟨fun _ _ _ _ _ _ _ h _ _ _ => h, fun _ _ _ he => (by cases he), Nat.le_trans h.ex.ctx.mb h.base_le⟩, fun d hd => (by cases hd), fun l' hl' => ?_, List.nodup_nil, .refl _ _, fun _ _ _ => ⟨rfl, rfl, rfl⟩, fun _ => Nat.le_refl _, fun _ _ _ h => h, fun _ => Iff.rfl, rfl, fun b o hp _ => hp, h.ex.yo1, h.ex.yo2, h.ex.yo3⟩,
    hfs.trans h.size, fun _ => BelowX.refl _ _ _, h.mkd, Nat.le_refl _, fun k o hk => hk.elim (h.prlt k o) (hPr1 k o), fun _ _ => id, fun k o hk => .inl hk, hft, fun _ => .zero, fun d g cells hb => ?_, h.inj, h.gen, ?_, fun tok w hw => ?_, fun tok _ w _ hw => ?_, fun _ _ hk => .inl hk⟩
  · cases hl'; exact ⟨r, hl⟩
  · obtain ⟨b1, ⟨cur, e, hh, hsz, hcz, hr⟩, b3⟩ := h.box d g cells hb
    have hbs : (s.b d g).isSome = true := by rw [show s.b d g = some cells from hb]; rfl
    refine ⟨.inr ⟨d, g, hbs, rfl⟩, ⟨cur, e, hh, hsz, hcz, fun j l tg u h4 h5 => ?_⟩, fun o ho => ho.elim (b3 o) (hPr2 d g o hbs)⟩
    obtain ⟨a1, a2, a3, a4⟩ := hr j l tg u h4 h5
    exact ⟨hm a1, a2, a3.stale (fun _ => rfl), a4⟩
  · refine foldl_keys ps y s.t s.g (fun l' hl' => ?_) h.wf
    obtain ⟨i, hi⟩ := List.mem_iff_getElem?.1 hl'
    have hlt := (List.getElem?_eq_some_iff.1 hi).1
    exact keys_of_rd (hrd i l' _ hi (List.getElem?_eq_getElem (by omega)))
  · rw [show ({ G with Pr := fun k o => G.Pr k o ∨ Pr k o } : Gh).ow tok = G.ow tok from rfl, how tok] at hw; cases hw
  · rw [show ({ G with Pr := fun k o => G.Pr k o ∨ Pr k o } : Gh).ow tok = G.ow tok from rfl, how tok] at hw; cases hw

theorem putObj_get (W : World) {l : Nat} (o : Obj) (hl : l < W.heap.size) : (W.putObj l o).heap[l]? = some o := World.putObj_heap_same hl

/-- Behind a round. -/
theorem SimG.back {s0 : S} (h : SimG C G s a W) (hs : s.t = s0.t) (hk : s.k = s0.k) (hst : s.st = s0.st) (hyl : s.yl = s0.yl) {Pr : Nat → Nat → Prop} {l : Nat} {r r1 r2 : Loop} (hl : W.heap[l]? = some (.loop r)) (hlb : C.base ≤ l) (hlO : ¬ G.O l) (hrl : ∀ r', C.rnd = some r' → r' ≠ l)
    (hPr : ∀ b o, Pr b o → C.Pr0 b o ∨ ((C.base ≤ b ∨ C.X b) ∧ C.mb ≤ b ∧ b < W.heap.size)) (hPr3 : ∀ b o, Pr b o → G.O b → G.Pr b o)
    {G2 : Gh} {s2 : S} {a2 : Act} {W2 : World} (h2 : SimG (roundC C G s (W.putObj l (.loop r1)) W Pr l) G2 s2 a2 W2) :
    W2.heap[l]? = some (.loop r1) ∧ SimG C { G2 with ow := fun _ => none, O := G.O } (backS s0 s2) a (W2.putObj l (.loop r2)) ∧ (∀ b, b < W.heap.size → b ≠ l → (∀ d g, (s.b d g).isSome → b ≠ G.β d g) → (W2.putObj l (.loop r2)).heap[b]? = W.heap[b]?) ∧
      (Agree (fun k o => G.Pr k o ∨ Pr k o) W (W2.putObj l (.loop r2))) ∧ W.heap.size ≤ W2.heap.size ∧ (∀ k o, G.Pr k o ∨ Pr k o → G2.Pr k o) ∧ (∀ d g, (s2.b d g).isSome → (∃ d' g', (s.b d' g').isSome ∧ G2.β d g = G.β d' g') ∨ W.heap.size ≤ G2.β d g) ∧
      (W2.os = W.os ∧ W2.tape = W.tape ∧ W2.output = W.output ∧ W.drawn ≤ W2.drawn) := by
  have hll := (Array.getElem?_eq_some_iff.1 hl).1
  have hbel := h2.below rfl
  have hX : ∀ d g, (s.b d g).isSome → G.β d g ≠ l := by
    intro d g hdg he
    obtain ⟨cells, hc⟩ := Option.isSome_iff_exists.1 hdg
    obtain ⟨_, ⟨cur, e, hh, _⟩, _⟩ := h.box d g cells hc
    rw [he, hl] at hh; cases hh
  have hsize : (W.putObj l (.loop r1)).heap.size = W.heap.size := World.putObj_size
  have hsz2 : W.heap.size ≤ W2.heap.size := by rw [← hsize]; exact hbel.size
  have hl2 : W2.heap[l]? = some (.loop r1) := (hbel.block l hll (fun ⟨d, g, hdg, he⟩ => hX d g hdg he.symm)).trans (putObj_get W _ hll)
  have ht1 : Turn (fun k => k = l) W (W.putObj l (.loop r1)) := turn_putObj hl (fun _ _ _ e => by cases e) (fun _ _ _ e => by cases e)
  have ht2 : Turn (fun k => k = l) W2 (W2.putObj l (.loop r2)) := turn_putObj hl2 (fun _ _ _ e => by cases e) (fun _ _ _ e => by cases e)
  have hsame : ∀ b, b < W.heap.size → b ≠ l → (∀ d g, (s.b d g).isSome → b ≠ G.β d g) → (W2.putObj l (.loop r2)).heap[b]? = W.heap[b]? := by
    intro b hb hbl hbx
    exact (ht2.other b hbl).trans ((hbel.block b hb (fun ⟨d, g, hdg, he⟩ => hbx d g hdg he)).trans (ht1.other b hbl))
  have hagr : Agree (fun k o => G.Pr k o ∨ Pr k o) W (W2.putObj l (.loop r2)) := fun x hx => (ht2.cell x).trans ((h2.ex.agr x hx).trans (ht1.cell x))
  have hag : Agree G.Pr W (W2.putObj l (.loop r2)) := fun x hx => hagr x (.inl hx)
  have hO2 : ∀ b, G2.O b ↔ G.O b := h2.ex.yj
  have hplace : ∀ d g, (s2.b d g).isSome → (∃ d' g', (s.b d' g').isSome ∧ G2.β d g = G.β d' g') ∨ W.heap.size ≤ G2.β d g := by
    intro d g hdg
    obtain ⟨cells, hc⟩ := Option.isSome_iff_exists.1 hdg
    rcases (h2.box d g cells hc).1 with h5 | ⟨d', g', h5, h6⟩
    · exact .inr h5
    · exact .inl ⟨d', g', h5, h6⟩
  have hm2 : ∀ {l' : LV} {u : Value}, RepT G2 W2 l' u → RepT { G2 with ow := fun _ => none, O := G.O } (W2.putObj l (.loop r2)) l' u := fun h => h.move' (fun x _ => ht2.cell x) (fun _ _ => id) (fun _ _ => ⟨rfl, rfl, rfl⟩)
  have hkeep : ∀ b o, W.heap[b]? = some o → (∀ cur e f, o ≠ Obj.cells cur e f) → b ≠ l → (W2.putObj l (.loop r2)).heap[b]? = some o := fun b o hb ho hbl =>
    (hsame b (Array.getElem?_eq_some_iff.1 hb).1 hbl (fun d g hdg he => by
      obtain ⟨cells, hc⟩ := Option.isSome_iff_exists.1 hdg
      obtain ⟨_, ⟨cur, e, hh, _⟩, _⟩ := h.box d g cells hc
      rw [he, hh] at hb
      injection hb with hb
      exact ho _ _ _ hb.symm)).trans hb
  have hout : Out G.O W (W2.putObj l (.loop r2)) := by
    refine ⟨by rw [show (W2.putObj l (.loop r2)).os = W2.os from rfl]; exact hbel.os, hbel.tape, hbel.output, by rw [World.putObj_size]; exact hsz2, fun b hb hlt => hsame b hlt (fun e => hlO (e ▸ hb)) (fun d g hdg he => h.ex.yo2 d g hdg (he ▸ hb)), fun b cur e hc => ?_, hbel.drawn⟩
    have hblt := (Array.getElem?_eq_some_iff.1 hc).1
    have hbl : b ≠ l := by rintro rfl; rw [hl] at hc; cases hc
    by_cases hx : ∃ d g, (s.b d g).isSome ∧ b = G.β d g
    · obtain ⟨cur', h1, h3⟩ := hbel.kept b hblt cur e hx (ht1.box hc)
      exact ⟨cur', ht2.box h1, h3⟩
    · exact ⟨cur, (hsame b hblt hbl (fun d g hdg he => hx ⟨d, g, hdg, he⟩)).trans hc, rfl⟩
  refine ⟨hl2, ⟨⟨h.ex.ctx, fun d hd => ?_, fun l' hl' => ?_, h.ex.nd, fun x hx => (hag x (h.pr0 _ _ hx)).trans (h.ex.agr x hx), fun x y hy => ?_, fun x => Nat.le_trans (h.ex.gle x) (h2.ex.gle x), fun x y hy hD => ?_, ?_, ?_, fun b o hp hO => ?_, fun b hb => ?_, fun d g hdg => ?_, fun _ _ hw => (by cases hw)⟩,
    h.size, fun hy => (h.below hy).trans ⟨hbel.os, hbel.tape, hbel.output, by rw [World.putObj_size]; exact hsz2, fun k hk hx => ?_, fun k hk cur e hx hc => hout.kept k cur e hc, hbel.drawn⟩, fun d g hdg hm => h2.mkd d g hdg hm, by rw [World.putObj_size]; exact Nat.le_trans h.base_le hsz2, h.prb, fun k o hk => h2.pr0 k o (.inl (h.pr0 k o hk)), fun k o hk => ?_, fun i => ?_, fun _ => .zero, fun d g cells hb => ?_, h2.inj, h2.gen, fun i k hk' => ?_, fun _ _ hw => (by cases hw), fun _ _ _ _ hw => (by cases hw), fun k o hk => ?_⟩, hsame, hagr, hsz2, h2.pr0, hplace, hbel.os, hbel.tape, hbel.output, hbel.drawn⟩
  · obtain ⟨D, d1, d2, d3, d4⟩ := h.ex.marks d hd
    exact ⟨D, d1, d2, hkeep D _ d3 (fun _ _ _ e => by cases e) (by rintro rfl; rw [hl] at d3; cases d3), d4⟩
  · obtain ⟨r', hr'⟩ := h.ex.rnd l' hl'
    exact ⟨r', hkeep l' _ hr' (fun _ _ _ e => by cases e) (hrl l' hl')⟩
  · obtain ⟨e1, e2, e3⟩ := h2.ex.l0 x y (Nat.le_trans hy (h.ex.gle x))
    obtain ⟨f1, f2, f3⟩ := h.ex.l0 x y hy
    exact ⟨e1.trans f1, e2.trans f2, e3.trans f3⟩
  · exact h2.ex.dd x y (Nat.le_trans hy (h.ex.gle x)) (h.ex.dd x y hy hD)
  · have := h.ex.ctx.jab _ _ _ _ _ _ _ h.ex.yj hout hag (fun k o hk => h2.pr0 k o (.inl hk))
    rw [hk, hst] at this
    exact this
  · exact hyl.symm.trans h.ex.yl
  · rcases h2.ex.yo4 b o hp ((hO2 b).2 hO) with h5 | h5
    · exact h.ex.yo4 b o h5 hO
    · exact h.ex.yo4 b o (hPr3 b o h5 hO) hO
  · rw [World.putObj_size]
    exact Nat.lt_of_lt_of_le (h.ex.yo1 b hb) hsz2
  · exact fun ho => h2.ex.yo2 d g hdg ((hO2 _).2 ho)
  · refine hsame k (Nat.lt_of_lt_of_le hk h.base_le) (by omega) (fun d g hdg he => ?_)
    obtain ⟨cells, hc⟩ := Option.isSome_iff_exists.1 hdg
    rcases (h.box d g cells hc).1 with h5 | h5
    · omega
    · exact hx (he ▸ h5)
  · rw [World.putObj_size]
    rcases h2.pr k o hk with h5 | h5
    · rcases h5 with h5 | h5
      · exact (h.pr k o h5).imp id (fun h6 => ⟨h6.1, Nat.lt_of_lt_of_le h6.2 hsz2⟩)
      · exact (hPr k o h5).imp id (fun h6 => ⟨h6.2.1, Nat.lt_of_lt_of_le h6.2.2 hsz2⟩)
    · exact .inr h5
  · show RepT _ _ (s0.t i) _
    rw [← hs]
    exact (h.temp i).move' hag (fun k o hk => h2.pr0 k o (.inl hk)) (fun k hk => h2.ex.l0 k.1 k.2 (h.wf i k hk))
  · obtain ⟨b1, ⟨cur, e, hh, hsz, hcz, hr⟩, b3⟩ := h2.box d g cells hb
    refine ⟨?_, ⟨cur, e, ht2.box hh, hsz, hcz, fun j l' tg u h4 h5 => ?_⟩, b3⟩
    · rcases hplace d g (by rw [show s2.b d g = some cells from hb]; rfl) with ⟨d', g', h5, h6⟩ | h5
      · obtain ⟨c', hc'⟩ := Option.isSome_iff_exists.1 h5
        show _ ≤ G2.β d g ∨ C.X (G2.β d g)
        rw [h6]
        exact (h.box d' g' c' hc').1
      · exact .inl (Nat.le_trans h.base_le h5)
    · obtain ⟨a1, a2, a3, a4⟩ := hr j l' tg u h4 h5
      exact ⟨hm2 a1, a2, a3.stale (fun _ => rfl), a4⟩
  · have hk2 : k ∈ (s0.t i).keys := hk'
    rw [← hs] at hk2
    exact Nat.le_trans (h.wf i k hk2) (h2.ex.gle k.1)
  · rcases h2.prx k o hk with h5 | h5 | ⟨d, g, hdg, h5⟩
    · exact h5.elim (h.prx k o) (fun h6 => (hPr k o h6).imp id (·.1))
    · exact .inr (.inl (Nat.le_trans h.base_le h5))
    · obtain ⟨c', hc'⟩ := Option.isSome_iff_exists.1 hdg
      rw [h5]
      exact .inr (h.box d g c' hc').1
end
end Go.LI
