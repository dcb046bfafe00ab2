/- Texts of a small semantics over the model and of specifications of functions, joined: LIRange3. -/
import Derived.Test.YtlnndndpaakjfaaGreatDoorP12
set_option linter.unusedSimpArgs false
set_option linter.unusedVariables false
/- Ranges over iterators: the rule. -/
namespace Go.LI
open Go Go.RowKit

section
variable {P : Program} {τ : Tab} {Γ : Env} {C : Ctx} {G : Gh} {s : S} {a : Act} {W : World} {K : Act → World → Prop} {Q : Exit → Act → World → Prop}

/-- The iterator's function, and what it has captured. -/
def capsOf : LV → Option (Nat × List LV)
  | .clo f caps => some (f, caps)
  | .fn f [] caps => some (f, caps)
  | .v (.func (.func f) first caps) => if first = #[] ∧ caps = #[] then some (f, []) else none
  | _ => none

theorem capsOf_rep (h : SimG C G s a W) {x : Operand} {f : Nat} {caps : List LV} (hc : capsOf (s.eval x) = some (f, caps)) : ∃ cus : List Value, a.eval x = .func (.func f) #[] cus.toArray ∧ caps.length = cus.length ∧ ∀ (i : Nat) l u, caps[i]? = some l → cus[i]? = some u → RepT G W l u := by
  have hr := h.eval x
  cases hx : s.eval x <;> rw [hx] at hc hr <;> simp only [capsOf] at hc <;> try (cases hc; done)
  case v val =>
    cases val with
    | func fv first captured =>
      cases fv with
      | func f' =>
        simp only at hc
        split at hc
        · rename_i hcc
          obtain ⟨rfl, rfl⟩ := hcc
          simp only [Option.some.injEq, Prod.mk.injEq] at hc
          obtain ⟨rfl, rfl⟩ := hc
          exact ⟨[], rd_vv h hx, rfl, fun i l u hl _ => by simp at hl⟩
        · cases hc
      | _ => simp at hc
    | _ => simp at hc
  case fn f' first caps' =>
    cases first with
    | nil =>
      simp only [Option.some.injEq, Prod.mk.injEq] at hc
      obtain ⟨rfl, rfl⟩ := hc
      have hrx' : Rd G.Pr W (.fn f' [] caps') (a.eval x) := hr
      generalize hax : a.eval x = ax at hrx'
      cases hrx' with
      | @fn _ _ _ us ws hl1 hh1 hl2 hh2 =>
        obtain rfl : us = [] := List.eq_nil_of_length_eq_zero (by simpa using hl1.symm)
        exact ⟨ws, rfl, hl2, fun i l u hl hu => RepT.of_rd (hh2 i l u hl hu)⟩
    | cons => simp at hc
  case clo f' caps' =>
    simp only [Option.some.injEq, Prod.mk.injEq] at hc
    obtain ⟨rfl, rfl⟩ := hc
    obtain ⟨us, hax, hl2, hh2⟩ := hr
    refine ⟨us, hax, hl2, fun i l u hl hu => ?_⟩
    have h1 := hh2 i l u hl hu
    cases l <;> first | exact h1 | (cases (show Rd G.Pr W _ u from h1))

/-- How a round may end: it goes on; it leaves by a return, or by a jump. -/
def roundR (I : Nat → S → Prop) (R : Exit → S → Prop) (s : S) (k : Nat) : Exit → S → Prop
  | .normal, s2 => I (k + 1) (backS s s2)
  | .ret, s2 => R .ret (backS s s2)
  | .exit id, s2 => R (.exit id) (backS s s2)
  | _, _ => False

/-- The jump that a round has left by. -/
def jumpOf : Exit → Option Code
  | .ret => some .ret
  | .exit id => some (.exit id)
  | _ => none

theorem LW.rangeFunc {n : Nat} {R : Exit → S → Prop} {g : Operand} {ps : Array Tmp} {assign body : Code} {f : Nat} {caps : List LV} {ks : List (Nat × Nat)} {objs ys : List (List LV)} (I : Nat → S → Prop)
    (hg : capsOf (s.eval g) = some (f, caps.map (LV.un ks))) (hk1 : ks.length = objs.length) (hk2 : ks.Nodup) (hk3 : (ks.map fun k => look s k.1 k.2) = objs.map fun o => some (o.map (LV.un ks))) (hit : IterSpec P f caps objs ys)
    (hps : ∀ p ∈ ps.toList, p < n) (hys : ∀ y ∈ ys, y.length = ps.size) (hI0 : I 0 (startS s ks))
    (hround : ∀ (k : Nat) y s', ys[k]? = some y → I k s' → s'.t = s.t → LW P n assign (thenL (LW P n body (roundR I R s k)) fun _ _ => False) (roundS s' ps.toList y))
    (hdone : ∀ s', I ys.length s' → s'.t = s.t → R .normal s') : LW P n (.rangeFunc g ps assign body) R s := by
  intro C a W m hC hs
  obtain ⟨G, hG⟩ := hs
  obtain ⟨cus, hag, hcl, hcr⟩ := capsOf_rep hG hg
  obtain ⟨hi1, hi2, hi3, hi4⟩ := hit
  -- what is lent to the iterator
  have hlive : ∀ (i : Nat) k, ks[i]? = some k → ∃ cells ob, s.b k.1 k.2 = some cells ∧ objs[i]? = some ob ∧ cells.map (·.1) = ob.map (LV.un ks) := by
    intro i k hi
    have hlt := (List.getElem?_eq_some_iff.1 hi).1
    have hob := List.getElem?_eq_getElem (l := objs) (i := i) (by omega)
    have := congrArg (fun l => l[i]?) hk3
    simp only [List.getElem?_map, hi, hob, Option.map_some, Option.some.injEq, look] at this
    obtain ⟨cells, hc1, hc2⟩ := Option.map_eq_some_iff.1 this
    exact ⟨cells, _, hc1, hob, hc2⟩
  have hgetD : ∀ (i : Nat) k, ks[i]? = some k → ks.getD i (0, 0) = k := fun i k hi => by simp [List.getD, hi]
  have hlβ : ∀ (i : Nat) k, ks[i]? = some k → (G.lent ks).β (lentBase + i) 0 = G.β k.1 k.2 ∧ (G.lent ks).rc (lentBase + i) 0 = G.rc k.1 k.2 ∧ (G.lent ks).rz (lentBase + i) 0 = G.rz k.1 k.2 := by
    intro i k hi
    simp only [Gh.lent, Nat.add_sub_cancel_left, hgetD i k hi, and_self]
  have hobjs : ObjsAt (G.lent ks) W (objs.map some) := by
    constructor
    · intro i cells hi
      rw [List.getElem?_map] at hi
      obtain ⟨ob, hob, he⟩ := Option.map_eq_some_iff.1 hi
      injection he with he
      subst he
      have hlt := (List.getElem?_eq_some_iff.1 hob).1
      have hki := List.getElem?_eq_getElem (l := ks) (i := i) (by omega)
      obtain ⟨cl, ob', hb, hob', hmap⟩ := hlive i _ hki
      rw [hob] at hob'
      obtain rfl : ob = ob' := by injection hob'
      obtain ⟨e1, e2, e3⟩ := hlβ i _ hki
      obtain ⟨b1, ⟨cur, e, hh, hsz, hcz, hr⟩, b3⟩ := hG.box _ _ _ hb
      have hll : cl.length = ob.length := by have := congrArg List.length hmap; simpa using this
      rw [e1, e2, e3]
      refine ⟨⟨cur, e, hh, by omega, hcz, fun j l u hj hu => ?_⟩, b3⟩
      have hjl := (List.getElem?_eq_some_iff.1 hj).1
      have hcj := List.getElem?_eq_getElem (l := cl) (i := j) (by omega)
      have hm := congrArg (fun l => l[j]?) hmap
      simp only [List.getElem?_map, hcj, hj, Option.map_some, Option.some.injEq] at hm
      obtain ⟨a1, a2, _, _⟩ := hr j (cl[j]).1 (cl[j]).2 u hcj hu
      rw [hm] at a1
      exact ⟨a1.lent, a2⟩
    · intro i j c1 c2 hi hj he
      have hi' : i < ks.length := by have := (List.getElem?_eq_some_iff.1 hi).1; simp at this; omega
      have hj' : j < ks.length := by have := (List.getElem?_eq_some_iff.1 hj).1; simp at this; omega
      have hki := List.getElem?_eq_getElem hi'
      have hkj := List.getElem?_eq_getElem hj'
      rw [(hlβ i _ hki).1, (hlβ j _ hkj).1] at he
      obtain ⟨ci, _, hbi, _⟩ := hlive i _ hki
      obtain ⟨cj, _, hbj, _⟩ := hlive j _ hkj
      have := hG.inj _ _ _ _ (by rw [hbi]; rfl) (by rw [hbj]; rfl) he
      exact (List.getElem_inj hk2).1 (Prod.ext this.1 this.2)
  -- the loop's record is laid
  refine wpIn_rangeFunc ?_
  intro fn hfn
  obtain ⟨l, mk, W1, D0, henter, hb1, hl1, hlge, hrnl, hmk⟩ : ∃ (l : Nat) (mk : List Deferred) (W1 : World) (D0 : Nat), (Instr.enterLoop fn a.tmps ps assign body (fenceOf C.rnd).round).run P W = .ok (l, mk) W1 ∧ Below W.heap.size W W1 ∧
      W1.heap[l]? = some (.loop { state := .ready, pending := none, fn, tmps := a.tmps, params := ps, assign, body, defers := D0 }) ∧ W.heap.size ≤ l ∧ (∀ r, C.rnd = some r → r ≠ l) ∧ (mk = [] ∨ (∃ D, mk = [mark D] ∧ W.heap.size ≤ D ∧ W1.heap[D]? = some (.deferred (some [])))) := by
    cases hr : C.rnd with
    | none =>
      refine ⟨W.heap.size + 1, [mark W.heap.size], (W.alloc (.deferred (some []))).alloc (.loop { state := .ready, pending := none, fn, tmps := a.tmps, params := ps, assign, body, defers := W.heap.size }), W.heap.size, run_enterLoop_outer fn a.tmps ps assign body, ?_, ?_, by omega, (fun r h => by cases h), .inr ⟨W.heap.size, rfl, Nat.le_refl _, ?_⟩⟩
      · exact (below_alloc W _).trans ((below_alloc (W.alloc _) _).mono (by simp))
      · have := World.alloc_heap_new (W.alloc (.deferred (some []))) (.loop { state := .ready, pending := none, fn, tmps := a.tmps, params := ps, assign, body, defers := W.heap.size })
        rwa [World.size_alloc] at this
      · exact ((below_alloc (W.alloc (.deferred (some []))) _).block W.heap.size (by simp)).trans (World.alloc_heap_new W _)
    | some r0 =>
      obtain ⟨r, hr0⟩ := hG.ex.rnd r0 hr
      refine ⟨W.heap.size, [], W.alloc (.loop { state := .ready, pending := none, fn, tmps := a.tmps, params := ps, assign, body, defers := r.defers }), r.defers, ?_, below_alloc W _, World.alloc_heap_new W _, Nat.le_refl _, (fun r' h => by
        cases h
        have := (Array.getElem?_eq_some_iff.1 hr0).1
        omega), .inl rfl⟩
      show (Instr.enterLoop fn a.tmps ps assign body (some r0)).run P W = _
      simp [Instr.enterLoop, Sem.run_bind, run_getLoop hr0, newObj, Sem.run, Result.andThen]
  have hlbase : C.base ≤ l := Nat.le_trans hG.base_le hlge
  -- the frame at the loop's start
  have hF := (hG.kills ks).forget
  have hsomeS : ∀ d g, ((startS s ks).b d g).isSome → (s.b d g).isSome ∧ (d, g) ∉ ks := by
    intro d g hdg
    have hdg' : ((s.kills ks).b d g).isSome = true := hdg
    rw [kills_b] at hdg'
    split at hdg'
    · cases hdg'
    · rename_i hn; exact ⟨hdg', hn⟩
  have hkt : ∀ (ks : List (Nat × Nat)) (s : S), (s.kills ks).t = s.t ∧ (s.kills ks).k = s.k ∧ (s.kills ks).st = s.st ∧ (s.kills ks).yl = s.yl := by
    intro ks
    induction ks with
    | nil => intro s; exact ⟨rfl, rfl, rfl, rfl⟩
    | cons k ks ih => intro s; exact ih (s.kill k.1 k.2)
  have hblt : ∀ d g, (s.b d g).isSome → G.β d g < W.heap.size := fun d g h => hG.blockLt h
  have hF1 : SimG C { G with ow := fun _ => none } (startS s ks) { a with defers := mk ++ a.defers } W1 := by
    have h1 : SimG C { G with ow := fun _ => none } (startS s ks) a W1 := hF.outer (.of_below hb1) (agree_of_below hb1 hG.prlt) (fun d g hdg => hb1.block _ (hblt d g (hsomeS d g hdg).1)) (fun _ _ hw => by cases hw) (fun _ => belowX (hb1.mono hG.base_le))
      (fun D hD => by
        obtain ⟨D', e, _, h3, _⟩ := hG.ex.marks _ hD
        have : D = D' := by simpa [mark] using e
        subst this
        exact hb1.block D (Array.getElem?_eq_some_iff.1 h3).1) (fun r hr => by
        obtain ⟨r', hr'⟩ := hG.ex.rnd r hr
        exact hb1.block r (Array.getElem?_eq_some_iff.1 hr').1)
    refine { h1 with ex := { h1.ex with marks := fun d hd => ?_, nd := ?_ } }
    · rcases List.mem_append.1 hd with hd | hd
      · rcases hmk with rfl | ⟨D, rfl, hD1, hD2⟩
        · cases hd
        · simp only [List.mem_singleton] at hd
          subst hd
          exact ⟨D, rfl, Nat.le_trans hG.base_le hD1, hD2, fun ho => by have := hG.ex.yo1 D ho; omega⟩
      · exact h1.ex.marks d hd
    · rcases hmk with rfl | ⟨D, rfl, hD1, hD2⟩
      · exact h1.ex.nd
      · refine List.nodup_cons.2 ⟨fun hd => ?_, h1.ex.nd⟩
        obtain ⟨D', e, _, h3, _⟩ := hG.ex.marks _ hd
        have : D = D' := by simpa [mark] using e
        subst this
        have := (Array.getElem?_eq_some_iff.1 h3).1
        omega
  have hl1lt := (Array.getElem?_eq_some_iff.1 hl1).1
  -- the iterator's call
  refine ⟨l, mk, W1, { target := .fn (.func f) cus.toArray, args := #[.func (.yield l) #[] #[]] }, W1, f, #[.func (.yield l) #[] #[]] ++ cus.toArray, W1, henter, ?_, fun _ _ => trivial, ?_, fun hd => by simp [fenceOf, Fence.wide] at hd, ?_⟩
  · simp only [resolve, hag]
    simp [Deferred.ofValue, Act.eval]
  · simp [invoke, hi1]
  -- what the rounds keep
  let rec' : LoopState → Option Code → Loop := fun st pe => { state := st, pending := pe, fn, tmps := a.tmps, params := ps, assign, body, defers := D0 }
  let J : Nat → Bool → (Nat → Prop) → (Nat → Nat → Prop) → World → Prop := fun k st O PS W' => ∃ (s' : S) (G' : Gh) (e : Exit), (st = true → I k s' ∧ e = .normal) ∧ (st = false → R e s' ∧ jumpOf e ≠ none) ∧
    s'.t = s.t ∧ s'.k = s.k ∧ s'.st = s.st ∧ s'.yl = s.yl ∧ SimG C G' s' { a with defers := mk ++ a.defers } W' ∧ (∀ tok, G'.ow tok = none) ∧ W'.heap[l]? = some (.loop (rec' (if st then .ready else .done) (jumpOf e))) ∧ O l ∧
    (∀ d g, (s'.b d g).isSome → O (G'.β d g)) ∧ (∀ b o, G'.Pr b o → O b ∨ PS b o) ∧ (C.yld = none → ∀ b, b < C.base → ¬ C.X b → O b) ∧ (∀ D, mark D ∈ mk ++ a.defers → O D) ∧ (∀ r, C.rnd = some r → O r) ∧ (∀ b, G'.O b ↔ G.O b) ∧ (∀ b, G.O b → O b) ∧ (∀ b o, G.Pr b o → G'.Pr b o) ∧ (∀ b, O b → b < W'.heap.size)
  let O0 : Nat → Prop := fun b => b < W1.heap.size ∧ ∀ (i : Nat) k, ks[i]? = some k → b ≠ G.β k.1 k.2
  have hlentlt : ∀ (i : Nat) k, ks[i]? = some k → G.β k.1 k.2 < W.heap.size := fun i k hi => by
    obtain ⟨cells, _, hb, _⟩ := hlive i k hi
    exact hblt _ _ (by rw [hb]; rfl)
  have hnotcells : ∀ b o, W.heap[b]? = some o → (∀ cur e f, o ≠ Obj.cells cur e f) → ∀ (i : Nat) k, ks[i]? = some k → b ≠ G.β k.1 k.2 := by
    intro b o hb ho i k hi he
    obtain ⟨cells, _, hbk, _⟩ := hlive i k hi
    obtain ⟨_, ⟨cur, e, hh, _⟩, _⟩ := hG.box _ _ _ hbk
    rw [he, hh] at hb
    injection hb with hb
    exact ho _ _ _ hb.symm
  have hnew0 : ∀ b, W.heap.size ≤ b → b < W1.heap.size → O0 b := fun b h1 h2 => ⟨h2, fun i k hi he => by have := hlentlt i k hi; omega⟩
  have hold0 : ∀ b, b < W.heap.size → (∀ (i : Nat) k, ks[i]? = some k → b ≠ G.β k.1 k.2) → O0 b := fun b h1 h2 => ⟨Nat.lt_of_lt_of_le h1 hb1.size, h2⟩
  have hcall := hi4 l J (G.lent ks) W1 cus O0 (fun k o hk => Nat.lt_of_lt_of_le (hG.prlt k o hk) hb1.size) ⟨fun i c hi => by
      obtain ⟨⟨cur, e, hh, hsz, hcz, hr⟩, hnp⟩ := hobjs.1 i c hi
      exact ⟨⟨cur, e, (hb1.block _ (Array.getElem?_eq_some_iff.1 hh).1).trans hh, hsz, hcz, fun j l u hj hu => ⟨(hr j l u hj hu).1.move' (agree_of_below hb1 hG.prlt) (fun _ _ => id) (fun _ _ => ⟨rfl, rfl, rfl⟩), (hr j l u hj hu).2⟩⟩, hnp⟩, hobjs.2⟩
    (by rw [List.length_map] at hcl; exact hcl) (fun i l' u hl' hu => by
      have := hcr i (l'.un ks) u (by rw [List.getElem?_map, hl']; rfl) hu
      exact this.lent.move' (agree_of_below hb1 hG.prlt) (fun _ _ => id) (fun _ _ => ⟨rfl, rfl, rfl⟩)) ?jab ?rounds ?start (fun b hb => hb.1) (fun i hi hO => by
      have hki := List.getElem?_eq_getElem (l := ks) (i := i) (by omega)
      rw [(hlβ i _ hki).1] at hO
      exact hO.2 i _ hki rfl)
  case jab =>
    rintro k st O PS PS' Wa Wb ⟨s', G', e, c1, c2, c3, c4, c5, c6, c7, c8, c9, c10, c11, c12, c13, c14, c15, c16, c17, c18, c19⟩ hout hagPS hPS
    have hsame : ∀ b, O b → Wb.heap[b]? = Wa.heap[b]? := fun b hb => hout.same b hb (c19 b hb)
    refine ⟨s', G', e, c1, c2, c3, c4, c5, c6, ?_, c8, (hsame l c10).trans c9, c10, c11, fun b o hp => (c12 b o hp).imp (fun h => h) (hPS b o), c13, c14, c15, c16, c17, c18, fun b hb => Nat.lt_of_lt_of_le (c19 b hb) hout.size⟩
    refine c7.outer (hout.mono fun b hb => c17 b ((c16 b).1 hb)) (fun x hx => ?_) (fun d g hdg => hsame _ (c11 d g hdg)) (fun tok w hw => by rw [c8 tok] at hw; cases hw) (fun hy => ⟨hout.os, hout.tape, hout.output, hout.size, fun b hb hx => hsame b (c13 hy b hb hx), fun b hb cur e _ hc => hout.kept b cur e hc, hout.drawn⟩) (fun D hD => hsame D (c14 D hD)) (fun r hr => hsame r (c15 r hr))
    rcases c12 x.block x.off hx with h5 | h5
    · exact World.cell?_of_block (w := Wa) (hsame _ h5)
    · exact hagPS x h5
  case start =>
    refine ⟨startS s ks, { G with ow := fun _ => none }, .normal, fun _ => ⟨hI0, rfl⟩, fun h => (by cases h), (hkt ks s).1, (hkt ks s).2.1, (hkt ks s).2.2.1, (hkt ks s).2.2.2, hF1, fun _ => rfl, hl1, hnew0 l hlge hl1lt, fun d g hdg => ?_, fun b o hp => .inr hp, fun hy b hb hx => ?_, fun D hD => ?_, fun r hr => ?_, fun _ => Iff.rfl, fun b hb => ?_, fun _ _ => id, fun b hb => hb.1⟩
    · obtain ⟨h5, h6⟩ := hsomeS d g hdg
      refine hold0 _ (hblt d g h5) (fun i k hi he => ?_)
      obtain ⟨cells, _, hbk, _⟩ := hlive i k hi
      have := hG.inj _ _ _ _ h5 (by rw [hbk]; rfl) he
      exact h6 (by rw [show (d, g) = k from Prod.ext this.1 this.2]; exact List.mem_of_getElem? hi)
    · refine hold0 b (Nat.lt_of_lt_of_le hb hG.base_le) (fun i k hi he => ?_)
      obtain ⟨cells, _, hbk, _⟩ := hlive i k hi
      rcases (hG.box _ _ _ hbk).1 with h5 | h5
      · omega
      · exact hx (he ▸ h5)
    · rcases List.mem_append.1 hD with hD | hD
      · rcases hmk with rfl | ⟨D', rfl, hD1, hD2⟩
        · cases hD
        · have : D = D' := by simpa [mark] using hD
          subst this
          exact hnew0 D hD1 (Array.getElem?_eq_some_iff.1 hD2).1
      · obtain ⟨D', e, _, h3, _⟩ := hG.ex.marks _ hD
        have : D = D' := by simpa [mark] using e
        subst this
        exact hold0 D (Array.getElem?_eq_some_iff.1 h3).1 (hnotcells D _ h3 (fun _ _ _ e => by cases e))
    · obtain ⟨r', hr'⟩ := hG.ex.rnd r hr
      exact hold0 r (Array.getElem?_eq_some_iff.1 hr').1 (hnotcells r _ hr' (fun _ _ _ e => by cases e))
    · refine hold0 b (hG.ex.yo1 b hb) (fun i k hi he => ?_)
      obtain ⟨cells, _, hbk, _⟩ := hlive i k hi
      exact hG.ex.yo2 k.1 k.2 (by rw [hbk]; rfl) (he ▸ hb)
  case rounds =>
    rintro k y hy m' O Wa us Pr ⟨s', G', e0, c1, c2, c3, c4, c5, c6, c7, c8, c9, c10, c11, c12, c13, c14, c15, c16, c17, c18, c19⟩ hPr hlen hrd
    obtain ⟨hIk, rfl⟩ := c1 rfl
    simp only [if_true, jumpOf] at c9
    have hylen : y.length = ps.size := hys y (List.mem_of_getElem? hy)
    have hyrun := run_yield (P := P) (args := us.toArray) c9 (by simp [← hlen, hylen, rec'])
    refine ⟨fn, _, assign, body, hyrun, roundIn_of_wpIn hfn ?_⟩
    have hlO : ¬ G'.O l := fun ho => by have := hG.ex.yo1 l ((c16 l).1 ho); omega
    have hPrO : ∀ b o, Pr b o → O b → G'.Pr b o := fun b o hp hO => c18 b o ((hPr b o hp).2.1 hO)
    have hPr2 : ∀ d g o, (s'.b d g).isSome → ¬ Pr (G'.β d g) o := fun d g o hdg hp => by
      obtain ⟨cells, hc⟩ := Option.isSome_iff_exists.1 hdg
      exact (c7.box d g cells hc).2.2 o (hPrO _ o hp (c11 d g hdg))
    have hPr3 : ∀ b o, Pr b o → G'.O b → G'.Pr b o := fun b o hp hO => hPrO b o hp (c17 b ((c16 b).1 hO))
    have hsim := c7.round c8 c9 (fun b o hp => (hPr b o hp).1) hPr2 hPr3 (ps := ps.toList) (by rw [hC]; exact hps) hlen hrd
    have htm : (ps.zip us.toArray).foldl (fun tmps (t, a) => tmps.setIfInBounds t a) a.tmps = (ps.toList.zip us).foldl (fun A q => A.setIfInBounds q.1 q.2) a.tmps := by
      rw [← Array.foldl_toList]; simp
    have hPrC : ∀ b o, Pr b o → C.Pr0 b o ∨ ((C.base ≤ b ∨ C.X b) ∧ C.mb ≤ b ∧ b < Wa.heap.size) := fun b o hp => by
      rcases (hPr b o hp).2.2 with h5 | h5
      · rcases hG.prx b o h5 with h6 | h6
        · exact .inl h6
        · exact (hG.pr b o h5).imp (fun h => h) (fun h => ⟨h6, h.1, (hPr b o hp).1⟩)
      · exact .inr ⟨.inl (Nat.le_trans hG.base_le (Nat.le_trans hb1.size h5)), Nat.le_trans hG.ex.ctx.mb (Nat.le_trans hG.base_le (Nat.le_trans hb1.size h5)), (hPr b o hp).1⟩
    have hrun := hround k y s' hy hIk c3 (roundC C G' s' Wa Wa Pr l) _ Wa m' hC ⟨_, hsim⟩
    rw [show (fenceOf none).inRound l = fenceOf (some l) from rfl, htm]
    refine wpIn_mono hrun ?_
    rintro e a1 Wb ⟨s1, ⟨G1, hG1⟩, he⟩
    cases e with
    | exit => exact he.elim
    | goto => exact he.elim
    | ret => exact he.elim
    | panic => exact he.elim
    | outgrown => exact he.elim
    | normal =>
      -- the body
      have hla := (Array.getElem?_eq_some_iff.1 c9).1
      have hbel1 := hG1.below rfl
      have hXl : ¬ (roundC C G' s' Wa Wa Pr l).X l := by
        rintro ⟨d, g, hdg, he'⟩
        obtain ⟨cells, hc⟩ := Option.isSome_iff_exists.1 hdg
        obtain ⟨_, ⟨cur, e, hh, _⟩, _⟩ := c7.box d g cells hc
        rw [← he', c9] at hh; cases hh
      have hlb : Wb.heap[l]? = some (.loop (rec' .ready none)) := (hbel1.block l hla hXl).trans c9
      have ht1 : Turn (fun k => k = l) Wa (Wa.putObj l (.loop { rec' .ready none with state := .busy })) := turn_putObj c9 (fun _ _ _ e => by cases e) (fun _ _ _ e => by cases e)
      have ht2 : Turn (fun k => k = l) Wb (Wb.putObj l (.loop { rec' .ready none with state := .busy })) := turn_putObj hlb (fun _ _ _ e => by cases e) (fun _ _ _ e => by cases e)
      refine ⟨_, run_beginRound hlb rfl, ?_⟩
      have hG1b := hG1.turn (W0' := Wa.putObj l (.loop { rec' .ready none with state := .busy })) (ds := a1.defers) ht2 (fun _ => ?_) (fun x hx => (ht2.cell x).trans ((hG1.ex.agr x hx).trans (ht1.cell x).symm)) ⟨hG1.ex.ctx.jab, hG1.ex.ctx.rounds, hG1.ex.ctx.mb⟩ (fun l' hl' => ?_) (fun d hd => ?_) hG1.ex.nd (fun k' hk' => ?_)
      rotate_left
      · refine ⟨hbel1.os, hbel1.tape, hbel1.output, by rw [World.putObj_size, World.putObj_size]; exact hbel1.size, fun b hb hx => ?_, fun b hb cur e hx hc => ?_, hbel1.drawn⟩
        · by_cases hbl : b = l
          · subst hbl
            rw [World.putObj_heap_same hla, World.putObj_heap_same (Array.getElem?_eq_some_iff.1 hlb).1]
          · rw [ht2.other b hbl, ht1.other b hbl]
            exact hbel1.block b hb hx
        · have hbl : b ≠ l := by rintro rfl; exact hXl hx
          rw [ht1.other b hbl] at hc
          obtain ⟨cur', h5, h6⟩ := hbel1.kept b hb cur e hx hc
          exact ⟨cur', ht2.box h5, h6⟩
      · cases hl'
        exact ⟨_, World.putObj_heap_same (Array.getElem?_eq_some_iff.1 hlb).1⟩
      · obtain ⟨D, d1, d2, d3, d4⟩ := hG1.ex.marks d hd
        have hDl : D ≠ l := by rintro rfl; rw [hlb] at d3; cases d3
        exact ⟨D, d1, d2, (ht2.other D hDl).trans d3, d4⟩
      · subst hk'
        exact fun ho => hlO ((hG1.ex.yj _).1 ho)
      have hbody := he (roundC C G' s' (Wa.putObj l (.loop { rec' .ready none with state := .busy })) Wa Pr l) { a1 with defers := a1.defers } _ m' hC ⟨_, hG1b⟩
      refine wpIn_mono hbody ?_
      rintro e a2 Wc ⟨s2, ⟨G2, hG2⟩, he2⟩
      have hb2 := fun r2 => c7.back (s0 := s) (r2 := r2) c3 c4 c5 c6 c9 hlbase hlO hrnl hPrC hPr3 hG2
      obtain ⟨hlc, _⟩ := hb2 (rec' .ready none)
      -- the world behind the round, whatever its end
      have hfin : ∀ (b : Bool) (e' : Exit), (b = true → I (k + 1) (backS s s2) ∧ e' = .normal) → (b = false → R e' (backS s s2) ∧ jumpOf e' ≠ none) → ∀ W4, W4 = Wc.putObj l (.loop (rec' (if b then .ready else .done) (jumpOf e'))) →
          RFrame O Pr Wa W4 ∧ J (k + 1) b (fun x => O x ∨ (Wa.heap.size ≤ x ∧ x < W4.heap.size)) Pr W4 := by
        rintro b e' hb1' hb2' W4 rfl
        obtain ⟨_, hS, hsame, hagr, hsz, hpm, hplace, hos, htp, hout', hdr⟩ := hb2 (rec' (if b then .ready else .done) (jumpOf e'))
        have hlc' := (Array.getElem?_eq_some_iff.1 hlc).1
        refine ⟨⟨hos, htp, hout', by rw [World.putObj_size]; exact hsz, fun b' hb' hO' => hsame b' hb' (fun e => hO' (e ▸ c10)) (fun d g hdg e => hO' (e ▸ c11 d g hdg)), fun x hx => hagr x (.inr hx), hdr⟩, backS s s2, { G2 with ow := fun _ => none, O := G'.O }, e', hb1', hb2', rfl, rfl, rfl, rfl, hS, fun _ => rfl, World.putObj_heap_same hlc', .inl c10, fun d g hdg => ?_, fun b' o hp => ?_, fun hy b' hb' hx => .inl (c13 hy b' hb' hx), fun D hD => .inl (c14 D hD), fun r hr => .inl (c15 r hr), c16, fun b' hb' => .inl (c17 b' hb'), fun b' o hp => hpm b' o (.inl (c18 b' o hp)), fun b' hb' => ?_⟩
        · rcases hplace d g hdg with ⟨d', g', h5, h6⟩ | h5
          · left
            show O (G2.β d g)
            rw [h6]
            exact c11 d' g' h5
          · have hlt : G2.β d g < (Wc.putObj l (.loop (rec' (if b then .ready else .done) (jumpOf e')))).heap.size := hS.blockLt hdg
            exact .inr ⟨h5, hlt⟩
        · have hplt := hS.prlt b' o hp
          by_cases hold : b' < Wa.heap.size
          · have hp' : G2.Pr b' o := hp
            rcases hG2.prx b' o hp' with h5 | h5 | ⟨d, g, hdg, h5⟩
            · rcases h5 with h5 | h5
              · exact (c12 b' o h5).imp .inl (fun h => h)
              · exact .inr h5
            · have h6 : Wa.heap.size ≤ b' := h5
              omega
            · rw [h5]
              exact .inl (.inl (c11 d g hdg))
          · exact .inl (.inr ⟨by omega, hplt⟩)
        · rcases hb' with hb' | hb'
          · exact Nat.lt_of_lt_of_le (c19 b' hb') (by rw [World.putObj_size]; exact hsz)
          · exact hb'.2
      cases e with
      | normal => exact ⟨_, _, run_endRound none hlc, true, rfl, hfin true .normal (fun _ => ⟨he2, rfl⟩) (fun h => by cases h) _ rfl⟩
      | ret => exact ⟨_, _, run_endRound (some .ret) hlc, false, rfl, hfin false .ret (fun h => by cases h) (fun _ => ⟨he2, by simp [jumpOf]⟩) _ rfl⟩
      | exit id => exact ⟨_, _, run_endRound (some (.exit id)) hlc, false, rfl, hfin false (.exit id) (fun h => by cases h) (fun _ => ⟨he2, by simp [jumpOf]⟩) _ rfl⟩
      | goto => exact he2.elim
      | panic => exact he2.elim
      | outgrown => exact he2.elim
  -- behind the loop
  refine CallsIn.mono (callsIn_fence hcall) ?_
  rintro e W' ⟨⟨v, rfl⟩, k, st, O, PS, ⟨s', G', e0, c1, c2, c3, c4, c5, c6, c7, c8, c9, c10, c11, c12, c13, c14, c15, c16, c17, c18, c19⟩, hfull⟩
  have hlO : ¬ G'.O l := fun ho => by have := hG.ex.yo1 l ((c16 l).1 ho); omega
  have ht : Turn (fun k => k = l) W' (W'.putObj l (.loop { rec' (if st then .ready else .done) (jumpOf e0) with state := .exhausted })) := turn_putObj c9 (fun _ _ _ e => by cases e) (fun _ _ _ e => by cases e)
  have hbel : BelowX C.X C.base W' (W'.putObj l (.loop { rec' (if st then .ready else .done) (jumpOf e0) with state := .exhausted })) := ⟨rfl, rfl, rfl, Nat.le_of_eq ht.size.symm, fun k hk _ => ht.other k (fun e => by omega), fun k hk cur e _ hc => ⟨cur, ht.box hc, rfl⟩, Nat.le_refl _⟩
  have hend : SimG C G' s' { a with defers := mk ++ a.defers } (W'.putObj l (.loop { rec' (if st then .ready else .done) (jumpOf e0) with state := .exhausted })) :=
    c7.turn (W0' := C.W0) (ds := mk ++ a.defers) ht (fun hy => (c7.below hy).trans hbel) (fun x hx => (ht.cell x).trans (c7.ex.agr x hx)) c7.ex.ctx (fun r hr => by
      obtain ⟨r', hr'⟩ := c7.ex.rnd r hr
      exact ⟨r', (ht.other r (hrnl r hr)).trans hr'⟩) (fun d hd => by
      obtain ⟨D, d1, d2, d3, d4⟩ := c7.ex.marks d hd
      have hDl : D ≠ l := by rintro rfl; rw [c9] at d3; cases d3
      exact ⟨D, d1, d2, (ht.other D hDl).trans d3, d4⟩) c7.ex.nd (fun k' hk' => by subst hk'; exact hlO)
  refine ⟨jumpOf e0, _, run_endLoop c9 (by cases st <;> simp [rec']), ?_⟩
  cases st with
  | true =>
    obtain ⟨hIk, rfl⟩ := c1 rfl
    exact ⟨s', ⟨G', hend⟩, hdone s' (by rw [← hfull rfl]; exact hIk) c3⟩
  | false =>
    obtain ⟨hR, hj⟩ := c2 rfl
    cases e0 with
    | ret => exact wpIn_ret ⟨s', ⟨G', hend⟩, hR⟩
    | exit id => exact wpIn_exit ⟨s', ⟨G', hend⟩, hR⟩
    | _ => exact absurd rfl hj
end
end Go.LI
