/- Texts of a small semantics over the model and of specifications of functions, joined: S93c, S277, S315. -/
import Derived.Test.YtlnndndpaakjfaaGreatDoorP21
import Derived.Test.YtlnndndpaakjfaaGreatDoorP22
import Derived.Test.YtlnndndpaakjfaaGreatDoorP25
set_option linter.unusedSimpArgs false
set_option linter.unusedVariables false
namespace Go.LI.T
open Go Go.LI Go.Proofs
set_option maxRecDepth 100000
set_option maxHeartbeats 4000000

theorem run163 : callX τ T13 (run τ T13 1000) 163 [nilV] = some (.tup []) := by kernel_rfl
theorem run164 : callX τ T13 (run τ T13 1000) 164 [nilV] = some nilV := by kernel_rfl

/-- No variables. -/
def NoVars (c : Cn) : Prop := ∀ a ∈ c.args, ∀ t ∈ a.l, t.var < 0

/-- cons.Vars, of a constraint of constants alone -/
theorem f93c (X : LV) (c : Cn) (hX : ListAre AgAre X c.args) (hc : NoVars c) (hl : c.args.length < 1000000) (hl2 : ∀ a ∈ c.args, a.l.length < 1000000) :
    CallSpec Tryz.prog 93 [.agg [.v (.string c.name), X]] nilV := by
  obtain ⟨xs, hx, hxl, _⟩ := id hX
  obtain ⟨_, hget⟩ := hX.get hx
  obtain ⟨x1, x2, x3, x4, x5⟩ := asList_one hx
  have F := Facts.nil Tryz.prog
  have F2 := Facts.cons (callX_spec T13_ok 1000 run163) (Facts.cons (callX_spec T13_ok 1000 run164) F)
  refine CallSpec.of_LW ok Tryz.func93 (by kernel_rfl) rfl (by simp [Tryz.ntmps93]) ?_
  refine LW.sr ok F (by decide) (by simp [x1]; rfl) ?_
  refine LW.sr ok F (by decide) (by simp; rfl) ?_
  refine LW.seq (LW.sr ok F (by decide) (by simp [hx]; rfl) (LW.block (LW.loop (fun k s => ∃ j, k + j = xs.length ∧ s.t 9 = X ∧ s.t 10 = .v (.int .i64 xs.length) ∧ s.t 11 = .v (.int .i64 j) ∧ s.t 3 = nilV)
    (k := xs.length) ⟨0, by simp, by simp, by simp, by simp, by simp [nilV]⟩ ?_)))
  rintro k s ⟨j, hk, h9, h10, h11, h3⟩
  refine LW.sr ok F (by decide) (by simp [h10, h11]; rfl) ?_
  refine LW.seq ?_
  by_cases hj : j < xs.length
  · have hja : j < c.args.length := by omega
    obtain ⟨L, hA, hTL⟩ := hget j hj hja
    obtain ⟨ts, ht, htl, _⟩ := id hTL
    obtain ⟨_, htget⟩ := hTL.get ht
    obtain ⟨t1, t2, t3, t4, t5⟩ := asList_one ht
    have hno := hc _ (List.getElem_mem hja)
    have hlj := hl2 _ (List.getElem_mem hja)
    refine LW.ct (by simp [hj]) (LW.skip ?_)
    refine LW.seq (LW.block ?_)
    refine LW.sr ok F (by decide) (by simp [h9, h11, hx, hj, hA, t1]; rfl) ?_
    refine LW.sr ok F (by decide) (by simp [ht]; rfl) ?_
    refine LW.block (LW.loop (fun k2 s2 => ∃ i, k2 + i = ts.length ∧ s2.t 9 = X ∧ s2.t 10 = .v (.int .i64 xs.length) ∧ s2.t 11 = .v (.int .i64 j) ∧ s2.t 3 = nilV ∧ s2.t 16 = L ∧ s2.t 17 = .v (.int .i64 ts.length) ∧ s2.t 18 = .v (.int .i64 i))
      (k := ts.length) ⟨0, by simp, by simp [h9], by simp [h10], by simp [h11], by simp [h3], by simp, by simp, by simp⟩ ?_)
    rintro k2 s2 ⟨i, hk2, g9, g10, g11, g3, g16, g17, g18⟩
    refine LW.sr ok F (by decide) (by simp [g17, g18]; rfl) ?_
    refine LW.seq ?_
    by_cases hi : i < ts.length
    · have hia : i < c.args[j].l.length := by omega
      obtain ⟨S, he, hS⟩ := htget i hi hia
      obtain ⟨s1, s2', s3, s4, s5⟩ := asList_one hS
      have hneg := hno _ (List.getElem_mem hia)
      generalize c.args[j].l[i] = tm at *
      refine LW.ct (by simp [hi]) (LW.skip ?_)
      refine LW.seq (LW.block ?_)
      refine LW.sr ok F (by decide) (by simp [g16, g18, ht, hi, he, tmC, s1]; rfl) ?_
      refine LW.sr ok F (by decide) (by simp; rfl) ?_
      refine LW.cf (by simp; omega) (LW.skip ?_)
      refine LW.r ok F (by decide) (by simp [g18]; rfl) ?_
      exact ⟨k2 - 1, by omega, i + 1, by omega, by simp [g9], by simp [g10], by simp [g11], by simp [g3], by simp [g16], by simp [g17], by simp [wrap_succ (show i < 9223372036854775807 by omega)]⟩
    · refine LW.cf (by simp [hi]) (LW.exit ?_)
      refine LW.r ok F (by decide) (by simp [g11]; rfl) ?_
      exact ⟨k - 1, by omega, j + 1, by omega, by simp [g9], by simp [g10], by simp [wrap_succ (show j < 9223372036854775807 by omega)], by simp [g3]⟩
  · refine LW.cf (by simp [hj]) (LW.exit ?_)
    refine LW.sr ok F2 (by decide) (by simp [h3, nilV]; rfl) ?_
    refine LW.sr ok F2 (by decide) (by simp [h3, nilV, ofFacts_ne]; rfl) (LW.retk ?_)
    simp [Tryz.f93, resL, resOne, nilV]
end Go.LI.T
namespace Go.LI.T
open Go Go.LI Go.Proofs
set_option maxRecDepth 100000
set_option maxHeartbeats 2000000

def hasPre (s p : ByteArray) : Bool := decide (p.size ≤ s.size) && decide (s.extract 0 p.size = p)

theorem f277 (s p : ByteArray) : CallSpec Tryz.prog 277 [.v (.string s), .v (.string p)] (.v (.bool (hasPre s p))) := by
  have F := Facts.nil Tryz.prog
  refine CallSpec.of_LW ok Tryz.func277 (by kernel_rfl) rfl (by simp [Tryz.ntmps277]) ?_
  refine LW.sr ok F (by decide) (by simp; rfl) ?_
  by_cases h : p.size ≤ s.size
  · refine LW.sr ok F (by decide) (by
      simp [h]
      rw [next_slice_str (b := s) (k := .i64) (k' := .i64) (l := 0) (h := p.size) (h1 := by simp) (h2 := by simp) (hl := by simp) (hh := by simp)]
      simp [h]
      rfl) (LW.retk (by simp [Tryz.f277, resL, resOne, hasPre, h]))
  · refine LW.sr ok F (by decide) (by simp [h]; rfl) (LW.retk (by simp [Tryz.f277, resL, resOne, hasPre, h]))

theorem f229 (s p : ByteArray) : CallSpec Tryz.prog 229 [.v (.string s), .v (.string p)] (.v (.bool (hasPre s p))) := by
  have F := Facts.cons (f277 s p) (Facts.nil Tryz.prog)
  refine CallSpec.of_LW ok Tryz.func229 (by kernel_rfl) rfl (by simp [Tryz.ntmps229]) ?_
  refine LW.sr ok F (by decide) (by simp; rfl) ?_
  refine LW.sr ok F (by decide) (by simp; rfl) (LW.retk (by simp [Tryz.f229, resL, resOne]))
end Go.LI.T
namespace Go.LI.T
open Go Go.LI Go.Proofs
set_option maxRecDepth 100000
set_option maxHeartbeats 2000000

/-- slices.IndexFunc, over a plain function that answers p -/
theorem f315 (l : LV) (ns : List Int) (g : Nat) (p : Int → Bool) (hl : IntsAre l ns) (hg : ∀ n ∈ ns, CallSpec Tryz.prog g [.v (.int .i64 n)] (.v (.bool (p n)))) (hlen : ns.length < 1000000) :
    ∃ r : Int, CallSpec Tryz.prog 315 [l, .v (.func (.func g) #[] #[])] (.v (.int .i64 r)) ∧ (decide (0 ≤ r) = ns.any p) := by
  have F := Facts.nil Tryz.prog
  have h0 : l.asList = _ := hl
  obtain ⟨a1, a2, a3, a4, a5⟩ := asList_one hl
  refine ⟨((ns.findIdx? p).map fun i : Nat => (i : Int)).getD (-1), ?_, ?_⟩
  · refine CallSpec.of_LW ok Tryz.func315 (by kernel_rfl) rfl (by simp [Tryz.ntmps315]) ?_
    refine LW.sr ok F (by decide) (by simp; rfl) ?_
    refine LW.seq (LW.sr ok F (by decide) (by simp [h0]; rfl) (LW.block (LW.loop (fun k s => ∃ j, k + j = ns.length ∧ s.t 0 = l ∧ s.t 1 = .v (.func (.func g) #[] #[]) ∧ s.t 7 = .v (.int .i64 ns.length) ∧ s.t 8 = .v (.int .i64 j) ∧ ∀ (i : Nat) (hi : i < ns.length), i < j → p ns[i] = false)
      (k := ns.length) ⟨0, by simp, by simp, by simp, by simp, by simp, by simp⟩ ?_)))
    rintro k s ⟨j, hk, h1, h2, h7, h8, hn⟩
    refine LW.sr ok F (by decide) (by simp [h7, h8]; rfl) ?_
    refine LW.seq ?_
    by_cases hj : j < ns.length
    · have e1 : ns[j]? = some ns[j] := List.getElem?_eq_getElem hj
      have hcall := hg _ (List.getElem_mem hj)
      have hpj : ∀ b, ns[j]? = some b → p b = p ns[j] := fun b hb => by rw [e1] at hb; cases hb; rfl
      generalize hx : ns[j] = x at e1 hcall
      have F2 := Facts.cons hcall (Facts.nil Tryz.prog)
      refine LW.ct (by simp [hj]) (LW.skip ?_)
      refine LW.seq (LW.block ?_)
      refine LW.sr ok F (by decide) (by simp [h8]; rfl) ?_
      refine LW.sr ok F2 (by decide) (by simp [h1, h2, h0, hj, e1, hx]; rfl) ?_
      cases hp : p x with
      | true =>
        refine LW.ct (by simp [hp]) ?_
        refine LW.sr ok F (by decide) (by simp; rfl) (LW.ret ?_)
        show resL _ _ _ = _
        have : ns.findIdx? p = some j := by
          rw [List.findIdx?_eq_some_iff_getElem]
          exact ⟨hj, by rw [hx]; exact hp, fun i hi => by simpa using hn i (by omega) hi⟩
        simp [Tryz.f315, resL, resOne, this]
      | false =>
        refine LW.cf (by simp [hp]) (LW.skip ?_)
        refine LW.r ok F (by decide) (by simp [h8]; rfl) ?_
        refine ⟨k - 1, by omega, j + 1, by omega, by simp [h1], by simp [h2], by simp [h7], by simp [wrap_succ (show j < 9223372036854775807 by omega)], fun i hi hij => ?_⟩
        by_cases hi2 : i = j
        · subst hi2; rw [hx]; exact hp
        · exact hn i hi (by omega)
    · refine LW.cf (by simp [hj]) (LW.exit ?_)
      have : ns.findIdx? p = none := by
        rw [List.findIdx?_eq_none_iff]
        intro x hx
        obtain ⟨i, hi, rfl⟩ := List.getElem_of_mem hx
        exact hn i hi (by omega)
      refine LW.sr ok F (by decide) (by simp; rfl) (LW.retk ?_)
      simp [Tryz.f315, resL, resOne, this]
  · cases hf : ns.findIdx? p with
    | none =>
      rw [List.findIdx?_eq_none_iff] at hf
      symm
      simpa using hf
    | some i =>
      rw [List.findIdx?_eq_some_iff_getElem] at hf
      obtain ⟨hi, hp, _⟩ := hf
      have : ns.any p = true := List.any_eq_true.2 ⟨_, List.getElem_mem hi, hp⟩
      rw [this]
      simp

/-- slices.ContainsFunc -/
theorem f278 (l : LV) (ns : List Int) (g : Nat) (p : Int → Bool) (hl : IntsAre l ns) (hg : ∀ n ∈ ns, CallSpec Tryz.prog g [.v (.int .i64 n)] (.v (.bool (p n)))) (hlen : ns.length < 1000000) :
    CallSpec Tryz.prog 278 [l, .v (.func (.func g) #[] #[])] (.v (.bool (ns.any p))) := by
  obtain ⟨r, hc, hr⟩ := f315 l ns g p hl hg hlen
  obtain ⟨a1, a2, a3, a4, a5⟩ := asList_one hl
  have F := Facts.cons hc (Facts.nil Tryz.prog)
  refine CallSpec.of_LW ok Tryz.func278 (by kernel_rfl) rfl (by simp [Tryz.ntmps278]) ?_
  refine LW.sr ok F (by decide) (by simp; rfl) ?_
  refine LW.sr ok F (by decide) (by simp [a2]; rfl) (LW.retk (by simp [Tryz.f278, resL, resOne, ← hr]))
end Go.LI.T
