/- Texts of a small semantics over the model and of specifications of functions, joined: S276, S222, S230, S92, S44, S43, Ext. -/
import Derived.Test.YtlnndndpaakjfaaGreatDoorP15
import Derived.Test.YtlnndndpaakjfaaGreatDoorP17
import Derived.Test.YtlnndndpaakjfaaGreatDoorP18
import Derived.Test.YtlnndndpaakjfaaGreatDoorP21
import Derived.Laws.Externs
set_option linter.unusedSimpArgs false
set_option linter.unusedVariables false
namespace Go.LI.T
open Go Go.LI Go.Proofs
set_option maxRecDepth 100000
set_option maxHeartbeats 2000000

def BoolsAre (l : LV) (bs : List Bool) : Prop := l.asList = some (bs.map fun b => [LV.v (.bool b)])

/-- cons.asker.variable: is the term a variable of this kind? -/
def varOk (bs : List Bool) (t : Tm) (set : Bool) : Bool :=
  decide (0 ≤ t.var) && decide (t.var < bs.length) && (bs[t.var.toNat]? == some set) && !t.c.set && decide (t.c.n = 0) && decide (t.c.s = [])

theorem f276 (K S : LV) (bs : List Bool) (t : Tm) (set : Bool) (hK : BoolsAre K bs) (hS : IntsAre S t.c.s) :
    CallSpec Tryz.prog 276 [.agg [K], .agg (tmC t S), .v (.bool set)] (.v (.bool (varOk bs t set))) := by
  have F := Facts.nil Tryz.prog
  have hl : S.asList = _ := hS
  have hk : K.asList = _ := hK
  obtain ⟨s1, s2, s3, s4, s5⟩ := asList_one hS
  obtain ⟨k1, k2, k3, k4, k5⟩ := asList_one hK
  refine CallSpec.of_LW ok Tryz.func276 (by kernel_rfl) rfl (by simp [Tryz.ntmps276]) ?_
  refine LW.sr ok F (by decide) (by simp [tmC, s1, k1]; rfl) ?_
  by_cases h1 : 0 ≤ t.var
  · by_cases h2 : t.var < bs.length
    · have h6 : t.var.toNat < bs.length := by omega
      obtain ⟨b, hb⟩ : ∃ b, bs[t.var.toNat]? = some b := ⟨_, List.getElem?_eq_getElem h6⟩
      have hb' : bs[t.var.toNat] = b := by rw [List.getElem?_eq_getElem h6] at hb; injection hb
      by_cases h3 : b = set
      · subst h3
        have h3 : (b == b) = true := by simp
        by_cases h4 : t.c.set = true
        · refine LW.sr ok F (by decide) (by simp [h1, h2, h3, h4, hl, hk, hb, hb', h6]; rfl) (LW.retk (by simp [Tryz.f276, resL, resOne, varOk, h1, h2, h3, h4, hb, hb', h6]))
        · by_cases h5 : t.c.n = 0
          · refine LW.sr ok F (by decide) (by simp [h1, h2, h3, h4, h5, hl, hk, hb, hb', h6]; rfl) (LW.retk (by simp [Tryz.f276, resL, resOne, varOk, h1, h2, h3, h4, h5, hb, hb', h6]))
          · refine LW.sr ok F (by decide) (by simp [h1, h2, h3, h4, h5, hl, hk, hb, hb', h6]; rfl) (LW.retk (by simp [Tryz.f276, resL, resOne, varOk, h1, h2, h3, h4, h5, hb, hb', h6]))
      · have h3n := h3
        have h3 : (b == set) = false := by simp [h3]
        refine LW.sr ok F (by decide) (by simp [h1, h2, h3, hl, hk, hb, hb', h6]; rfl) (LW.retk (by simp [Tryz.f276, resL, resOne, varOk, h1, h2, h3, h3n, hb, hb', h6]))
    · refine LW.sr ok F (by decide) (by simp [h1, h2, hl, hk]; rfl) (LW.retk (by simp [Tryz.f276, resL, resOne, varOk, h1, h2]))
  · refine LW.sr ok F (by decide) (by simp [h1, hl, hk]; rfl) (LW.retk (by simp [Tryz.f276, resL, resOne, varOk, h1]))
end Go.LI.T
namespace Go.LI.T
open Go Go.LI Go.Proofs
set_option maxRecDepth 100000
set_option maxHeartbeats 2000000

/-- Is the term a number between these? -/
def numOk (t : Tm) (lo hi : Int) : Bool := decide (t.var = -1) && !t.c.set && decide (t.c.s = []) && decide (lo ≤ t.c.n) && decide (t.c.n ≤ hi)

/-- cons.asker.coef -/
theorem f222 (K S : LV) (bs : List Bool) (t : Tm) (hK : BoolsAre K bs) (hS : IntsAre S t.c.s) :
    CallSpec Tryz.prog 222 [.agg [K], .agg (tmC t S)] (.v (.bool (numOk t (-1000000000) 1000000000))) := by
  obtain ⟨s1, s2, s3, s4, s5⟩ := asList_one hS
  obtain ⟨k1, k2, k3, k4, k5⟩ := asList_one hK
  have F := Facts.cons (f274 K S t (-1000000000) 1000000000 k1 hS) (Facts.nil Tryz.prog)
  refine CallSpec.of_LW ok Tryz.func222 (by kernel_rfl) rfl (by simp [Tryz.ntmps222]) ?_
  refine LW.sr ok F (by decide) (by simp [tmC, s1, k1]; rfl) ?_
  refine LW.sr ok F (by decide) (by simp [tmC, k2, s2]; rfl) (LW.retk (by simp [Tryz.f222, resL, resOne, numOk]))

/-- cons.asker.whole -/
theorem f225 (K S : LV) (bs : List Bool) (t : Tm) (hK : BoolsAre K bs) (hS : IntsAre S t.c.s) :
    CallSpec Tryz.prog 225 [.agg [K], .agg (tmC t S)] (.v (.bool (varOk bs t false || numOk t (-1000000) 1000000))) := by
  obtain ⟨s1, s2, s3, s4, s5⟩ := asList_one hS
  obtain ⟨k1, k2, k3, k4, k5⟩ := asList_one hK
  have F := Facts.cons (f276 K S bs t false hK hS) (Facts.cons (f274 K S t (-1000000) 1000000 k1 hS) (Facts.nil Tryz.prog))
  refine CallSpec.of_LW ok Tryz.func225 (by kernel_rfl) rfl (by simp [Tryz.ntmps225]) ?_
  refine LW.sr ok F (by decide) (by simp [tmC, s1, k1]; rfl) ?_
  cases h : varOk bs t false
  · refine LW.sr ok F (by decide) (by simp [tmC, h, ofFacts_ne, s2, k2]; rfl) (LW.retk (by simp [Tryz.f225, resL, resOne, numOk]))
  · refine LW.sr ok F (by decide) (by simp [tmC, h, ofFacts_ne, s2, k2]; rfl) (LW.retk (by simp [Tryz.f225, resL, resOne]))
end Go.LI.T
namespace Go.LI.T
open Go Go.LI Go.Proofs
set_option maxRecDepth 100000
set_option maxHeartbeats 2000000

theorem mixed : Tryz.prog.follows .mixedOrders = true := by kernel_rfl

/-- Have these arguments as many terms as the first of them? -/
def lensEq (c : Cn) (i0 : Nat) (is : List Nat) : Bool := is.all fun i => ((c.args[i]?).map fun a => a.l.length) == ((c.args[i0]?).map fun a => a.l.length)

/-- cons.equal -/
theorem f230 (X L : LV) (c : Cn) (hX : ListAre AgAre X c.args) (is : List Nat) (i0 : Nat) (hL : L.asList = some (is.map fun i : Nat => [.v (.int .i64 i)])) (hi0 : is.head? = some i0)
    (hin : ∀ i ∈ is, i < c.args.length) (hlen : is.length < 1000000) :
    CallSpec Tryz.prog 230 [.agg [.v (.string c.name), X], L] (.v (.bool (lensEq c i0 is))) := by
  have F := Facts.nil Tryz.prog
  obtain ⟨es, hl, hel, _⟩ := id hX
  obtain ⟨_, hget⟩ := hX.get hl
  obtain ⟨a1, a2, a3, a4, a5⟩ := asList_one hl
  obtain ⟨l1, l2, l3, l4, l5⟩ := asList_one hL
  have hpos : 0 < is.length := by cases is with
    | nil => cases hi0
    | cons _ _ => simp
  have h00 : is[0] = i0 := by
    cases is with
    | nil => cases hi0
    | cons x _ => simpa using hi0
  refine CallSpec.of_LW ok Tryz.func230 (by kernel_rfl) rfl (by simp [Tryz.ntmps230]) ?_
  refine LW.sr ok F (by decide) (by simp [a1]; rfl) ?_
  refine LW.seq (LW.sr ok F (by decide) (by simp [hL]; rfl) (LW.block (LW.loop (fun k s => ∃ j, k + j = is.length ∧ s.t 1 = L ∧ s.t 2 = .ptr 2 1 0 ∧ s.b 2 1 = some [(.v (.string c.name), (0, 0)), (X, (0, 0))] ∧ s.t 7 = L ∧ s.t 8 = .v (.int .i64 is.length) ∧ s.t 9 = .v (.int .i64 j) ∧
      (is.take j).all (fun i => ((c.args[i]?).map fun a => a.l.length) == ((c.args[i0]?).map fun a => a.l.length)) = true)
    (k := is.length) ⟨0, by simp, by simp, by simp, by simp, by simp, by simp, by simp, by simp⟩ ?_)))
  rintro k s ⟨j, hk, h1, h2, hb, h7, h8, h9, hall⟩
  refine LW.sr ok F (by decide) (by simp [h8, h9]; rfl) ?_
  refine LW.seq ?_
  by_cases hj : j < is.length
  · have hi : is[j] < c.args.length := hin _ (List.getElem_mem hj)
    have hi0' : i0 < c.args.length := by rw [← h00]; exact hin _ (List.getElem_mem hpos)
    have e1 : is[j]? = some is[j] := List.getElem?_eq_getElem hj
    have e2 : is[0]? = some i0 := by rw [List.getElem?_eq_getElem hpos, h00]
    obtain ⟨A, hA, B, hB, hBl, _⟩ := hget is[j] (by omega) hi
    obtain ⟨A0, hA0, B0, hB0, hBl0, _⟩ := hget i0 (by omega) hi0'
    have hz1 : is[j] < es.length := by omega
    have hz0 : i0 < es.length := by omega
    refine LW.ct (by simp [hj]) (LW.skip ?_)
    refine LW.seq (LW.block ?_)
    refine LW.sr ok F (by decide) (by simp [h7, h9, hL, hj, e1]; rfl) ?_
    obtain ⟨_, _, pA, _, _⟩ := asList_one hB
    obtain ⟨_, _, pA0, _, _⟩ := asList_one hB0
    have g1 : c.args[is[j]]? = some c.args[is[j]] := List.getElem?_eq_getElem hi
    have g0 : c.args[i0]? = some c.args[i0] := List.getElem?_eq_getElem hi0'
    refine LW.sd mixed ok F (by decide) (by decide +kernel) (by simp [h1, h2, hb, hL, hl, hpos, h00, e2, hz1, hz0, hA, hA0, hB, hB0, a2, a3, pA, pA0]; rfl) ?_
    by_cases he : c.args[is[j]].l.length = c.args[i0].l.length
    · refine LW.cf (by simp [hBl, hBl0, he]) (LW.skip ?_)
      refine LW.r ok F (by decide) (by simp [h9]; rfl) ?_
      refine ⟨k - 1, by omega, j + 1, by omega, by simp [h1], by simp [h2], by simp [hb], by simp [h7], by simp [h8], by simp [wrap_succ (show j < 9223372036854775807 by omega)], ?_⟩
      rw [List.take_add_one, e1, List.all_append, hall]
      simp [g1, g0, he]
    · refine LW.ct (by simp [hBl, hBl0, Ne.symm he]; omega) ?_
      refine LW.sr ok F (by decide) (by simp; rfl) (LW.ret ?_)
      show resL _ _ _ = _
      have : lensEq c i0 is = false := by
        unfold lensEq
        rw [List.all_eq_false]
        exact ⟨is[j], List.getElem_mem hj, by simp [g1, g0, he]⟩
      simp [Tryz.f230, resL, resOne, this]
  · refine LW.cf (by simp [hj]) (LW.exit ?_)
    have hjn : j = is.length := by omega
    subst hjn
    rw [List.take_length] at hall
    refine LW.sr ok F (by decide) (by simp; rfl) (LW.retk ?_)
    simp [Tryz.f230, resL, resOne, lensEq, hall]
end Go.LI.T
namespace Go.LI.T
open Go Go.LI Go.Proofs
set_option maxRecDepth 100000
set_option maxHeartbeats 4000000

/-- A part's first and last letter. -/
def let0 (p : ByteArray) : Int := (((p[0]?).map fun c => (c.toNat : Int)).getD 0)
def letN (p : ByteArray) : Int := (((p[p.size - 1]?).map fun c => (c.toNat : Int)).getD 0)

/-- Is an argument as its part asks: an array, or one term? -/
def headOk (a : Ag) (p : ByteArray) : Bool := (a.array == decide (let0 p = 97)) && (a.array || decide (a.l.length = 1))

def StrsAre (l : LV) (ps : List ByteArray) : Prop := l.asList = some (ps.map fun p => [LV.v (.string p)])

/-- What is wrong of a constraint, its form's parts, what a letter asks and the rules being given. -/
def rightP (args : List Ag) (parts : List ByteArray) (ask : Int → Tm → Bool) (rules : Bool) : Int :=
  if parts.length ≠ args.length then 50
  else if (args.zip parts).all (fun q => headOk q.1 q.2) = false then 50
  else if args.any (fun a => decide (1000 < a.l.length)) = true then 3
  else if (args.zip parts).all (fun q => q.1.l.all (ask (letN q.2))) = false then 50
  else if rules = false then 50 else 0

theorem all_take_succ {α : Type} {l : List α} {p : α → Bool} {j : Nat} (hj : j < l.length) (h : (l.take j).all p = true) (h1 : p l[j] = true) : (l.take (j + 1)).all p = true := by
  rw [List.take_add_one, List.getElem?_eq_getElem hj, List.all_append, h]
  simp [h1]

theorem all_take_len {α : Type} {l : List α} {p : α → Bool} {j : Nat} (hj : l.length ≤ j) (h : (l.take j).all p = true) : l.all p = true := by
  rwa [List.take_of_length_le hj] at h

theorem all_fails {α : Type} {l : List α} {p : α → Bool} {j : Nat} (hj : j < l.length) (h : p l[j] = false) : l.all p = false := by
  rw [List.all_eq_false]
  exact ⟨l[j], List.getElem_mem hj, by simp [h]⟩

/-- cons.Right -/
theorem f92 (X K PL : LV) (c : Cn) (form : ByteArray) (parts : List ByteArray) (ask : Int → Tm → Bool) (rules : Bool) (hX : ListAre AgAre X c.args) {bs : List Bool} (hK : BoolsAre K bs)
    (hform : (findRow c.name).form = form) (hne : form ≠ ⟨#[]⟩) (hsplit : CallSpec Tryz.prog 160 [.v (.string form), .v (.string ⟨#[44]⟩)] PL) (hPL : StrsAre PL parts) (hpos : ∀ p ∈ parts, 0 < p.size ∧ p.size < 1000) (hsz : parts.length < 1000)
    (hask : ∀ q ∈ c.args.zip parts, ∀ t ∈ q.1.l, ∀ S, IntsAre S t.c.s → CallSpec Tryz.prog (byF (letN q.2)) [.agg [K], .agg (tmC t S)] (.v (.bool (ask (letN q.2) t))))
    (hrules : parts.length = c.args.length → (c.args.zip parts).all (fun q => headOk q.1 q.2) = true → (c.args.any fun a => decide (1000 < a.l.length)) = false → (c.args.zip parts).all (fun q => q.1.l.all (ask (letN q.2))) = true → CallSpec Tryz.prog 162 [.agg [.v (.string c.name), X]] (.v (.bool rules))) :
    CallSpec Tryz.prog 92 [.agg [.v (.string c.name), X], K] (.v (.int .i64 (rightP c.args parts ask rules))) := by
  obtain ⟨xs, hx, hxl, _⟩ := id hX
  obtain ⟨_, hget⟩ := hX.get hx
  obtain ⟨x1, x2, x3, x4, x5⟩ := asList_one hx
  have hp : PL.asList = _ := hPL
  obtain ⟨hK1, hKp, k3, k4, k5⟩ := asList_one hK
  obtain ⟨p1, p2, p3, p4, p5⟩ := asList_one hp
  have hf := f159 c.name
  rw [hform] at hf
  have F := Facts.cons hf (Facts.cons hsplit (Facts.nil Tryz.prog))
  refine CallSpec.of_LW ok Tryz.func92 (by kernel_rfl) rfl (by simp [Tryz.ntmps92]) ?_
  refine LW.sr ok F (by decide) (by simp [x1]; rfl) ?_
  refine LW.sr ok F (by decide) (by simp [x1]; rfl) ?_
  refine LW.seq (LW.sr ok F (by decide) (by simp; rfl) ?_)
  refine LW.cf (by simp [hne]) (LW.skip ?_)
  refine LW.sr ok F (by decide) (by simp [ofFacts_ne]; rfl) ?_
  refine LW.seq (LW.sr ok F (by decide) (by simp [hp, hx, x1]; rfl) ?_)
  by_cases hlen : parts.length = c.args.length
  rotate_left
  · refine LW.ct (by simp [hxl, hlen]; omega) (LW.sr ok F (by decide) (by simp; rfl) (LW.ret ?_))
    show resL _ _ _ = _
    simp [Tryz.f92, resL, resOne, rightP, hlen]
  refine LW.cf (by simp [hxl, hlen]) (LW.skip ?_)
  refine LW.sr ok F (by decide) (by simp; rfl) ?_
  have hzl : (c.args.zip parts).length = xs.length := by rw [List.length_zip, hlen, hxl]; omega
  have hzg : ∀ (j : Nat) (hj : j < xs.length), (c.args.zip parts)[j]'(by omega) = (c.args[j]'(by omega), parts[j]'(by omega)) := fun j hj => by rw [List.getElem_zip]
  -- the heads
  refine LW.seq (LW.sr ok F (by decide) (by simp [hx]; rfl) (LW.block (LW.loop (fun k s => ∃ j, k + j = xs.length ∧ s.t 1 = K ∧ s.t 2 = .ptr 2 1 0 ∧ s.b 2 1 = some [(.v (.string c.name), (0, 0)), (X, (0, 0))] ∧ s.t 6 = PL ∧ s.t 29 = X ∧ s.t 30 = .v (.int .i64 xs.length) ∧ s.t 31 = .v (.int .i64 j) ∧
      s.t 7 = .v (.bool ((c.args.take j).any fun a => decide (1000 < a.l.length))) ∧ ((c.args.zip parts).take j).all (fun q => headOk q.1 q.2) = true)
    (k := xs.length) ⟨0, by simp, by simp, by simp, by simp, by simp, by simp, by simp, by simp, by simp, by simp⟩ ?_)))
  · rintro k s ⟨j, hk, h1, h2, hb, h6, h29, h30, h31, h7, hall⟩
    refine LW.sr ok F (by decide) (by simp [h30, h31]; rfl) ?_
    refine LW.seq ?_
    by_cases hj : j < xs.length
    · have hja : j < c.args.length := by omega
      have hjp : j < parts.length := by omega
      obtain ⟨L, hA, ts, ht, htl, _⟩ := hget j hj hja
      obtain ⟨t1, t2, t3, t4, t5⟩ := asList_one ht
      have hzj := hzg j hj
      have htk : (c.args.take (j + 1)).any (fun a => decide (1000 < a.l.length)) = ((c.args.take j).any (fun a => decide (1000 < a.l.length)) || decide (1000 < c.args[j].l.length)) := by
        rw [List.take_add_one, List.getElem?_eq_getElem hja, List.any_append]; simp
      obtain ⟨hpj, hpj2⟩ := hpos _ (List.getElem_mem hjp)
      have hpp : (parts.map fun p => [LV.v (.string p)])[j]? = some [LV.v (.string parts[j])] := by rw [List.getElem?_map, List.getElem?_eq_getElem hjp]; rfl
      have hm1 : (c.args.take j).any (fun a => decide (1000 < a.l.length)) = true ∨ (c.args.take j).any (fun a => decide (1000 < a.l.length)) = false := by cases (c.args.take j).any (fun a => decide (1000 < a.l.length)) <;> simp
      have hzm := List.getElem_mem (l := c.args.zip parts) (n := j) (by omega)
      generalize hAj : c.args[j] = A at *
      generalize hPj : parts[j] = pj at *
      obtain ⟨c0, hc0⟩ : ∃ c0, pj[0]? = some c0 := ⟨pj[0], by simp [hpj]⟩
      have hl0 : let0 pj = (c0.toNat : Int) := by simp [let0, hc0]
      refine LW.ct (by simp [hj]) (LW.skip ?_)
      refine LW.seq (LW.block ?_)
      refine LW.sr ok F (by decide) (by simp [h29, h31, hx, hj, hA, t1]; rfl) ?_
      have bad : headOk A pj = false → LW Tryz.prog Tryz.f92.ntmps .skip (fun _ _ => True) s → True := fun _ _ => trivial
      have hfin : headOk A pj = false → rightP c.args parts ask rules = 50 := fun hno => by
        have hall' : (c.args.zip parts).all (fun q => headOk q.1 q.2) = false := all_fails (j := j) (by omega) (by rw [hzj]; exact hno)
        simp [rightP, hlen, hall']
      have hgo : headOk A pj = true → ((c.args.zip parts).take (j + 1)).all (fun q => headOk q.1 q.2) = true := fun hyes => all_take_succ (by omega) hall (by rw [hzj]; exact hyes)
      by_cases e1 : (A.array == decide ((c0.toNat : Int) = 97)) = true
      · have e1' : A.array = decide ((c0.toNat : Int) = 97) := by simpa using e1
        by_cases e2 : A.array = true
        · have e3 : (c0.toNat : Int) = 97 := by rw [e2] at e1'; simpa using e1'.symm
          have hyes : headOk A pj = true := by simp [headOk, hl0, e2, e3]
          refine LW.seq (LW.sd mixed ok F (by decide) (by decide +kernel) (by simp [h6, hp, hpp, hjp, hPj, hc0, e2, e3, t1]; rfl) ?_)
          refine LW.cf (by simp) (LW.skip ?_)
          rcases hm1 with hm | hm
          · refine LW.r ok F (by decide) (by simp [h7, hm, t1]; rfl) ?_
            refine LW.r ok F (by decide) (by simp [h31]; rfl) ?_
            refine ⟨k - 1, by omega, j + 1, by omega, by simp [h1], by simp [h2], by simp [hb], by simp [h6], by simp [h29], by simp [h30], by simp [wrap_succ (show j < 9223372036854775807 by omega)], ?_, hgo hyes⟩
            rw [htk, hm]; simp
          · refine LW.r ok F (by decide) (by simp [h7, hm, ht, t1]; rfl) ?_
            refine LW.r ok F (by decide) (by simp [h31]; rfl) ?_
            refine ⟨k - 1, by omega, j + 1, by omega, by simp [h1], by simp [h2], by simp [hb], by simp [h6], by simp [h29], by simp [h30], by simp [wrap_succ (show j < 9223372036854775807 by omega)], ?_, hgo hyes⟩
            rw [htk, hm]; simp [htl]; omega
        · have e2' : A.array = false := by simpa using e2
          have e3 : ¬ (c0.toNat : Int) = 97 := by rw [e2'] at e1'; simpa using e1'.symm
          refine LW.seq (LW.sd mixed ok F (by decide) (by decide +kernel) (by simp [h6, hp, hpp, hjp, hPj, hc0, e2', e3, t1, ht]; rfl) ?_)
          by_cases e4 : A.l.length = 1
          · have hyes : headOk A pj = true := by simp [headOk, hl0, e2', e3, e4]
            refine LW.cf (by simp [htl, e4]) (LW.skip ?_)
            rcases hm1 with hm | hm
            · refine LW.r ok F (by decide) (by simp [h7, hm, t1]; rfl) ?_
              refine LW.r ok F (by decide) (by simp [h31]; rfl) ?_
              refine ⟨k - 1, by omega, j + 1, by omega, by simp [h1], by simp [h2], by simp [hb], by simp [h6], by simp [h29], by simp [h30], by simp [wrap_succ (show j < 9223372036854775807 by omega)], ?_, hgo hyes⟩
              rw [htk, hm]; simp
            · refine LW.r ok F (by decide) (by simp [h7, hm, ht, t1]; rfl) ?_
              refine LW.r ok F (by decide) (by simp [h31]; rfl) ?_
              refine ⟨k - 1, by omega, j + 1, by omega, by simp [h1], by simp [h2], by simp [hb], by simp [h6], by simp [h29], by simp [h30], by simp [wrap_succ (show j < 9223372036854775807 by omega)], ?_, hgo hyes⟩
              rw [htk, hm]; simp [htl]; omega
          · have hno : headOk A pj = false := by simp [headOk, e4, e2']
            refine LW.ct (by simp [htl]; omega) (LW.sr ok F (by decide) (by simp; rfl) (LW.ret ?_))
            show resL _ _ _ = _
            simp [Tryz.f92, resL, resOne, hfin hno]
      · have e1' : (A.array == decide ((c0.toNat : Int) = 97)) = false := by simpa using e1
        have hno : headOk A pj = false := by simp [headOk, hl0, e1']
        refine LW.seq (LW.sd mixed ok F (by decide) (by decide +kernel) (by simp [h6, hp, hpp, hjp, hPj, hc0, e1', t1]; rfl) ?_)
        refine LW.ct (by simp) (LW.sr ok F (by decide) (by simp; rfl) (LW.ret ?_))
        show resL _ _ _ = _
        simp [Tryz.f92, resL, resOne, hfin hno]
    · refine LW.cf (by simp [hj]) (LW.exit ?_)
      have hjn : xs.length ≤ j := by omega
      have hheads := all_take_len (by omega) hall
      have hlong : (c.args.take j).any (fun a => decide (1000 < a.l.length)) = c.args.any fun a => decide (1000 < a.l.length) := by rw [List.take_of_length_le (by omega)]
      rw [hlong] at h7
      clear hall hlong
      refine LW.seq (LW.sr ok F (by decide) (by simp [h7]; rfl) ?_)
      cases hany : c.args.any fun a => decide (1000 < a.l.length) with
      | true =>
        refine LW.ct (by simp [hany]) (LW.sr ok F (by decide) (by simp; rfl) (LW.ret ?_))
        show resL _ _ _ = _
        simp [Tryz.f92, resL, resOne, rightP, hlen, hheads, hany]
      | false =>
      refine LW.cf (by simp [hany]) (LW.skip ?_)
      have hshort : ∀ a ∈ c.args, a.l.length ≤ 1000 := fun a ha => by
        have := List.any_eq_false.1 hany a ha
        simpa using this
      -- what is asked of the terms
      refine LW.seq (LW.sr ok F (by decide) (by simp [h2, hb, hx]; rfl) (LW.block (LW.loop (fun k s => ∃ j, k + j = xs.length ∧ s.t 1 = K ∧ s.t 2 = .ptr 2 1 0 ∧ s.b 2 1 = some [(.v (.string c.name), (0, 0)), (X, (0, 0))] ∧ s.t 6 = PL ∧ s.t 66 = X ∧ s.t 67 = .v (.int .i64 xs.length) ∧ s.t 68 = .v (.int .i64 j) ∧
          ((c.args.zip parts).take j).all (fun q => q.1.l.all (ask (letN q.2))) = true)
        (k := xs.length) ⟨0, by simp, by simp [h1], by simp [h2], by simp [hb], by simp [h6], by simp, by simp, by simp, by simp⟩ ?_)))
      clear hk h30 h31 h29 h7 hj hjn h1 h2 hb h6
      clear s k j
      rintro k s ⟨j, hk, h1, h2, hb, h6, h66, h67, h68, hall⟩
      refine LW.sr ok F (by decide) (by simp [h67, h68]; rfl) ?_
      refine LW.seq ?_
      by_cases hj : j < xs.length
      · have hja : j < c.args.length := by omega
        have hjp : j < parts.length := by omega
        obtain ⟨L, hA, hTL⟩ := hget j hj hja
        obtain ⟨ts, ht, htl, _⟩ := id hTL
        obtain ⟨_, htget⟩ := hTL.get ht
        obtain ⟨t1, t2, t3, t4, t5⟩ := asList_one ht
        have hzj := hzg j hj
        obtain ⟨hpj, hpj2⟩ := hpos _ (List.getElem_mem hjp)
        have hsj := hshort _ (List.getElem_mem hja)
        have hpp : (parts.map fun p => [LV.v (.string p)])[j]? = some [LV.v (.string parts[j])] := by rw [List.getElem?_map, List.getElem?_eq_getElem hjp]; rfl
        have hzm : (c.args[j], parts[j]) ∈ c.args.zip parts := by
          have := List.getElem_mem (l := c.args.zip parts) (n := j) (by omega)
          rwa [hzj] at this
        have hasks := hask _ hzm
        simp only at hasks
        generalize hAj : c.args[j] = A at *
        generalize hPj : parts[j] = pj at *
        obtain ⟨c0, hc0⟩ : ∃ c0, pj[pj.size - 1]? = some c0 := ⟨pj[pj.size - 1], by rw [getElem?_pos]⟩
        have hl0 : letN pj = (c0.toNat : Int) := by simp [letN, hc0]
        rw [hl0] at hasks
        have hfin : ∀ t ∈ A.l, ask (c0.toNat : Int) t = false → rightP c.args parts ask rules = 50 := fun t htm hno => by
          have h8 : A.l.all (ask (letN pj)) = false := by
            rw [hl0, List.all_eq_false]
            exact ⟨t, htm, by simp [hno]⟩
          have hall' : (c.args.zip parts).all (fun q => q.1.l.all (ask (letN q.2))) = false := all_fails (j := j) (by omega) (by rw [hzj]; exact h8)
          simp [rightP, hlen, hheads, hany, hall']
        have hgo : A.l.all (ask (c0.toNat : Int)) = true → ((c.args.zip parts).take (j + 1)).all (fun q => q.1.l.all (ask (letN q.2))) = true := fun hyes => all_take_succ (by omega) hall (by rw [hzj]; simp only [hl0]; exact hyes)
        have F2 := Facts.cons (f161 K (c0.toNat : Int) hK1 hKp) F
        have w1 : IntKind.i64.wrap ((pj.size : Int) - 1) = (pj.size : Int) - 1 := by
          exact wrap64 (by omega) (by omega)
        have w2 : 1 ≤ (pj.size : Int) := by omega
        have w3 : ((pj.size : Int) - 1).toNat = pj.size - 1 := by omega
        refine LW.ct (by simp [hj]) (LW.skip ?_)
        refine LW.seq (LW.block ?_)
        refine LW.sr ok F (by decide) (by simp [h66, h68, hx, hj, hA, t1]; rfl) ?_
        refine LW.sd mixed ok F2 (by decide) (by decide +kernel) (by simp [h1, h6, hp, hpp, hjp, hPj, hK1, hKp, k4, w1, w2, w3, hc0]; rfl) ?_
        refine LW.sr ok F (by decide) (by simp [ht, t1]; rfl) ?_
        refine LW.block (LW.loop (fun k2 s2 => ∃ i, k2 + i = ts.length ∧ s2.t 1 = K ∧ s2.t 2 = .ptr 2 1 0 ∧ s2.b 2 1 = some [(.v (.string c.name), (0, 0)), (X, (0, 0))] ∧ s2.t 6 = PL ∧ s2.t 66 = X ∧ s2.t 67 = .v (.int .i64 xs.length) ∧ s2.t 68 = .v (.int .i64 j) ∧
            s2.t 12 = .fn (byF (c0.toNat : Int)) [.agg [K]] [] ∧ s2.t 88 = L ∧ s2.t 89 = .v (.int .i64 ts.length) ∧ s2.t 90 = .v (.int .i64 i) ∧ (A.l.take i).all (ask (c0.toNat : Int)) = true)
          (k := ts.length) ⟨0, by simp, by simp [h1], by simp [h2], by simp [hb], by simp [h6], by simp [h66], by simp [h67], by simp [h68], by simp, by simp, by simp, by simp, by simp⟩ ?_)
        rintro k2 s2 ⟨i, hk2, g1, g2, gb, g6, g66, g67, g68, g12, g88, g89, g90, gall⟩
        refine LW.sr ok F (by decide) (by simp [g89, g90]; rfl) ?_
        refine LW.seq ?_
        by_cases hi : i < ts.length
        · have hia : i < A.l.length := by omega
          obtain ⟨S, he, hS⟩ := htget i hi hia
          have hat := hasks _ (List.getElem_mem hia) S hS
          have hfi := hfin _ (List.getElem_mem hia)
          have hgi := fun h => all_take_succ (j := i) hia gall h
          obtain ⟨s1, s2', s3, s4, s5⟩ := asList_one hS
          generalize hti : A.l[i] = tm at *
          have F3 := Facts.cons hat (Facts.nil Tryz.prog)
          refine LW.ct (by simp [hi]) (LW.skip ?_)
          refine LW.seq (LW.block ?_)
          refine LW.sr ok F (by decide) (by simp [g88, g90, ht, hi, he, tmC, s1]; rfl) ?_
          refine LW.sr ok F3 (by decide) (by simp [g12, tmC, s2', hKp]; rfl) ?_
          cases hak : ask (c0.toNat : Int) tm with
          | true =>
            refine LW.cf (by simp [hak]) (LW.skip ?_)
            refine LW.r ok F (by decide) (by simp [g90]; rfl) ?_
            exact ⟨k2 - 1, by omega, i + 1, by omega, by simp [g1], by simp [g2], by simp [gb], by simp [g6], by simp [g66], by simp [g67], by simp [g68], by simp [g12], by simp [g88], by simp [g89], by simp [wrap_succ (show i < 9223372036854775807 by omega)], hgi hak⟩
          | false =>
            refine LW.ct (by simp [hak]) (LW.sr ok F (by decide) (by simp; rfl) (LW.ret ?_))
            show resL _ _ _ = _
            simp [Tryz.f92, resL, resOne, hfi hak]
        · refine LW.cf (by simp [hi]) (LW.exit ?_)
          have hyes := all_take_len (by omega) gall
          refine LW.r ok F (by decide) (by simp [g68]; rfl) ?_
          exact ⟨k - 1, by omega, j + 1, by omega, by simp [g1], by simp [g2], by simp [gb], by simp [g6], by simp [g66], by simp [g67], by simp [wrap_succ (show j < 9223372036854775807 by omega)], hgo hyes⟩
      · refine LW.cf (by simp [hj]) (LW.exit ?_)
        have hterms := all_take_len (by omega) hall
        have F2 := Facts.cons (hrules hlen hheads hany hterms) F
        refine LW.seq (LW.sr ok F2 (by decide) (by simp [h2, hb, x1, x2]; rfl) ?_)
        cases rules with
        | true =>
          refine LW.cf (by simp) (LW.skip ?_)
          refine LW.sr ok F (by decide) (by simp; rfl) (LW.retk ?_)
          simp [Tryz.f92, resL, resOne, rightP, hlen, hheads, hany, hterms]
        | false =>
          refine LW.ct (by simp) (LW.sr ok F (by decide) (by simp; rfl) (LW.ret ?_))
          show resL _ _ _ = _
          simp [Tryz.f92, resL, resOne, rightP, hlen, hheads, hany, hterms]
end Go.LI.T
namespace Go.LI.T
open Go Go.LI Go.Proofs
set_option maxRecDepth 100000
set_option maxHeartbeats 4000000

/-- Can a whole number be a value? -/
def valOk (v : V) : Bool := decide (v.s = []) && decide (-1000000 ≤ v.n) && decide (v.n ≤ 1000000)
def kindsL (es : List (List LV)) : List (List LV) := es.map fun e => [e.getD 0 .dead]
/-- The value of a variable. -/
def valAt (vs : List V) (k : Int) : V := vs.getD k.toNat ⟨false, 0, []⟩

def holdsR (same : Bool) (re : Int) (okv : Bool) (b : Bool) (e : Int) : Bool × Int :=
  if same = false then (false, 51) else if re ≠ 0 then (false, re) else if okv = false then (false, 1) else (b, e)

def resBE (q : Bool × Int) : LV := .tup [.v (.bool q.1), .v (.int .i64 q.2)]

/-- tool.Holds -/
theorem f44 (X L VL : LV) (c : Cn) (es : List (List LV)) (vs : List V) (fam : ByteArray) (g : Nat) (re e : Int) (b : Bool) (ks : List Int) (hX : X.one = true) (hXp : X.plain = true) (hL : L.asList = some es) (hv : ListAre ValAre L vs) (hlen : es.length < 100000000)
    (hright : (findRow c.name).fam = fam → CallSpec Tryz.prog 92 [.agg [.v (.string c.name), X], seqV (kindsL es)] (.v (.int .i64 re)))
    (hvars : (findRow c.name).fam = fam → re = 0 → CallSpec Tryz.prog 93 [.agg [.v (.string c.name), X]] VL ∧ IntsAre VL ks ∧ ks.length < 1000000 ∧ ∀ k ∈ ks, 0 ≤ k ∧ k < es.length ∧ (valAt vs k).set = false)
    (hm : (findRow c.name).fam = fam → re = 0 → (ks.all fun k => valOk (valAt vs k)) = true → CallSpec Tryz.prog 95 [.agg [.v (.string c.name), X], L, .v (.func (.func g) #[] #[])] (.tup [.v (.bool b), .v (.int .i64 e)])) :
    CallSpec Tryz.prog 44 [.agg [.v (.string c.name), X], L, .v (.string fam), .v (.func (.func g) #[] #[])] (resBE (holdsR (decide ((findRow c.name).fam = fam)) re (ks.all fun k => valOk (valAt vs k)) b e)) := by
  obtain ⟨_, hget⟩ := hv.get hL
  have hvl : es.length = vs.length := (hv.get hL).1
  obtain ⟨l1, l2, l3, l4, l5⟩ := asList_one hL
  have F0 := Facts.nil Tryz.prog
  have F1 := Facts.cons (f91 c.name) F0
  refine CallSpec.of_LW ok Tryz.func44 (by kernel_rfl) rfl (by simp [Tryz.ntmps44]) ?_
  refine LW.sr ok F0 (by decide) (by simp [hX]; rfl) ?_
  refine LW.seq (LW.sr ok F1 (by decide) (by simp [hX]; rfl) ?_)
  by_cases hf : (findRow c.name).fam = fam
  rotate_left
  · refine LW.ct (by simp [hf]) (LW.sr ok F0 (by decide) (by simp; rfl) (LW.ret ?_))
    show resL _ _ _ = _
    simp [Tryz.f44, resL, resOne, resBE, holdsR, hf]
  refine LW.cf (by simp [hf]) (LW.skip ?_)
  refine LW.sr ok F0 (by decide) (by simp; rfl) ?_
  have hkind : ∀ (i : Nat) (hi : i < es.length), ∃ (v : Bool) (P Q : LV), es[i] = [.v (.bool v), P, Q] ∧ P.one = true ∧ Q.one = true := fun i hi => by
    obtain ⟨S, he, hS⟩ := hget i hi (by omega)
    obtain ⟨s1, _⟩ := asList_one hS
    exact ⟨_, _, _, he, rfl, s1⟩
  refine LW.seq (LW.sr ok F0 (by decide) (by simp [hL]; rfl) (LW.block (LW.loop (fun k s => ∃ j, k + j = es.length ∧ s.t 1 = L ∧ s.t 2 = .v (.string fam) ∧ s.t 3 = .v (.func (.func g) #[] #[]) ∧ s.t 4 = .ptr 4 1 0 ∧ s.b 4 1 = some [(.v (.string c.name), (0, 0)), (X, (0, 0))] ∧ s.t 21 = L ∧ s.t 22 = .v (.int .i64 es.length) ∧ s.t 23 = .v (.int .i64 j) ∧ Grows s 10 [32] (kindsL (es.take j)))
    (k := es.length) ⟨0, by simp, by simp, by simp, by simp, by simp, by simp, by simp, by simp, by simp, .nil (by simp [kindsL]) (by simp)⟩ ?_)))
  rintro k s ⟨j, hk, h1, h2, h3, h4, hb, h21, h22, h23, h10⟩
  refine LW.sr ok F0 (by decide) (by simp [h22, h23]; rfl) ?_
  refine LW.seq ?_
  by_cases hj : j < es.length
  · obtain ⟨v, P, Q, he, hp1, hq1⟩ := hkind j hj
    refine LW.ct (by simp [hj]) (LW.skip ?_)
    refine LW.seq (LW.block ?_)
    refine LW.sr ok F0 (by decide) (by simp [h21, h23, hL, hj, he, hp1, hq1]; rfl) ?_
    obtain ⟨tk, w, happ, htk, hT⟩ := appendL_grows h10 31 [[.v (.bool v)]] ⟨.bool, 1, 1, [.bool false], []⟩ (by simp) (by intro e he; obtain ⟨x, _, rfl⟩ := List.mem_map.1 he; rfl) (by simp) (by simp) (by simp) (by simp [kindsL]; omega) (by simp [kindsL]; omega) (by simp)
    refine LW.r ok F0 (by decide) (by simp; rw [happ _ _ (by simp) (by simp)]; simp; rfl) ?_
    refine LW.r ok F0 (by decide) (by simp [h23]; rfl) ?_
    refine ⟨k - 1, by omega, j + 1, by omega, by simp [h1], by simp [h2], by simp [h3], by simp [h4], by simp [hb], by simp [h21], by simp [h22], by simp [wrap_succ (show j < 9223372036854775807 by omega)], Grows.new (tk := tk) (v := w) ?_ ?_ (by simp) hT htk (by simp)⟩
    · intro h0
      have := congrArg List.length h0
      simp only [kindsL, List.length_map, List.length_take, List.length_nil] at this
      omega
    · simp [kindsL, List.take_add_one, hj, he]
  refine LW.cf (by simp [hj]) (LW.exit ?_)
  have hjn : j = es.length := by omega
  subst hjn
  have h10v := h10.val
  rw [List.take_length] at h10v
  have hkl := seqV_asList (kindsL es)
  obtain ⟨k1, k2, k3, k4, k5⟩ := asList_one hkl
  have F2 := Facts.cons (hright hf) F0
  refine LW.seq (LW.sr ok F2 (by decide) (by simp [h4, hb, h10v, hX, hXp, k2]; rfl) (LW.sr ok F0 (by decide) (by simp; rfl) ?_))
  by_cases hre : re = 0
  rotate_left
  · refine LW.ct (by simp [hre]) (LW.sr ok F0 (by decide) (by simp; rfl) (LW.ret ?_))
    show resL _ _ _ = _
    simp [Tryz.f44, resL, resOne, resBE, holdsR, hf, hre]
  refine LW.cf (by simp [hre]) (LW.skip ?_)
  obtain ⟨hV, hks, hkl2, hkin⟩ := hvars hf hre
  have hks' : VL.asList = _ := hks
  have F3 := Facts.cons hV F0
  refine LW.seq (LW.sr ok F3 (by decide) (by simp [h4, hb, hX, hXp, hks']; rfl) (LW.block (LW.loop (fun k s => ∃ j, k + j = ks.length ∧ s.t 1 = L ∧ s.t 3 = .v (.func (.func g) #[] #[]) ∧ s.t 4 = .ptr 4 1 0 ∧ s.b 4 1 = some [(.v (.string c.name), (0, 0)), (X, (0, 0))] ∧ s.t 40 = VL ∧ s.t 41 = .v (.int .i64 ks.length) ∧ s.t 42 = .v (.int .i64 j) ∧ (ks.take j).all (fun k => valOk (valAt vs k)) = true)
    (k := ks.length) ⟨0, by simp, by simp [h1], by simp [h3], by simp [h4], by simp [hb], by simp, by simp, by simp, by simp⟩ ?_)))
  clear hj hk h1 h2 h3 h4 hb h21 h22 h23 h10 h10v
  clear s k
  rintro k s ⟨j, hk, h1, h3, h4, hb, h40, h41, h42, hall⟩
  refine LW.sr ok F0 (by decide) (by simp [h41, h42]; rfl) ?_
  refine LW.seq ?_
  by_cases hj : j < ks.length
  · obtain ⟨q1, q2, q3⟩ := hkin _ (List.getElem_mem hj)
    have hkk : (ks.map fun n => [LV.v (.int .i64 n)])[j]? = some [LV.v (.int .i64 ks[j])] := by rw [List.getElem?_map, List.getElem?_eq_getElem hj]; rfl
    have hgo := fun h => all_take_succ (p := fun k => valOk (valAt vs k)) hj hall h
    have hno := fun h => all_fails (p := fun k => valOk (valAt vs k)) hj h
    generalize hkj : ks[j] = kj at *
    have hkn : kj.toNat < es.length := by omega
    have hkz : (kj.toNat : Int) = kj := by omega
    obtain ⟨S, he, hS⟩ := hget kj.toNat hkn (by omega)
    have hva : valAt vs kj = vs[kj.toNat] := by simp [valAt, List.getD, show kj.toNat < vs.length by omega]
    rw [← hva] at he hS
    have hr := f94 S (valAt vs kj) hS q3
    obtain ⟨s1, s2, s3, s4, s5⟩ := asList_one hS
    generalize valAt vs kj = v at *
    have F4 := Facts.cons hr F0
    refine LW.ct (by simp [hj]) (LW.skip ?_)
    refine LW.seq (LW.block ?_)
    refine LW.sr ok F0 (by decide) (by simp [h40, h42, hks', hj, hkj]; rfl) ?_
    refine LW.sr ok F4 (by decide) (by simp [h1, hL, q1, q2, hkn, he, valC, s1, s2]; rfl) ?_
    cases hok : valOk v with
    | true =>
      refine LW.cf (by unfold valOk at hok; simp; simpa using hok) (LW.skip ?_)
      refine LW.r ok F0 (by decide) (by simp [h42]; rfl) ?_
      exact ⟨k - 1, by omega, j + 1, by omega, by simp [h1], by simp [h3], by simp [h4], by simp [hb], by simp [h40], by simp [h41], by simp [wrap_succ (show j < 9223372036854775807 by omega)], hgo hok⟩
    | false =>
      refine LW.ct (by unfold valOk at hok; simp; by_cases hz : v.s = [] <;> simp [hz] at hok ⊢; omega) (LW.sr ok F0 (by decide) (by simp; rfl) (LW.ret ?_))
      show resL _ _ _ = _
      simp [Tryz.f44, resL, resOne, resBE, holdsR, hf, hre, hno hok]
  refine LW.cf (by simp [hj]) (LW.exit ?_)
  have hjn : j = ks.length := by omega
  subst hjn
  rw [List.take_length] at hall
  have F5 := Facts.cons (hm hf hre hall) F0
  refine LW.sr ok F5 (by decide) (by simp [h1, h3, h4, hb, hX, hXp, l2]; rfl) (LW.retk ?_)
  simp [Tryz.f44, resL, resOne, resBE, holdsR, hf, hre, hall]
end Go.LI.T
namespace Go.LI.T
open Go Go.LI Go.Proofs
set_option maxRecDepth 100000
set_option linter.unusedSimpArgs false
set_option maxHeartbeats 4000000

def numTm (n : Int) : Tm := ⟨-1, ⟨false, n, []⟩⟩
def numAg (a : Bool) (ns : List Int) : Ag := ⟨a, ns.map numTm⟩
def numsC (ns : List Int) : List (List LV) := ns.map fun n => tmC (numTm n) nilV

def TI64 : TI := ⟨.struct [(0, 1), (1, 3)], 4, 48, [.int .i64 0, .bool false, .int .i64 0, .slice none 0 0], [3, 53]⟩

/-- law's numbers -/
theorem f43 (L : LV) (ns : List Int) (hL : IntsAre L ns) (hlen : ns.length < 100000) : CallSpec Tryz.prog 43 [L] (.agg [.v (.bool true), seqV (numsC ns)]) := by
  have F0 := Facts.nil Tryz.prog
  obtain ⟨q1, q2, q3, q4, q5⟩ := asList_one hL
  have hL' : L.asList = some (ns.map fun n => [LV.v (.int .i64 n)]) := hL
  refine CallSpec.of_LW ok Tryz.func43 (by kernel_rfl) rfl (by simp [Tryz.ntmps43]) ?_
  refine LW.sr ok F0 (by decide) (by simp; rfl) ?_
  refine LW.sr ok F0 (by decide) (by simp; rfl) ?_
  refine LW.seq (LW.sr ok F0 (by decide) (by simp; rfl) (LW.block (LW.loop (fun k s => ∃ j v o, k + j = ns.length ∧ s.t 0 = L ∧ s.t 2 = .ptr 2 1 0 ∧ (∃ c, s.b 2 1 = some c ∧ c.length = 2) ∧ s.t 3 = .ptr 3 1 0 ∧ s.b 3 1 = some [(.v (.bool true), (0, 0)), (v, o)] ∧ s.t 4 = .v (.int .i64 j) ∧ GrowsV v o s.tv [22] (numsC (ns.take j)))
    (k := ns.length) ⟨0, nilV, (0, 0), by simp, by simp, by simp, by simp, by simp, by simp [nilV], by simp, .inl ⟨by simp [numsC], rfl⟩⟩ ?_)))
  rintro k s ⟨j, v, o, hk, g0, g2, ⟨c2, g2b, g2l⟩, g3, g3b, g4, hg⟩
  refine LW.seq (LW.sr ok F0 (by decide) (by simp [g0, g4, hL', q3]; rfl) ?_)
  by_cases hj : j < ns.length
  · refine LW.ct (by simp [hj]) (LW.skip ?_)
    obtain ⟨n, hn⟩ : ∃ n, ns[j] = n := ⟨_, rfl⟩
    refine LW.seq (LW.block ?_)
    have hsz : ∀ e ∈ numsC (ns.take j), e.length = 4 := by
      intro e he
      obtain ⟨x, _, rfl⟩ := List.mem_map.1 he
      rfl
    have hl2 : (numsC (ns.take j)).length = j := by simp [numsC]; omega
    obtain ⟨tk, w, happ, htk, hT⟩ := appendL_growsV hg 21 [tmC (numTm n) nilV] TI64 (by simp) hsz (by simp [tmC, TI64]) (by simp [TI64]) (by simp [TI64]) (by rw [hl2]; simp [TI64]; omega) (by rw [hl2]; simp; omega) (by simp)
    have hT' : tk = 22 := by simpa using hT
    refine LW.d mixed ok F0 (by decide) (by decide +kernel) (by simp [g0, g3, g3b, g4, q1, q2, q3, hL', hj, hn, -next_append]; rw [next_append]; simp [tmC, numTm, nilV, TI64] at happ; simp [happ, g3, g3b]; rfl) ?_
    refine LW.r ok F0 (by decide) (by simp [g4]; rfl) ?_
    refine ⟨k - 1, by omega, j + 1, .list (numsC (ns.take j) ++ [tmC (numTm n) nilV]), (tk, w), by omega, by simp [g0], by simp [g2], ⟨c2, by simp [g2b], g2l⟩, by simp [g3], by simp [g3b, tmC, numTm, nilV], by simp [wrap_succ (show j < 9223372036854775807 by omega)], GrowsV.new (tk := tk) (w := w) ?_ ?_ hT htk (by simp [hT'])⟩
    · intro h0
      have := congrArg List.length h0
      simp only [numsC, List.length_map, List.length_take, List.length_nil] at this
      omega
    · simp [numsC, List.take_add_one, hj, hn, tmC, numTm, nilV]
  refine LW.cf (by simp [hj]) (LW.exit ?_)
  have hjn : j = ns.length := by omega
  subst hjn
  rw [List.take_length] at hg
  have hv := hg.val
  subst hv
  obtain ⟨v1, v2, v3, v4, v5⟩ := asList_one (seqV_asList (numsC ns))
  refine LW.sr ok F0 (by decide) (by simp [g3, g3b, g2, g2b, g2l, v1, v2, v3, v4, v5]; rfl) (LW.retk ?_)
  simp [Tryz.f43, resL, resOne, g2, g2b, g2l, v2]
end Go.LI.T
/- Functions of the runtime's own, and methods. -/
namespace Go.LI.T
open Go Go.LI Go.Proofs

theorem rdv {Pr : Nat → Nat → Prop} {W : World} {x u : Value} (h : Rd Pr W (.v x) u) : u = x := by cases h; rfl

theorem two {Pr : Nat → Nat → Prop} {W : World} {x y : Value} {us : List Value} (hl : [LV.v x, LV.v y].length = us.length) (hr : ∀ (i : Nat) l u, [LV.v x, LV.v y][i]? = some l → us[i]? = some u → Rd Pr W l u) : us = [x, y] := by
  match us, hl with
  | [a, b], _ =>
    have h0 := rdv (hr 0 _ a rfl rfl)
    have h1 := rdv (hr 1 _ b rfl rfl)
    rw [h0, h1]

theorem three' {Pr : Nat → Nat → Prop} {W : World} {x y z : Value} {us : List Value} (hl : [LV.v x, LV.v y, LV.v z].length = us.length) (hr : ∀ (i : Nat) l u, [LV.v x, LV.v y, LV.v z][i]? = some l → us[i]? = some u → Rd Pr W l u) : us = [x, y, z] := by
  match us, hl with
  | [a, b, c], _ =>
    have h0 := rdv (hr 0 _ a rfl rfl)
    have h1 := rdv (hr 1 _ b rfl rfl)
    have h2 := rdv (hr 2 _ c rfl rfl)
    rw [h0, h1, h2]

/-- bits.Add64 -/
theorem f391 (x y c : Int) (hx : 0 ≤ x) (hy : 0 ≤ y) (hc0 : 0 ≤ c) (hc : c ≤ 1) :
    CallSpec Tryz.prog 391 [.v (.int .u64 x), .v (.int .u64 y), .v (.int .u64 c)] (.tup [.v (.int .u64 ((x + y + c) % 18446744073709551616)), .v (.int .u64 ((x + y + c) / 18446744073709551616))]) := by
  right
  intro Pr W us hl hr
  obtain rfl := three' hl hr
  refine ⟨_, by rw [run_callFunc_extern (fn := Tryz.f391) (by kernel_rfl) (by kernel_rfl) (by kernel_rfl) (by kernel_rfl) (e := add64Entry) (by kernel_rfl), run_add64 x y c hx hy hc0 hc]; rfl, ?_⟩
  exact .tup (us := [_, _]) rfl fun i l u h1 h2 => by
    match i with
    | 0 => cases h1; cases h2; exact .v _ rfl
    | 1 => cases h1; cases h2; exact .v _ rfl
    | i + 2 => simp at h1

def countB (s : ByteArray) (c : UInt8) : Int := s.foldl (fun n x => if x == c then n + 1 else n) ((0 : Nat) : Int)

theorem run_count {P : Program} (s : ByteArray) (c : Int) (w : World) : (Extern.BytealgCount.count #[.string s, .int .u8 c]).run P w = .ok (.int .i64 (countB s c.toNat.toUInt8)) w := by
  change Sem.run P (do
    let b ← Extern.Bytes.bytesOf (.string s)
    let c' ← Extern.Bytes.asByte (.int .u8 c)
    pure (goInt (b.foldl (fun n x => if x == c' then n + 1 else n) (0 : Nat)))) w = _
  simp only [Extern.Bytes.bytesOf, Extern.Bytes.asByte, Sem.run_bind, Sem.run_pure, Result.andThen]
  simp [goInt, countB]

/-- bytealg.CountString -/
theorem f313 (s : ByteArray) (c : Int) : CallSpec Tryz.prog 313 [.v (.string s), .v (.int .u8 c)] (.v (.int .i64 (countB s c.toNat.toUInt8))) := by
  right
  intro Pr W us hl hr
  obtain rfl := two hl hr
  refine ⟨.int .i64 (countB s c.toNat.toUInt8), ?_, .v _ rfl⟩
  rw [run_callFunc_extern (fn := Tryz.f313) (by kernel_rfl) (by kernel_rfl) (by kernel_rfl) (by kernel_rfl) (e := Extern.BytealgCount.count) (by kernel_rfl), run_count]
  rfl

/-- bytealg.IndexByteString -/
theorem f350 (s : ByteArray) (c : Int) : CallSpec Tryz.prog 350 [.v (.string s), .v (.int .u8 c)] (.v (.int .i64 (firstIdx s c.toNat.toUInt8))) := by
  right
  intro Pr W us hl hr
  obtain rfl := two hl hr
  refine ⟨.int .i64 (firstIdx s c.toNat.toUInt8), ?_, .v _ rfl⟩
  rw [run_callFunc_extern (fn := Tryz.f350) (by kernel_rfl) (by kernel_rfl) (by kernel_rfl) (by kernel_rfl) (e := Extern.BytealgIndexByte.indexByte) (by kernel_rfl), run_indexByte_string]
  rfl

theorem agg2 {Pr : Nat → Nat → Prop} {W : World} {x y : LV} {u : Value} (h : Rd Pr W (.agg [x, y]) u) : ∃ a b, u = .agg #[a, b] ∧ Rd Pr W x a ∧ Rd Pr W y b := by
  cases h with
  | agg hl h1 hh =>
    rename_i us
    match us, hl with
    | [a, b], _ => exact ⟨a, b, rfl, hh 0 _ _ rfl rfl, hh 1 _ _ rfl rfl⟩

theorem run_eqInt (d : Nat) (k k' : IntKind) (a b : Int) (h : k = k') (W : World) : (Op.equalIn (d + 1) 2 (.int k a) (.int k' b)).run Tryz.prog W = .ok (a == b) W := by
  subst h
  simp [Op.equalIn, run_underlying Tryz.underlying2]

theorem run_part2 (cs : Array Value) (i : Nat) (v : Value) (h : cs[i]? = some v) (W : World) : (Go.part 2 cs i).run Tryz.prog W = .ok v W := by
  have : (isAgg 2).run Tryz.prog W = .ok false W := by simp [isAgg, run_underlying Tryz.underlying2]
  simp [Go.part, this, h]

theorem eqLs_cons {x : LV} {r ys : List LV} {b : Bool} (h : eqLs (x :: r) ys = some b) : ∃ k a c r' z, x = .v (.int k a) ∧ ys = .v (.int k c) :: r' ∧ eqLs r r' = some z ∧ b = (decide (a = c) && z) := by
  cases x <;> try (simp [eqLs] at h; done)
  rename_i v
  cases v <;> try (simp [eqLs] at h; done)
  rename_i k a
  cases ys with
  | nil => simp [eqLs] at h
  | cons y r' =>
    cases y <;> try (simp [eqLs] at h; done)
    rename_i w
    cases w <;> try (simp [eqLs] at h; done)
    rename_i k' c
    simp only [eqLs] at h
    split at h
    · rename_i hk
      subst hk
      obtain ⟨z, hz, rfl⟩ := Option.map_eq_some_iff.1 h
      exact ⟨k, a, c, r', z, rfl, rfl, hz, rfl⟩
    · cases h

theorem eqLs_nil {ys : List LV} {b : Bool} (h : eqLs [] ys = some b) : ys = [] ∧ b = true := by
  cases ys with
  | nil => simp only [eqLs] at h; cases h; exact ⟨rfl, rfl⟩
  | cons y r => simp [eqLs] at h

/-- Two ranges are compared. -/
theorem eq84 : EqOk Tryz.prog 84 2 := by
  refine ⟨by kernel_rfl, fun Pr W xs ys u v b hn hb hu hv => ?_⟩
  have hstood : Tryz.prog.stoodInHeld 84 = false := by kernel_rfl
  match xs, hn with
  | [x, y], _ =>
    obtain ⟨k, a, c, r', z, rfl, rfl, hz, rfl⟩ := eqLs_cons hb
    obtain ⟨k2, a2, c2, r2, z2, rfl, rfl, hz2, rfl⟩ := eqLs_cons hz
    obtain ⟨rfl, rfl⟩ := eqLs_nil hz2
    obtain ⟨p, q, rfl, h1, h2⟩ := agg2 hu
    obtain ⟨p', q', rfl, h3, h4⟩ := agg2 hv
    rw [rdv h1, rdv h2, rdv h3, rdv h4]
    have hd : Op.maxDepth = 9998 + 1 + 1 := rfl
    unfold Op.equal
    rw [hd, Op.equalIn]
    simp only [Sem.run_bind, run_underlying Tryz.underlying84, Result.andThen_ok]
    have g0 : ∀ p q : Value, (Go.part 2 #[p, q] 0).run Tryz.prog W = .ok p W := fun p q => run_part2 #[p, q] 0 p rfl W
    have g1 : ∀ p q : Value, (Go.part 2 #[p, q] 1).run Tryz.prog W = .ok q W := fun p q => run_part2 #[p, q] 1 q rfl W
    have ge : ∀ (k : IntKind) (a b : Int), (Op.equalIn (9998 + 1) 2 (.int k a) (.int k b)).run Tryz.prog W = .ok (a == b) W := fun k a b => run_eqInt 9998 k k a b rfl W
    simp [hstood, g0, g1, ge]
    by_cases h5 : a = c
    · by_cases h6 : a2 = c2
      · simp [h5, h6]
      · simp [h5, h6]
    · simp [h5]

/-- A method with a receiver that is a value, no pointer. -/
theorem methOk_of {P : Program} {t f : Nat} {name : String} {i : TypeInfo} {m : Method} {d : TypeDesc} (hn : P.types.size + Made.depth ≠ 0) (hi : P.info? t = some i) (hm : i.methods.find? (fun x => x.name == name) = some m) (hp : m.path = #[]) (hf : m.func = some (f, false))
    (hu : P.underlying t = some d) (hd : ∀ e, d ≠ .pointer e) : MethOk P t name f := by
  intro v W
  obtain ⟨k, hk⟩ := Nat.exists_eq_succ_of_ne_zero hn
  rw [hk]
  have h1 : (typeInfo t).run P W = .ok i W := by simp [typeInfo, hi]
  have h2 : (underlying t).run P W = .ok d W := run_underlying hu W
  unfold method
  simp only [Sem.run_bind, h1, Result.andThen_ok, hm, hp, hf, Sem.run_pure, follow, receiverAt, h2]
  cases d <;> simp_all [Place.get]
end Go.LI.T
