/- Texts of a small semantics over the model and of specifications of functions, joined: Data, Names, S231, S236, S166, S220, S158, S91, S95, S94, S161, S274. -/
import Derived.Test.YtlnndndpaakjfaaGreatDoorP18
set_option linter.unusedSimpArgs false
set_option linter.unusedVariables false
/- The program's data, as it is here, and when a value reads as it. -/
namespace Go.LI.T
open Go Go.LI Go.Proofs

structure V where
  set : Bool
  n : Int
  s : List Int
structure Tm where
  var : Int
  c : V
structure Ag where
  array : Bool
  l : List Tm
structure Cn where
  name : ByteArray
  args : List Ag

def IntsAre (l : LV) (ns : List Int) : Prop := l.asList = some (ns.map fun n => [LV.v (.int .i64 n)])

def valC (v : V) (S : LV) : List LV := [.v (.bool v.set), .v (.int .i64 v.n), S]
def tmC (t : Tm) (S : LV) : List LV := [.v (.int .i64 t.var), .v (.bool t.c.set), .v (.int .i64 t.c.n), S]
def ValAre (cs : List LV) (v : V) : Prop := ∃ S, cs = valC v S ∧ IntsAre S v.s
def TmAre (cs : List LV) (t : Tm) : Prop := ∃ S, cs = tmC t S ∧ IntsAre S t.c.s
def ListAre {α : Type} (R : List LV → α → Prop) (l : LV) (xs : List α) : Prop := ∃ es, l.asList = some es ∧ es.length = xs.length ∧ ∀ (i : Nat) e x, es[i]? = some e → xs[i]? = some x → R e x
def AgAre (cs : List LV) (a : Ag) : Prop := ∃ L, cs = [.v (.bool a.array), L] ∧ ListAre TmAre L a.l
def CnAre (l : LV) (c : Cn) : Prop := ∃ X, l = .agg [.v (.string c.name), X] ∧ ListAre AgAre X c.args

theorem asList_one {l : LV} {xs : List (List LV)} (h : l.asList = some xs) : l.one = true ∧ l.plain = true ∧ l.hot = false ∧ l.cells = [l] ∧ ∀ tg, cellsT l tg = [(l, tg)] := by
  unfold LV.asList at h
  split at h
  · exact ⟨rfl, rfl, rfl, rfl, fun _ => rfl⟩
  · exact ⟨rfl, rfl, rfl, rfl, fun _ => rfl⟩
  · exact ⟨rfl, rfl, rfl, rfl, fun _ => rfl⟩
  · cases h
end Go.LI.T
/- The names of the constraints. -/
namespace Go.LI.T
abbrev n_lex_less_int : ByteArray := ⟨#[102, 122, 110, 95, 108, 101, 120, 95, 108, 101, 115, 115, 95, 105, 110, 116]⟩
abbrev n_lex_lesseq_int : ByteArray := ⟨#[102, 122, 110, 95, 108, 101, 120, 95, 108, 101, 115, 115, 101, 113, 95, 105, 110, 116]⟩
abbrev n_sort : ByteArray := ⟨#[102, 122, 110, 95, 115, 111, 114, 116]⟩
abbrev n_increasing_int : ByteArray := ⟨#[102, 122, 110, 95, 105, 110, 99, 114, 101, 97, 115, 105, 110, 103, 95, 105, 110, 116]⟩
abbrev n_strictly_increasing_int : ByteArray := ⟨#[102, 122, 110, 95, 115, 116, 114, 105, 99, 116, 108, 121, 95, 105, 110, 99, 114, 101, 97, 115, 105, 110, 103, 95, 105, 110, 116]⟩
abbrev n_decreasing_int : ByteArray := ⟨#[102, 122, 110, 95, 100, 101, 99, 114, 101, 97, 115, 105, 110, 103, 95, 105, 110, 116]⟩
abbrev n_inverse : ByteArray := ⟨#[102, 122, 110, 95, 105, 110, 118, 101, 114, 115, 101]⟩
abbrev n_maximum_int : ByteArray := ⟨#[102, 122, 110, 95, 109, 97, 120, 105, 109, 117, 109, 95, 105, 110, 116]⟩
abbrev n_minimum_int : ByteArray := ⟨#[102, 122, 110, 95, 109, 105, 110, 105, 109, 117, 109, 95, 105, 110, 116]⟩
abbrev n_member_int : ByteArray := ⟨#[102, 122, 110, 95, 109, 101, 109, 98, 101, 114, 95, 105, 110, 116]⟩
abbrev n_table_int : ByteArray := ⟨#[102, 122, 110, 95, 116, 97, 98, 108, 101, 95, 105, 110, 116]⟩
abbrev n_regular : ByteArray := ⟨#[102, 122, 110, 95, 114, 101, 103, 117, 108, 97, 114]⟩
abbrev n_circuit : ByteArray := ⟨#[102, 122, 110, 95, 99, 105, 114, 99, 117, 105, 116]⟩
abbrev n_subcircuit : ByteArray := ⟨#[102, 122, 110, 95, 115, 117, 98, 99, 105, 114, 99, 117, 105, 116]⟩
abbrev n_cumulative : ByteArray := ⟨#[102, 122, 110, 95, 99, 117, 109, 117, 108, 97, 116, 105, 118, 101]⟩
abbrev n_disjunctive : ByteArray := ⟨#[102, 122, 110, 95, 100, 105, 115, 106, 117, 110, 99, 116, 105, 118, 101]⟩
abbrev n_diffn : ByteArray := ⟨#[102, 122, 110, 95, 100, 105, 102, 102, 110]⟩
abbrev n_bin_packing : ByteArray := ⟨#[102, 122, 110, 95, 98, 105, 110, 95, 112, 97, 99, 107, 105, 110, 103]⟩
abbrev n_bin_packing_capa : ByteArray := ⟨#[102, 122, 110, 95, 98, 105, 110, 95, 112, 97, 99, 107, 105, 110, 103, 95, 99, 97, 112, 97]⟩
abbrev n_bin_packing_load : ByteArray := ⟨#[102, 122, 110, 95, 98, 105, 110, 95, 112, 97, 99, 107, 105, 110, 103, 95, 108, 111, 97, 100]⟩
abbrev n_knapsack : ByteArray := ⟨#[102, 122, 110, 95, 107, 110, 97, 112, 115, 97, 99, 107]⟩
abbrev h_int_lin : ByteArray := ⟨#[105, 110, 116, 95, 108, 105, 110]⟩
abbrev h_bool_lin : ByteArray := ⟨#[98, 111, 111, 108, 95, 108, 105, 110]⟩
abbrev h_fzn_global : ByteArray := ⟨#[102, 122, 110, 95, 103, 108, 111, 98, 97, 108]⟩
abbrev h_fzn_bin : ByteArray := ⟨#[102, 122, 110, 95, 98, 105, 110]⟩
abbrev s_seq : ByteArray := ⟨#[115, 101, 113]⟩
abbrev s_sched : ByteArray := ⟨#[115, 99, 104, 101, 100]⟩
end Go.LI.T
namespace Go.LI.T
open Go Go.LI Go.Proofs
set_option maxRecDepth 100000
set_option maxHeartbeats 2000000

theorem ListAre.get {α : Type} {R : List LV → α → Prop} {l : LV} {xs : List α} {es : List (List LV)} (h : ListAre R l xs) (he : l.asList = some es) : es.length = xs.length ∧ ∀ (i : Nat) (hi : i < es.length) (hx : i < xs.length), R es[i] xs[i] := by
  obtain ⟨es', h1, h2, h3⟩ := h
  rw [he] at h1
  cases h1
  exact ⟨h2, fun i hi hx => h3 i _ _ (List.getElem?_eq_getElem hi) (List.getElem?_eq_getElem hx)⟩

/-- cons.numbers -/
theorem f231 (A : LV) (a : Ag) (hA : ListAre TmAre A a.l) (hlen : a.l.length < 1000000) :
   CallSpec Tryz.prog 231 [.agg [.v (.bool a.array), A]] (seqV (a.l.map fun t => [.v (.int .i64 t.c.n)])) := by
  have F := Facts.nil Tryz.prog
  obtain ⟨es, hl, hel, _⟩ := id hA
  obtain ⟨_, hget⟩ := hA.get hl
  obtain ⟨a1, a2, a3, a4, a5⟩ := asList_one hl
  refine CallSpec.of_LW ok Tryz.func231 (by kernel_rfl) rfl (by simp [Tryz.ntmps231]) ?_
  refine LW.sr ok F (by decide) (by simp [a1]; rfl) ?_
  refine LW.sr ok F (by decide) (by simp; rfl) ?_
  refine LW.seq (LW.sr ok F (by decide) (by simp [hl]; rfl) (LW.block (LW.loop (fun k s => ∃ j, k + j = es.length ∧ s.t 7 = A ∧ s.t 8 = .v (.int .i64 es.length) ∧ s.t 9 = .v (.int .i64 j) ∧ Grows s 3 [19] ((a.l.take j).map fun t => [.v (.int .i64 t.c.n)]))
    (k := es.length) ⟨0, by simp, by simp, by simp, by simp, .nil (by simp) (by simp)⟩ ?_)))
  rintro k s ⟨j, hk, h6, h7, h8, h3⟩
  refine LW.sr ok F (by decide) (by simp [h7, h8]; rfl) ?_
  refine LW.seq ?_
  by_cases hj : j < es.length
  · refine LW.ct (by simp [hj]) (LW.skip ?_)
    have hja : j < a.l.length := by omega
    obtain ⟨S, he, hS⟩ := hget j hj hja
    obtain ⟨s1, s2, s3, s4, s5⟩ := asList_one hS
    refine LW.seq (LW.block ?_)
    refine LW.sr ok F (by decide) (by simp [h6, h8, hl, hj, he, tmC, s1]; rfl) ?_
    obtain ⟨tk, v, happ, htk, hT⟩ := appendL_grows h3 18 [[.v (.int .i64 a.l[j].c.n)]] ⟨.int .i64, 1, 8, [.int .i64 0], []⟩ (by simp) (by intro e he; obtain ⟨x, _, rfl⟩ := List.mem_map.1 he; rfl) (by simp) (by simp) (by simp) (by simp; omega) (by simp; omega) (by simp)
    refine LW.r ok F (by decide) (by simp; rw [happ _ _ (by simp) (by simp)]; simp; rfl) ?_
    refine LW.r ok F (by decide) (by simp [h8]; rfl) ?_
    refine ⟨k - 1, by omega, j + 1, by omega, by simp [h6], by simp [h7], by simp [wrap_succ (show j < 9223372036854775807 by omega)], Grows.new (tk := tk) (v := v) (by simp; rintro h; rw [h] at hja; simp at hja) ?_ (by simp) hT htk (by simp)⟩
    have e1 : a.l[j]? = some a.l[j] := List.getElem?_eq_getElem hja
    generalize a.l[j] = x at e1
    rw [List.take_add_one, e1, List.map_append]
    simp
  · refine LW.cf (by simp [hj]) (LW.exit ?_)
    have hjn : j = a.l.length := by omega
    have h3v := h3.val
    refine LW.sr ok F (by decide) (by simp; rfl) (LW.ret ?_)
    show resL _ _ _ = _
    subst hjn
    rw [List.take_length] at h3v
    simp [Tryz.f231, resL, resOne, h3v, seqV]
    split <;> simp [nilV]
end Go.LI.T
namespace Go.LI.T
open Go Go.LI Go.Proofs
set_option maxRecDepth 100000
set_option maxHeartbeats 2000000

/-- cons.Of: a constant's value -/
theorem f236c (S L : LV) (t : Tm) (hS : IntsAre S t.c.s) (h1 : t.var = -1) :
    CallSpec Tryz.prog 236 [.agg (tmC t S), L] (.tup [.agg (valC t.c S), .v (.int .i64 0)]) := by
  have F := Facts.nil Tryz.prog
  have hl : S.asList = _ := hS
  obtain ⟨s1, s2, s3, s4, s5⟩ := asList_one hS
  refine CallSpec.of_LW ok Tryz.func236 (by kernel_rfl) rfl (by simp [Tryz.ntmps236]) ?_
  refine LW.sr ok F (by decide) (by simp [tmC, s1]; rfl) ?_
  refine LW.seq (LW.block ?_)
  refine LW.sr ok F (by decide) (by simp; rfl) ?_
  refine LW.ct (by simp [h1]) ?_
  refine LW.sr ok F (by decide) (by simp [s1, s2, s5]; rfl) (LW.ret ?_)
  show resL _ _ _ = _
  simp [Tryz.f236, resL, resOne, valC, s2]

/-- .. a variable's value -/
theorem f236v (S L : LV) (t : Tm) (es : List (List LV)) (e : List LV) (hS : IntsAre S t.c.s) (hL : L.asList = some es) (k : Nat) (h1 : t.var = k) (he : es[k]? = some e) (hv : ∃ v, ValAre e v) :
    CallSpec Tryz.prog 236 [.agg (tmC t S), L] (.tup [.agg e, .v (.int .i64 0)]) := by
  have F := Facts.nil Tryz.prog
  obtain ⟨v, S', rfl, hS'⟩ := hv
  have hl : S.asList = _ := hS
  obtain ⟨s1, s2, s3, s4, s5⟩ := asList_one hS
  obtain ⟨r1, r2, r3, r4, r5⟩ := asList_one hS'
  obtain ⟨l1, l2, l3, l4, l5⟩ := asList_one hL
  have hk : k < es.length := (List.getElem?_eq_some_iff.1 he).1
  have he' : es[k] = valC v S' := by rw [List.getElem?_eq_getElem hk] at he; injection he
  have e1 : ¬ t.var = -1 := by omega
  have e2 : ¬ t.var < 0 := by omega
  have e3 : ¬ (es.length : Int) ≤ t.var := by omega
  refine CallSpec.of_LW ok Tryz.func236 (by kernel_rfl) rfl (by simp [Tryz.ntmps236]) ?_
  refine LW.sr ok F (by decide) (by simp [tmC, s1]; rfl) ?_
  refine LW.seq (LW.block ?_)
  refine LW.sr ok F (by decide) (by simp; rfl) ?_
  refine LW.cf (by simp [e1]) ?_
  refine LW.sr ok F (by decide) (by simp [e2, hL, e3]; rfl) ?_
  refine LW.cf (by simp) (LW.skip ?_)
  refine LW.sr ok F (by decide) (by simp [hL, h1, hk, he, he', valC, r1, r5]; rfl) (LW.ret ?_)
  show resL _ _ _ = _
  simp [Tryz.f236, resL, resOne, valC, r2]
end Go.LI.T
namespace Go.LI.T
open Go Go.LI Go.Proofs
set_option maxRecDepth 100000
set_option maxHeartbeats 2000000

/-- A term's value, cell by cell. -/
def ofC (vs : List (List LV)) (e : List LV) : List LV :=
  match e with
  | [.v (.int _ n), a, b, c] => if n = -1 then [a, b, c] else vs.getD n.toNat []
  | _ => []
def agC (vs : List (List LV)) (a : List LV) : List LV :=
  match a with
  | [_, L] => [seqV ((L.asList.getD []).map (ofC vs))]
  | _ => []

/-- Each variable has a value. -/
def VarsIn (c : Cn) (n : Nat) : Prop := ∀ a ∈ c.args, ∀ t ∈ a.l, t.var = -1 ∨ (0 ≤ t.var ∧ t.var < n)

theorem f236 (S L : LV) (t : Tm) (es : List (List LV)) (hS : IntsAre S t.c.s) (hL : L.asList = some es) (hv : ∀ e ∈ es, ∃ v, ValAre e v) (h : t.var = -1 ∨ (0 ≤ t.var ∧ t.var < es.length)) :
    CallSpec Tryz.prog 236 [.agg (tmC t S), L] (.tup [.agg (ofC es (tmC t S)), .v (.int .i64 0)]) ∧ ∃ v, ValAre (ofC es (tmC t S)) v := by
  by_cases h1 : t.var = -1
  · have := f236c S L t hS h1
    have e : ofC es (tmC t S) = valC t.c S := by simp [ofC, tmC, h1, valC]
    rw [e]
    exact ⟨this, _, S, rfl, hS⟩
  · obtain ⟨h2, h3⟩ := h.resolve_left h1
    have hk : t.var.toNat < es.length := by omega
    have e : ofC es (tmC t S) = es[t.var.toNat] := by simp [ofC, tmC, h1, List.getD, hk]
    rw [e]
    have hve := hv _ (List.getElem_mem hk)
    exact ⟨f236v S L t es _ hS hL t.var.toNat (by omega) (List.getElem?_eq_getElem hk) hve, hve⟩

/-- tool.values -/
theorem f166 (X L : LV) (c : Cn) (ss vs : List (List LV)) (hX : ListAre AgAre X c.args) (hx : X.asList = some ss) (hL : L.asList = some vs) (hv : ∀ e ∈ vs, ∃ v, ValAre e v) (hin : VarsIn c vs.length)
    (hl1 : ss.length < 1000000) (hl2 : ∀ a ∈ c.args, a.l.length < 1000000) :
    CallSpec Tryz.prog 166 [.agg [.v (.string c.name), X], L] (seqV (ss.map (agC vs))) := by
  have F := Facts.nil Tryz.prog
  obtain ⟨hel, hget⟩ := hX.get hx
  obtain ⟨a1, a2, a3, a4, a5⟩ := asList_one hx
  obtain ⟨l1, l2, l3, l4, l5⟩ := asList_one hL
  refine CallSpec.of_LW ok Tryz.func166 (by kernel_rfl) rfl (by simp [Tryz.ntmps166]) ?_
  refine LW.sr ok F (by decide) (by simp [a1]; rfl) ?_
  refine LW.sr ok F (by decide) (by simp; rfl) ?_
  refine LW.seq (LW.sr ok F (by decide) (by simp [hx]; rfl) (LW.block (LW.loop (fun k s => ∃ j, k + j = ss.length ∧ s.t 1 = L ∧ s.t 14 = X ∧ s.t 15 = .v (.int .i64 ss.length) ∧ s.t 16 = .v (.int .i64 j) ∧ Grows s 5 [42] ((ss.take j).map (agC vs)))
    (k := ss.length) ⟨0, by simp, by simp, by simp, by simp, by simp, .nil (by simp) (by simp)⟩ ?_)))
  rintro k s ⟨j, hk, h1, h14, h15, h16, h5⟩
  refine LW.sr ok F (by decide) (by simp [h15, h16]; rfl) ?_
  refine LW.seq ?_
  by_cases hj : j < ss.length
  · have hja : j < c.args.length := by omega
    obtain ⟨A, hA, hAl⟩ := hget j hj hja
    obtain ⟨ts, ht, htl, _⟩ := id hAl
    obtain ⟨_, hgt⟩ := hAl.get ht
    obtain ⟨t1, t2, t3, t4, t5⟩ := asList_one ht
    have hmem := List.getElem_mem hja
    have hlt := hl2 _ hmem
    have hsz : ∀ (q : Nat) (hq : q < ts.length), (ofC vs ts[q]).length = 3 := by
      intro q hq
      have hqa : q < c.args[j].l.length := by omega
      obtain ⟨S, he, hS⟩ := hgt q hq hqa
      obtain ⟨_, v, S2, hval, _⟩ := f236 S L c.args[j].l[q] vs hS hL hv (hin _ hmem _ (List.getElem_mem hqa))
      rw [he, hval]; rfl
    have hagj : agC vs ss[j] = [seqV (ts.map (ofC vs))] := by rw [hA]; simp [agC, ht]
    refine LW.ct (by simp [hj]) (LW.skip ?_)
    refine LW.seq (LW.block ?_)
    refine LW.sr ok F (by decide) (by simp [h14, h16, hx, hj, hA, t1]; rfl) ?_
    refine LW.sr ok F (by decide) (by simp; rfl) ?_
    refine LW.seq (LW.sr ok F (by decide) (by simp [ht]; rfl) (LW.block (LW.loop (fun k2 s2 => ∃ i, k2 + i = ts.length ∧ s2.t 1 = L ∧ s2.t 14 = X ∧ s2.t 15 = .v (.int .i64 ss.length) ∧ s2.t 16 = .v (.int .i64 j) ∧ Grows s2 5 [42] ((ss.take j).map (agC vs)) ∧
        s2.t 21 = A ∧ s2.t 22 = .v (.int .i64 ts.length) ∧ s2.t 23 = .v (.int .i64 i) ∧ Grows s2 8 [37] ((ts.take i).map (ofC vs)))
      (k := ts.length) ⟨0, by simp, by simp [h1], by simp [h14], by simp [h15], by simp [h16], ?_, by simp, by simp, by simp, .nil (by simp) (by simp)⟩ ?_)))
    · exact h5.keep (by simp) (by simp) (by simp)
    · rintro k2 s2 ⟨i, hk2, g1, g14, g15, g16, g5, g21, g22, g23, g8⟩
      refine LW.sr ok F (by decide) (by simp [g22, g23]; rfl) ?_
      refine LW.seq ?_
      by_cases hi : i < ts.length
      · have hia : i < c.args[j].l.length := by omega
        obtain ⟨S, he, hS⟩ := hgt i hi hia
        obtain ⟨s1, s2', s3, s4, s5⟩ := asList_one hS
        obtain ⟨hf, v, S2, hval, hS2⟩ := f236 S L c.args[j].l[i] vs hS hL hv (hin _ hmem _ (List.getElem_mem hia))
        obtain ⟨r1, r2, r3, r4, r5⟩ := asList_one hS2
        rw [hval] at hf
        have F2 := Facts.cons hf (Facts.nil Tryz.prog)
        have hof : ofC vs ts[i] = valC v S2 := by rw [he]; exact hval
        generalize c.args[j].l[i] = t at *
        refine LW.ct (by simp [hi]) (LW.skip ?_)
        refine LW.seq (LW.block ?_)
        refine LW.sr ok F (by decide) (by simp [g21, g23, ht, hi, he, tmC, s1]; rfl) ?_
        refine LW.sr ok F2 (by decide) (by simp [s2', g1, l2, tmC, hval, valC, r1]; rfl) ?_
        obtain ⟨tk, w, happ, htk, hT⟩ := appendL_grows g8 36 [valC v S2] ⟨.struct [(0, 1), (1, 1), (2, 1)], 3, 40, [.bool false, .int .i64 0, .slice none 0 0], [4, 2, 47]⟩ (by simp) (by
            intro e he
            obtain ⟨x, hxm, rfl⟩ := List.mem_map.1 he
            obtain ⟨q, hq, rfl⟩ := List.getElem_of_mem (List.mem_of_mem_take hxm)
            exact hsz q hq) (by simp [valC]) (by simp) (by simp) (by simp; omega) (by simp; omega) (by simp)
        have hT' : tk = 37 := by simpa using hT
        refine LW.r ok F (by decide) (by simp [r1, r2, valC]; rw [happ _ _ (by simp) (by simp [valC])]; simp; rfl) ?_
        refine LW.r ok F (by decide) (by simp [g23]; rfl) ?_
        refine ⟨k2 - 1, by omega, i + 1, by omega, by simp [g1], by simp [g14], by simp [g15], by simp [g16], g5.keep (by simp) (by simp) (by simp [hT']), by simp [g21], by simp [g22], by simp [wrap_succ (show i < 9223372036854775807 by omega)],
          Grows.new (tk := tk) (v := w) ?_ ?_ (by simp) hT htk (by simp)⟩
        · intro h0
          have := congrArg List.length h0
          simp only [List.length_map, List.length_take, List.length_nil] at this
          omega
        · have e1 : ts[i]? = some ts[i] := List.getElem?_eq_getElem hi
          rw [List.take_add_one, e1, List.map_append]
          simp [hof]
      · refine LW.cf (by simp [hi]) (LW.exit ?_)
        have hin' : i = ts.length := by omega
        subst hin'
        rw [List.take_length] at g8
        have g8v := g8.val
        have g8a := seqV_asList (ts.map (ofC vs))
        obtain ⟨q1, q2, q3, q4, q5⟩ := asList_one g8a
        obtain ⟨tk, w, happ, htk, hT⟩ := appendL_grows g5 41 [[seqV (ts.map (ofC vs))]] ⟨.slice 53, 1, 24, [.slice none 0 0], []⟩ (by simp) (by
            intro e he
            obtain ⟨x, hxm, rfl⟩ := List.mem_map.1 he
            obtain ⟨q, hq, rfl⟩ := List.getElem_of_mem (List.mem_of_mem_take hxm)
            obtain ⟨A', hA', _⟩ := hget q hq (by omega)
            rw [hA']; rfl) (by simp) (by simp) (by simp) (by simp; omega) (by simp; omega) (by simp)
        refine LW.r ok F (by decide) (by simp [g8v, q1, q4]; rw [happ _ _ (by simp) (by simp)]; simp; rfl) ?_
        refine LW.r ok F (by decide) (by simp [g16]; rfl) ?_
        refine ⟨k - 1, by omega, j + 1, by omega, by simp [g1], by simp [g14], by simp [g15], by simp [wrap_succ (show j < 9223372036854775807 by omega)], Grows.new (tk := tk) (v := w) ?_ ?_ (by simp) hT htk (by simp)⟩
        · intro h0
          have := congrArg List.length h0
          simp only [List.length_map, List.length_take, List.length_nil] at this
          omega
        · have e1 : ss[j]? = some ss[j] := List.getElem?_eq_getElem hj
          rw [List.take_add_one, e1, List.map_append]
          simp [hagj]
  · refine LW.cf (by simp [hj]) (LW.exit ?_)
    have hjn : j = ss.length := by omega
    have h5v := h5.val
    refine LW.sr ok F (by decide) (by simp; rfl) (LW.retk ?_)
    subst hjn
    rw [List.take_length] at h5v
    simp [Tryz.f166, resL, resOne, h5v, seqV]
    split <;> simp [nilV]
end Go.LI.T
/- The table of constraints: names, forms, families. -/
namespace Go.LI.T
open Go Go.LI Go.Proofs
set_option maxRecDepth 100000
set_option maxHeartbeats 4000000

/-- A row: name, form, family. -/
structure Rw where
  name : ByteArray
  form : ByteArray
  fam : ByteArray

def rows : List Rw := [
  ⟨⟨#[105, 110, 116, 95, 101, 113]⟩, ⟨#[73, 44, 73]⟩, ⟨#[108, 105, 110, 101, 97, 114]⟩⟩,
  ⟨⟨#[105, 110, 116, 95, 110, 101]⟩, ⟨#[73, 44, 73]⟩, ⟨#[108, 105, 110, 101, 97, 114]⟩⟩,
  ⟨⟨#[105, 110, 116, 95, 108, 101]⟩, ⟨#[73, 44, 73]⟩, ⟨#[108, 105, 110, 101, 97, 114]⟩⟩,
  ⟨⟨#[105, 110, 116, 95, 108, 116]⟩, ⟨#[73, 44, 73]⟩, ⟨#[108, 105, 110, 101, 97, 114]⟩⟩,
  ⟨⟨#[105, 110, 116, 95, 101, 113, 95, 114, 101, 105, 102]⟩, ⟨#[73, 44, 73, 44, 66]⟩, ⟨#[108, 105, 110, 101, 97, 114]⟩⟩,
  ⟨⟨#[105, 110, 116, 95, 110, 101, 95, 114, 101, 105, 102]⟩, ⟨#[73, 44, 73, 44, 66]⟩, ⟨#[108, 105, 110, 101, 97, 114]⟩⟩,
  ⟨⟨#[105, 110, 116, 95, 108, 101, 95, 114, 101, 105, 102]⟩, ⟨#[73, 44, 73, 44, 66]⟩, ⟨#[108, 105, 110, 101, 97, 114]⟩⟩,
  ⟨⟨#[105, 110, 116, 95, 108, 116, 95, 114, 101, 105, 102]⟩, ⟨#[73, 44, 73, 44, 66]⟩, ⟨#[108, 105, 110, 101, 97, 114]⟩⟩,
  ⟨⟨#[105, 110, 116, 95, 101, 113, 95, 105, 109, 112]⟩, ⟨#[73, 44, 73, 44, 66]⟩, ⟨#[108, 105, 110, 101, 97, 114]⟩⟩,
  ⟨⟨#[105, 110, 116, 95, 110, 101, 95, 105, 109, 112]⟩, ⟨#[73, 44, 73, 44, 66]⟩, ⟨#[108, 105, 110, 101, 97, 114]⟩⟩,
  ⟨⟨#[105, 110, 116, 95, 108, 101, 95, 105, 109, 112]⟩, ⟨#[73, 44, 73, 44, 66]⟩, ⟨#[108, 105, 110, 101, 97, 114]⟩⟩,
  ⟨⟨#[105, 110, 116, 95, 108, 116, 95, 105, 109, 112]⟩, ⟨#[73, 44, 73, 44, 66]⟩, ⟨#[108, 105, 110, 101, 97, 114]⟩⟩,
  ⟨⟨#[105, 110, 116, 95, 108, 105, 110, 95, 101, 113]⟩, ⟨#[97, 105, 44, 97, 73, 44, 105]⟩, ⟨#[108, 105, 110, 101, 97, 114]⟩⟩,
  ⟨⟨#[105, 110, 116, 95, 108, 105, 110, 95, 110, 101]⟩, ⟨#[97, 105, 44, 97, 73, 44, 105]⟩, ⟨#[108, 105, 110, 101, 97, 114]⟩⟩,
  ⟨⟨#[105, 110, 116, 95, 108, 105, 110, 95, 108, 101]⟩, ⟨#[97, 105, 44, 97, 73, 44, 105]⟩, ⟨#[108, 105, 110, 101, 97, 114]⟩⟩,
  ⟨⟨#[105, 110, 116, 95, 108, 105, 110, 95, 101, 113, 95, 114, 101, 105, 102]⟩, ⟨#[97, 105, 44, 97, 73, 44, 105, 44, 66]⟩, ⟨#[108, 105, 110, 101, 97, 114]⟩⟩,
  ⟨⟨#[105, 110, 116, 95, 108, 105, 110, 95, 110, 101, 95, 114, 101, 105, 102]⟩, ⟨#[97, 105, 44, 97, 73, 44, 105, 44, 66]⟩, ⟨#[108, 105, 110, 101, 97, 114]⟩⟩,
  ⟨⟨#[105, 110, 116, 95, 108, 105, 110, 95, 108, 101, 95, 114, 101, 105, 102]⟩, ⟨#[97, 105, 44, 97, 73, 44, 105, 44, 66]⟩, ⟨#[108, 105, 110, 101, 97, 114]⟩⟩,
  ⟨⟨#[105, 110, 116, 95, 108, 105, 110, 95, 101, 113, 95, 105, 109, 112]⟩, ⟨#[97, 105, 44, 97, 73, 44, 105, 44, 66]⟩, ⟨#[108, 105, 110, 101, 97, 114]⟩⟩,
  ⟨⟨#[105, 110, 116, 95, 108, 105, 110, 95, 110, 101, 95, 105, 109, 112]⟩, ⟨#[97, 105, 44, 97, 73, 44, 105, 44, 66]⟩, ⟨#[108, 105, 110, 101, 97, 114]⟩⟩,
  ⟨⟨#[105, 110, 116, 95, 108, 105, 110, 95, 108, 101, 95, 105, 109, 112]⟩, ⟨#[97, 105, 44, 97, 73, 44, 105, 44, 66]⟩, ⟨#[108, 105, 110, 101, 97, 114]⟩⟩,
  ⟨⟨#[98, 111, 111, 108, 95, 108, 105, 110, 95, 101, 113]⟩, ⟨#[97, 105, 44, 97, 66, 44, 73]⟩, ⟨#[108, 105, 110, 101, 97, 114]⟩⟩,
  ⟨⟨#[98, 111, 111, 108, 95, 108, 105, 110, 95, 108, 101]⟩, ⟨#[97, 105, 44, 97, 66, 44, 105]⟩, ⟨#[108, 105, 110, 101, 97, 114]⟩⟩,
  ⟨⟨#[105, 110, 116, 95, 112, 108, 117, 115]⟩, ⟨#[73, 44, 73, 44, 73]⟩, ⟨#[97, 114, 105, 116, 104]⟩⟩,
  ⟨⟨#[105, 110, 116, 95, 116, 105, 109, 101, 115]⟩, ⟨#[73, 44, 73, 44, 73]⟩, ⟨#[97, 114, 105, 116, 104]⟩⟩,
  ⟨⟨#[105, 110, 116, 95, 100, 105, 118]⟩, ⟨#[73, 44, 73, 44, 73]⟩, ⟨#[97, 114, 105, 116, 104]⟩⟩,
  ⟨⟨#[105, 110, 116, 95, 109, 111, 100]⟩, ⟨#[73, 44, 73, 44, 73]⟩, ⟨#[97, 114, 105, 116, 104]⟩⟩,
  ⟨⟨#[105, 110, 116, 95, 109, 105, 110]⟩, ⟨#[73, 44, 73, 44, 73]⟩, ⟨#[97, 114, 105, 116, 104]⟩⟩,
  ⟨⟨#[105, 110, 116, 95, 109, 97, 120]⟩, ⟨#[73, 44, 73, 44, 73]⟩, ⟨#[97, 114, 105, 116, 104]⟩⟩,
  ⟨⟨#[105, 110, 116, 95, 112, 111, 119]⟩, ⟨#[73, 44, 73, 44, 73]⟩, ⟨#[97, 114, 105, 116, 104]⟩⟩,
  ⟨⟨#[105, 110, 116, 95, 97, 98, 115]⟩, ⟨#[73, 44, 73]⟩, ⟨#[97, 114, 105, 116, 104]⟩⟩,
  ⟨⟨#[97, 114, 114, 97, 121, 95, 105, 110, 116, 95, 101, 108, 101, 109, 101, 110, 116]⟩, ⟨#[73, 44, 97, 105, 44, 73]⟩, ⟨#[97, 114, 105, 116, 104]⟩⟩,
  ⟨⟨#[97, 114, 114, 97, 121, 95, 118, 97, 114, 95, 105, 110, 116, 95, 101, 108, 101, 109, 101, 110, 116]⟩, ⟨#[73, 44, 97, 73, 44, 73]⟩, ⟨#[97, 114, 105, 116, 104]⟩⟩,
  ⟨⟨#[97, 114, 114, 97, 121, 95, 98, 111, 111, 108, 95, 101, 108, 101, 109, 101, 110, 116]⟩, ⟨#[73, 44, 97, 98, 44, 66]⟩, ⟨#[97, 114, 105, 116, 104]⟩⟩,
  ⟨⟨#[97, 114, 114, 97, 121, 95, 118, 97, 114, 95, 98, 111, 111, 108, 95, 101, 108, 101, 109, 101, 110, 116]⟩, ⟨#[73, 44, 97, 66, 44, 66]⟩, ⟨#[97, 114, 105, 116, 104]⟩⟩,
  ⟨⟨#[97, 114, 114, 97, 121, 95, 115, 101, 116, 95, 101, 108, 101, 109, 101, 110, 116]⟩, ⟨#[73, 44, 97, 115, 44, 83]⟩, ⟨#[97, 114, 105, 116, 104]⟩⟩,
  ⟨⟨#[98, 111, 111, 108, 50, 105, 110, 116]⟩, ⟨#[66, 44, 73]⟩, ⟨#[108, 111, 103, 105, 99]⟩⟩,
  ⟨⟨#[98, 111, 111, 108, 95, 101, 113]⟩, ⟨#[66, 44, 66]⟩, ⟨#[108, 111, 103, 105, 99]⟩⟩,
  ⟨⟨#[98, 111, 111, 108, 95, 110, 101]⟩, ⟨#[66, 44, 66]⟩, ⟨#[108, 111, 103, 105, 99]⟩⟩,
  ⟨⟨#[98, 111, 111, 108, 95, 108, 101]⟩, ⟨#[66, 44, 66]⟩, ⟨#[108, 111, 103, 105, 99]⟩⟩,
  ⟨⟨#[98, 111, 111, 108, 95, 108, 116]⟩, ⟨#[66, 44, 66]⟩, ⟨#[108, 111, 103, 105, 99]⟩⟩,
  ⟨⟨#[98, 111, 111, 108, 95, 110, 111, 116]⟩, ⟨#[66, 44, 66]⟩, ⟨#[108, 111, 103, 105, 99]⟩⟩,
  ⟨⟨#[98, 111, 111, 108, 95, 101, 113, 95, 114, 101, 105, 102]⟩, ⟨#[66, 44, 66, 44, 66]⟩, ⟨#[108, 111, 103, 105, 99]⟩⟩,
  ⟨⟨#[98, 111, 111, 108, 95, 110, 101, 95, 114, 101, 105, 102]⟩, ⟨#[66, 44, 66, 44, 66]⟩, ⟨#[108, 111, 103, 105, 99]⟩⟩,
  ⟨⟨#[98, 111, 111, 108, 95, 108, 101, 95, 114, 101, 105, 102]⟩, ⟨#[66, 44, 66, 44, 66]⟩, ⟨#[108, 111, 103, 105, 99]⟩⟩,
  ⟨⟨#[98, 111, 111, 108, 95, 108, 116, 95, 114, 101, 105, 102]⟩, ⟨#[66, 44, 66, 44, 66]⟩, ⟨#[108, 111, 103, 105, 99]⟩⟩,
  ⟨⟨#[98, 111, 111, 108, 95, 97, 110, 100]⟩, ⟨#[66, 44, 66, 44, 66]⟩, ⟨#[108, 111, 103, 105, 99]⟩⟩,
  ⟨⟨#[98, 111, 111, 108, 95, 111, 114]⟩, ⟨#[66, 44, 66, 44, 66]⟩, ⟨#[108, 111, 103, 105, 99]⟩⟩,
  ⟨⟨#[98, 111, 111, 108, 95, 120, 111, 114]⟩, ⟨#[66, 44, 66, 44, 66]⟩, ⟨#[108, 111, 103, 105, 99]⟩⟩,
  ⟨⟨#[98, 111, 111, 108, 95, 99, 108, 97, 117, 115, 101]⟩, ⟨#[97, 66, 44, 97, 66]⟩, ⟨#[108, 111, 103, 105, 99]⟩⟩,
  ⟨⟨#[98, 111, 111, 108, 95, 99, 108, 97, 117, 115, 101, 95, 114, 101, 105, 102]⟩, ⟨#[97, 66, 44, 97, 66, 44, 66]⟩, ⟨#[108, 111, 103, 105, 99]⟩⟩,
  ⟨⟨#[97, 114, 114, 97, 121, 95, 98, 111, 111, 108, 95, 97, 110, 100]⟩, ⟨#[97, 66, 44, 66]⟩, ⟨#[108, 111, 103, 105, 99]⟩⟩,
  ⟨⟨#[97, 114, 114, 97, 121, 95, 98, 111, 111, 108, 95, 111, 114]⟩, ⟨#[97, 66, 44, 66]⟩, ⟨#[108, 111, 103, 105, 99]⟩⟩,
  ⟨⟨#[97, 114, 114, 97, 121, 95, 98, 111, 111, 108, 95, 120, 111, 114]⟩, ⟨#[97, 66]⟩, ⟨#[108, 111, 103, 105, 99]⟩⟩,
  ⟨⟨#[115, 101, 116, 95, 105, 110]⟩, ⟨#[73, 44, 83]⟩, ⟨#[115, 101, 116, 99, 111, 110]⟩⟩,
  ⟨⟨#[115, 101, 116, 95, 105, 110, 95, 114, 101, 105, 102]⟩, ⟨#[73, 44, 83, 44, 66]⟩, ⟨#[115, 101, 116, 99, 111, 110]⟩⟩,
  ⟨⟨#[115, 101, 116, 95, 105, 110, 95, 105, 109, 112]⟩, ⟨#[73, 44, 83, 44, 66]⟩, ⟨#[115, 101, 116, 99, 111, 110]⟩⟩,
  ⟨⟨#[115, 101, 116, 95, 99, 97, 114, 100]⟩, ⟨#[83, 44, 73]⟩, ⟨#[115, 101, 116, 99, 111, 110]⟩⟩,
  ⟨⟨#[115, 101, 116, 95, 101, 113]⟩, ⟨#[83, 44, 83]⟩, ⟨#[115, 101, 116, 99, 111, 110]⟩⟩,
  ⟨⟨#[115, 101, 116, 95, 110, 101]⟩, ⟨#[83, 44, 83]⟩, ⟨#[115, 101, 116, 99, 111, 110]⟩⟩,
  ⟨⟨#[115, 101, 116, 95, 115, 117, 98, 115, 101, 116]⟩, ⟨#[83, 44, 83]⟩, ⟨#[115, 101, 116, 99, 111, 110]⟩⟩,
  ⟨⟨#[115, 101, 116, 95, 115, 117, 112, 101, 114, 115, 101, 116]⟩, ⟨#[83, 44, 83]⟩, ⟨#[115, 101, 116, 99, 111, 110]⟩⟩,
  ⟨⟨#[115, 101, 116, 95, 108, 101]⟩, ⟨#[83, 44, 83]⟩, ⟨#[115, 101, 116, 99, 111, 110]⟩⟩,
  ⟨⟨#[115, 101, 116, 95, 108, 116]⟩, ⟨#[83, 44, 83]⟩, ⟨#[115, 101, 116, 99, 111, 110]⟩⟩,
  ⟨⟨#[115, 101, 116, 95, 101, 113, 95, 114, 101, 105, 102]⟩, ⟨#[83, 44, 83, 44, 66]⟩, ⟨#[115, 101, 116, 99, 111, 110]⟩⟩,
  ⟨⟨#[115, 101, 116, 95, 110, 101, 95, 114, 101, 105, 102]⟩, ⟨#[83, 44, 83, 44, 66]⟩, ⟨#[115, 101, 116, 99, 111, 110]⟩⟩,
  ⟨⟨#[115, 101, 116, 95, 115, 117, 98, 115, 101, 116, 95, 114, 101, 105, 102]⟩, ⟨#[83, 44, 83, 44, 66]⟩, ⟨#[115, 101, 116, 99, 111, 110]⟩⟩,
  ⟨⟨#[115, 101, 116, 95, 115, 117, 112, 101, 114, 115, 101, 116, 95, 114, 101, 105, 102]⟩, ⟨#[83, 44, 83, 44, 66]⟩, ⟨#[115, 101, 116, 99, 111, 110]⟩⟩,
  ⟨⟨#[115, 101, 116, 95, 108, 101, 95, 114, 101, 105, 102]⟩, ⟨#[83, 44, 83, 44, 66]⟩, ⟨#[115, 101, 116, 99, 111, 110]⟩⟩,
  ⟨⟨#[115, 101, 116, 95, 108, 116, 95, 114, 101, 105, 102]⟩, ⟨#[83, 44, 83, 44, 66]⟩, ⟨#[115, 101, 116, 99, 111, 110]⟩⟩,
  ⟨⟨#[115, 101, 116, 95, 117, 110, 105, 111, 110]⟩, ⟨#[83, 44, 83, 44, 83]⟩, ⟨#[115, 101, 116, 99, 111, 110]⟩⟩,
  ⟨⟨#[115, 101, 116, 95, 105, 110, 116, 101, 114, 115, 101, 99, 116]⟩, ⟨#[83, 44, 83, 44, 83]⟩, ⟨#[115, 101, 116, 99, 111, 110]⟩⟩,
  ⟨⟨#[115, 101, 116, 95, 100, 105, 102, 102]⟩, ⟨#[83, 44, 83, 44, 83]⟩, ⟨#[115, 101, 116, 99, 111, 110]⟩⟩,
  ⟨⟨#[115, 101, 116, 95, 115, 121, 109, 100, 105, 102, 102]⟩, ⟨#[83, 44, 83, 44, 83]⟩, ⟨#[115, 101, 116, 99, 111, 110]⟩⟩,
  ⟨⟨#[102, 122, 110, 95, 97, 108, 108, 95, 100, 105, 102, 102, 101, 114, 101, 110, 116, 95, 105, 110, 116]⟩, ⟨#[97, 73]⟩, ⟨#[99, 111, 117, 110, 116]⟩⟩,
  ⟨⟨#[102, 122, 110, 95, 97, 108, 108, 95, 101, 113, 117, 97, 108, 95, 105, 110, 116]⟩, ⟨#[97, 73]⟩, ⟨#[99, 111, 117, 110, 116]⟩⟩,
  ⟨⟨#[102, 122, 110, 95, 103, 108, 111, 98, 97, 108, 95, 99, 97, 114, 100, 105, 110, 97, 108, 105, 116, 121]⟩, ⟨#[97, 73, 44, 97, 105, 44, 97, 73]⟩, ⟨#[99, 111, 117, 110, 116]⟩⟩,
  ⟨⟨#[102, 122, 110, 95, 103, 108, 111, 98, 97, 108, 95, 99, 97, 114, 100, 105, 110, 97, 108, 105, 116, 121, 95, 99, 108, 111, 115, 101, 100]⟩, ⟨#[97, 73, 44, 97, 105, 44, 97, 73]⟩, ⟨#[99, 111, 117, 110, 116]⟩⟩,
  ⟨⟨#[102, 122, 110, 95, 99, 111, 117, 110, 116, 95, 101, 113]⟩, ⟨#[97, 73, 44, 73, 44, 73]⟩, ⟨#[99, 111, 117, 110, 116]⟩⟩,
  ⟨⟨#[102, 122, 110, 95, 97, 109, 111, 110, 103]⟩, ⟨#[73, 44, 97, 73, 44, 115]⟩, ⟨#[99, 111, 117, 110, 116]⟩⟩,
  ⟨⟨#[102, 122, 110, 95, 110, 118, 97, 108, 117, 101]⟩, ⟨#[73, 44, 97, 73]⟩, ⟨#[99, 111, 117, 110, 116]⟩⟩,
  ⟨⟨#[102, 122, 110, 95, 97, 116, 95, 109, 111, 115, 116, 95, 105, 110, 116]⟩, ⟨#[105, 44, 97, 73, 44, 105]⟩, ⟨#[99, 111, 117, 110, 116]⟩⟩,
  ⟨⟨#[102, 122, 110, 95, 97, 116, 95, 108, 101, 97, 115, 116, 95, 105, 110, 116]⟩, ⟨#[105, 44, 97, 73, 44, 105]⟩, ⟨#[99, 111, 117, 110, 116]⟩⟩,
  ⟨⟨#[102, 122, 110, 95, 118, 97, 108, 117, 101, 95, 112, 114, 101, 99, 101, 100, 101, 95, 105, 110, 116]⟩, ⟨#[105, 44, 105, 44, 97, 73]⟩, ⟨#[99, 111, 117, 110, 116]⟩⟩,
  ⟨⟨#[102, 122, 110, 95, 108, 101, 120, 95, 108, 101, 115, 115, 95, 105, 110, 116]⟩, ⟨#[97, 73, 44, 97, 73]⟩, ⟨#[115, 101, 113]⟩⟩,
  ⟨⟨#[102, 122, 110, 95, 108, 101, 120, 95, 108, 101, 115, 115, 101, 113, 95, 105, 110, 116]⟩, ⟨#[97, 73, 44, 97, 73]⟩, ⟨#[115, 101, 113]⟩⟩,
  ⟨⟨#[102, 122, 110, 95, 115, 111, 114, 116]⟩, ⟨#[97, 73, 44, 97, 73]⟩, ⟨#[115, 101, 113]⟩⟩,
  ⟨⟨#[102, 122, 110, 95, 105, 110, 99, 114, 101, 97, 115, 105, 110, 103, 95, 105, 110, 116]⟩, ⟨#[97, 73]⟩, ⟨#[115, 101, 113]⟩⟩,
  ⟨⟨#[102, 122, 110, 95, 115, 116, 114, 105, 99, 116, 108, 121, 95, 105, 110, 99, 114, 101, 97, 115, 105, 110, 103, 95, 105, 110, 116]⟩, ⟨#[97, 73]⟩, ⟨#[115, 101, 113]⟩⟩,
  ⟨⟨#[102, 122, 110, 95, 100, 101, 99, 114, 101, 97, 115, 105, 110, 103, 95, 105, 110, 116]⟩, ⟨#[97, 73]⟩, ⟨#[115, 101, 113]⟩⟩,
  ⟨⟨#[102, 122, 110, 95, 105, 110, 118, 101, 114, 115, 101]⟩, ⟨#[97, 73, 44, 97, 73]⟩, ⟨#[115, 101, 113]⟩⟩,
  ⟨⟨#[102, 122, 110, 95, 109, 97, 120, 105, 109, 117, 109, 95, 105, 110, 116]⟩, ⟨#[73, 44, 97, 73]⟩, ⟨#[115, 101, 113]⟩⟩,
  ⟨⟨#[102, 122, 110, 95, 109, 105, 110, 105, 109, 117, 109, 95, 105, 110, 116]⟩, ⟨#[73, 44, 97, 73]⟩, ⟨#[115, 101, 113]⟩⟩,
  ⟨⟨#[102, 122, 110, 95, 109, 101, 109, 98, 101, 114, 95, 105, 110, 116]⟩, ⟨#[97, 73, 44, 73]⟩, ⟨#[115, 101, 113]⟩⟩,
  ⟨⟨#[102, 122, 110, 95, 116, 97, 98, 108, 101, 95, 105, 110, 116]⟩, ⟨#[97, 73, 44, 97, 105]⟩, ⟨#[115, 101, 113]⟩⟩,
  ⟨⟨#[102, 122, 110, 95, 114, 101, 103, 117, 108, 97, 114]⟩, ⟨#[97, 73, 44, 105, 44, 105, 44, 97, 105, 44, 105, 44, 115]⟩, ⟨#[115, 101, 113]⟩⟩,
  ⟨⟨#[102, 122, 110, 95, 99, 105, 114, 99, 117, 105, 116]⟩, ⟨#[97, 73]⟩, ⟨#[115, 99, 104, 101, 100]⟩⟩,
  ⟨⟨#[102, 122, 110, 95, 115, 117, 98, 99, 105, 114, 99, 117, 105, 116]⟩, ⟨#[97, 73]⟩, ⟨#[115, 99, 104, 101, 100]⟩⟩,
  ⟨⟨#[102, 122, 110, 95, 99, 117, 109, 117, 108, 97, 116, 105, 118, 101]⟩, ⟨#[97, 73, 44, 97, 73, 44, 97, 73, 44, 73]⟩, ⟨#[115, 99, 104, 101, 100]⟩⟩,
  ⟨⟨#[102, 122, 110, 95, 100, 105, 115, 106, 117, 110, 99, 116, 105, 118, 101]⟩, ⟨#[97, 73, 44, 97, 73]⟩, ⟨#[115, 99, 104, 101, 100]⟩⟩,
  ⟨⟨#[102, 122, 110, 95, 100, 105, 102, 102, 110]⟩, ⟨#[97, 73, 44, 97, 73, 44, 97, 73, 44, 97, 73]⟩, ⟨#[115, 99, 104, 101, 100]⟩⟩,
  ⟨⟨#[102, 122, 110, 95, 98, 105, 110, 95, 112, 97, 99, 107, 105, 110, 103]⟩, ⟨#[105, 44, 97, 73, 44, 97, 105]⟩, ⟨#[115, 99, 104, 101, 100]⟩⟩,
  ⟨⟨#[102, 122, 110, 95, 98, 105, 110, 95, 112, 97, 99, 107, 105, 110, 103, 95, 99, 97, 112, 97]⟩, ⟨#[97, 105, 44, 97, 73, 44, 97, 105]⟩, ⟨#[115, 99, 104, 101, 100]⟩⟩,
  ⟨⟨#[102, 122, 110, 95, 98, 105, 110, 95, 112, 97, 99, 107, 105, 110, 103, 95, 108, 111, 97, 100]⟩, ⟨#[97, 73, 44, 97, 73, 44, 97, 105]⟩, ⟨#[115, 99, 104, 101, 100]⟩⟩,
  ⟨⟨#[102, 122, 110, 95, 107, 110, 97, 112, 115, 97, 99, 107]⟩, ⟨#[97, 105, 44, 97, 105, 44, 97, 73, 44, 73, 44, 73]⟩, ⟨#[115, 99, 104, 101, 100]⟩⟩
]

def rwC (r : Rw) : List LV := [.v (.string r.name), .v (.string r.form), .v (.string r.fam)]
def tableV : LV := .agg (rows.flatMap rwC)

def ops0 (f : Func) : Array Oper := match f.body with
  | some (.seq (.region _ ops _) _) => ops
  | _ => #[]
def ops1 (f : Func) : Array Oper := match f.body with
  | some (.seq _ (.seq (.region _ ops _) _)) => ops
  | _ => #[]

/-- What the walk through 'table' yields. -/
noncomputable def tableRun : Option LV :=
  (steps τ (envOf []) (ops0 Tryz.f220) (ops0 Tryz.f220).toList (init [])).bind fun s =>
    (steps τ (envOf []) (ops1 Tryz.f220) (ops1 Tryz.f220).toList s).bind fun s => resL τ Tryz.f220.results s

theorem tableRun_is : tableRun = some tableV := by kernel_rfl

theorem f220 : CallSpec Tryz.prog 220 [] tableV := by
  have F := Facts.nil Tryz.prog
  refine CallSpec.of_LW ok Tryz.func220 (by kernel_rfl) rfl (by simp [Tryz.ntmps220]) ?_
  have h := tableRun_is
  unfold tableRun at h
  obtain ⟨s1, h1, h⟩ := Option.bind_eq_some_iff.1 h
  obtain ⟨s2, h2, h⟩ := Option.bind_eq_some_iff.1 h
  refine LW.sr ok F (by decide) h1 (LW.sr ok F (by decide +kernel) h2 (LW.retk h))
end Go.LI.T
namespace Go.LI.T
open Go Go.LI Go.Proofs
set_option maxRecDepth 100000
set_option maxHeartbeats 2000000

theorem rows_len : rows.length = 105 := (rfl)

theorem drop_flatMap {α β : Type} (f : α → List β) (n : Nat) (h : ∀ a, (f a).length = n) : ∀ (l : List α) (j : Nat), (l.flatMap f).drop (j * n) = (l.drop j).flatMap f
  | l, 0 => by simp
  | [], j + 1 => by simp
  | a :: l, j + 1 => by
    rw [List.flatMap_cons, List.drop_succ_cons, ← drop_flatMap f n h l j, Nat.add_mul, Nat.one_mul, Nat.add_comm, ← List.drop_drop, ← h a, List.drop_left]

theorem d218 : desc τ 218 = some (.arr 174 105) := by kernel_rfl

theorem idx_table (j : Nat) (hj : j < rows.length) : idxL τ (some (.arr 174 105)) tableV (.v (.int .i64 j)) = some (.agg (rwC rows[j])) := by
  have h5 := rows_len
  have hd : (rows.flatMap rwC).drop (j * 3) = rwC rows[j] ++ (rows.drop (j + 1)).flatMap rwC := by
    rw [drop_flatMap rwC 3 (fun _ => rfl), List.drop_eq_getElem_cons hj, List.flatMap_cons]
  have hj' : j < 105 := by omega
  simp only [idxL, tableV, t174]
  rw [if_pos (by constructor <;> omega)]
  simp only [Int.toNat_natCast, hd, isAgg_struct, part_true]
  simp [rwC]

def findRow (name : ByteArray) : Rw := (rows.find? fun r => decide (r.name = name)).getD ⟨⟨#[]⟩, ⟨#[]⟩, ⟨#[]⟩⟩

theorem findRow_at {name : ByteArray} {j : Nat} (hj : j < rows.length) (h : ∀ (i : Nat) (hi : i < rows.length), i < j → rows[i].name ≠ name) (he : rows[j].name = name) : findRow name = rows[j] := by
  unfold findRow
  have : rows.find? (fun r => decide (r.name = name)) = some rows[j] := by
    rw [List.find?_eq_some_iff_getElem]
    exact ⟨by simp [he], j, hj, rfl, fun k hk => by simpa using h k (by omega) hk⟩
  rw [this]
  rfl

theorem findRow_none {name : ByteArray} (h : ∀ (i : Nat) (hi : i < rows.length), rows[i].name ≠ name) : findRow name = ⟨⟨#[]⟩, ⟨#[]⟩, ⟨#[]⟩⟩ := by
  unfold findRow
  have : rows.find? (fun r => decide (r.name = name)) = none := by
    rw [List.find?_eq_none]
    intro r hr
    obtain ⟨i, hi, rfl⟩ := List.getElem_of_mem hr
    simpa using h i hi
  rw [this]
  rfl

/-- cons.find -/
theorem f158 (name : ByteArray) : CallSpec Tryz.prog 158 [.v (.string name)] (.agg (rwC (findRow name))) := by
  have F := Facts.cons f220 (Facts.nil Tryz.prog)
  have h5 := rows_len
  refine CallSpec.of_LW ok Tryz.func158 (by kernel_rfl) rfl (by simp [Tryz.ntmps158]) ?_
  refine LW.sr ok F (by decide) (by simp; rfl) ?_
  have hpt : tableV.isPtr = false := (rfl)
  refine LW.seq (LW.sr ok F (by decide) (by simp; rfl) (LW.block (LW.loop (fun k s => ∃ j, k + j = 105 ∧ s.t 0 = .v (.string name) ∧ s.t 2 = .ptr 2 1 0 ∧ s.b 2 1 = some [(.v (.string .empty), (0, 0)), (.v (.string .empty), (0, 0)), (.v (.string .empty), (0, 0))] ∧ s.t 5 = .v (.int .i64 j) ∧
      ∀ (i : Nat) (hi : i < rows.length), i < j → rows[i].name ≠ name)
    (k := 105) ⟨0, by simp, by simp, by simp, by simp, by simp, by simp⟩ ?_)))
  rintro k s ⟨j, hk, h0, h2, hb, h5', hn⟩
  refine LW.sr ok F (by decide) (by simp [h5']; rfl) ?_
  refine LW.seq ?_
  by_cases hj : j < 105
  · have hjr : j < rows.length := by omega
    have hix := idx_table j hjr
    refine LW.ct (by simp; omega) (LW.skip ?_)
    refine LW.seq (LW.block ?_)
    refine LW.sr ok F (by decide) (by simp [h5']; rfl) ?_
    refine LW.sr ok F (by decide) (by simp [h0, d218, hix, rwC]; rfl) ?_
    by_cases he : rows[j].name = name
    · refine LW.ct (by simp [he]) ?_
      refine LW.sr ok F (by decide) (by simp [h2, hb, d218, hix, rwC]; rfl) (LW.ret ?_)
      show resL _ _ _ = _
      rw [findRow_at hjr hn he]
      simp [Tryz.f158, resL, resOne, h2, hb, rwC]
    · refine LW.cf (by simp [he]) (LW.skip ?_)
      refine LW.r ok F (by decide) (by simp [h5']; rfl) ?_
      refine ⟨k - 1, by omega, j + 1, by omega, by simp [h0], by simp [h2], by simp [hb], by simp [wrap_succ (show j < 9223372036854775807 by omega)], fun i hi hij => ?_⟩
      by_cases hi2 : i = j
      · subst hi2; exact he
      · exact hn i hi (by omega)
  · refine LW.cf (by simp; omega) (LW.exit ?_)
    have hj5 : j = 105 := by omega
    refine LW.sr ok F (by decide) (by simp [h2, hb]; rfl) (LW.retk ?_)
    rw [findRow_none (fun i hi => hn i hi (by omega))]
    simp [Tryz.f158, resL, resOne, h2, hb, rwC]
    rfl
end Go.LI.T
namespace Go.LI.T
open Go Go.LI Go.Proofs
set_option maxRecDepth 100000
set_option maxHeartbeats 2000000

/-- cons.Family -/
theorem f91 (name : ByteArray) : CallSpec Tryz.prog 91 [.v (.string name)] (.v (.string (findRow name).fam)) := by
  have F := Facts.cons (f158 name) (Facts.nil Tryz.prog)
  refine CallSpec.of_LW ok Tryz.func91 (by kernel_rfl) rfl (by simp [Tryz.ntmps91]) ?_
  refine LW.sr ok F (by decide) (by simp; rfl) ?_
  refine LW.sr ok F (by decide) (by simp [rwC]; rfl) (LW.retk (by simp [Tryz.f91, resL, resOne]))

/-- cons.Form -/
theorem f159 (name : ByteArray) : CallSpec Tryz.prog 159 [.v (.string name)] (.v (.string (findRow name).form)) := by
  have F := Facts.cons (f158 name) (Facts.nil Tryz.prog)
  refine CallSpec.of_LW ok Tryz.func159 (by kernel_rfl) rfl (by simp [Tryz.ntmps159]) ?_
  refine LW.sr ok F (by decide) (by simp; rfl) ?_
  refine LW.sr ok F (by decide) (by simp [rwC]; rfl) (LW.retk (by simp [Tryz.f159, resL, resOne]))
end Go.LI.T
namespace Go.LI.T
open Go Go.LI Go.Proofs
set_option maxRecDepth 100000
set_option maxHeartbeats 4000000

/-- tool.holds, where no argument is a truth -/
theorem f95 (X L : LV) (c : Cn) (ss vs : List (List LV)) (g : Nat) (b : Bool) (e : Int) (hX : ListAre AgAre X c.args) (hx : X.asList = some ss) (hL : L.asList = some vs) (hv : ∀ e ∈ vs, ∃ v, ValAre e v) (hin : VarsIn c vs.length)
    (hl1 : ss.length < 1000000) (hl2 : ∀ a ∈ c.args, a.l.length < 1000000) (htr : CallSpec Tryz.prog 122 [.v (.string c.name)] nilV)
    (hm : CallSpec Tryz.prog g [.v (.string c.name), seqV (ss.map (agC vs))] (.tup [.v (.bool b), .v (.int .i64 e)])) :
    CallSpec Tryz.prog 95 [.agg [.v (.string c.name), X], L, .v (.func (.func g) #[] #[])] (.tup [.v (.bool b), .v (.int .i64 e)]) := by
  obtain ⟨x1, x2, x3, x4, x5⟩ := asList_one hx
  obtain ⟨l1, l2, l3, l4, l5⟩ := asList_one hL
  have hval := f166 X L c ss vs hX hx hL hv hin hl1 hl2
  have hA := seqV_asList (ss.map (agC vs))
  obtain ⟨a1, a2, a3, a4, a5⟩ := asList_one hA
  generalize seqV (ss.map (agC vs)) = A at *
  have F0 := Facts.nil Tryz.prog
  have F1 := Facts.cons hval F0
  have F2 := Facts.cons htr F0
  have F3 := Facts.cons hm F0
  refine CallSpec.of_LW ok Tryz.func95 (by kernel_rfl) rfl (by simp [Tryz.ntmps95]) ?_
  refine LW.sr ok F0 (by decide) (by simp [x1]; rfl) ?_
  refine LW.sr ok F1 (by decide) (by simp [x1, x2, l2]; rfl) ?_
  refine LW.seq (LW.sr ok F2 (by decide) (by simp [nilV]; rfl) (LW.block (LW.loop (fun k s => k = 0 ∧ s.t 2 = .v (.func (.func g) #[] #[]) ∧ s.t 3 = .ptr 3 1 0 ∧ s.b 3 1 = some [(.v (.string c.name), (0, 0)), (X, (0, 0))] ∧ s.t 8 = A ∧ s.t 19 = .v (.int .i64 0) ∧ s.t 20 = .v (.int .i64 0))
    (k := 0) ⟨by simp, by simp, by simp, by simp, by simp, by simp, by simp⟩ ?_)))
  rintro k s ⟨hk, h2, h3, hb, h8, h19, h20⟩
  refine LW.sr ok F0 (by decide) (by simp [h19, h20]; rfl) ?_
  refine LW.seq ?_
  refine LW.cf (by simp) (LW.exit ?_)
  refine LW.sr ok F3 (by decide) (by simp [h2, h3, hb, h8, a2]; rfl) (LW.retk ?_)
  simp [Tryz.f95, resL, resOne]
end Go.LI.T
namespace Go.LI.T
open Go Go.LI Go.Proofs
set_option maxRecDepth 100000
set_option maxHeartbeats 2000000

/-- tool.rightVal, of a number -/
theorem f94 (S : LV) (v : V) (hS : IntsAre S v.s) (h0 : v.set = false) :
    CallSpec Tryz.prog 94 [.agg (valC v S)] (.v (.bool (decide (v.s = []) && decide (-1000000 ≤ v.n) && decide (v.n ≤ 1000000)))) := by
  have F := Facts.nil Tryz.prog
  have hl : S.asList = _ := hS
  obtain ⟨s1, s2, s3, s4, s5⟩ := asList_one hS
  refine CallSpec.of_LW ok Tryz.func94 (by kernel_rfl) rfl (by simp [Tryz.ntmps94]) ?_
  refine LW.sr ok F (by decide) (by simp [valC, s1]; rfl) ?_
  refine LW.seq (LW.sr ok F (by decide) (by simp; rfl) (LW.cf (by simp [h0]) (LW.skip ?_)))
  by_cases h1 : v.s = []
  · by_cases h2 : -1000000 ≤ v.n
    · refine LW.sr ok F (by decide) (by simp [hl, h1, h2]; rfl) (LW.retk (by simp [Tryz.f94, resL, resOne, h1, h2]))
    · refine LW.sr ok F (by decide) (by simp [hl, h1, h2]; rfl) (LW.retk (by simp [Tryz.f94, resL, resOne, h1, h2]))
  · refine LW.sr ok F (by decide) (by simp [hl, h1]; rfl) (LW.retk (by simp [Tryz.f94, resL, resOne, h1]))
end Go.LI.T
namespace Go.LI.T
open Go Go.LI Go.Proofs
set_option maxRecDepth 100000
set_option maxHeartbeats 2000000

/-- What is asked by a letter: which function. -/
def byF (n : Int) : Nat := if n = 105 then 222 else if n = 98 then 223 else if n = 115 then 224 else if n = 73 then 225 else if n = 66 then 226 else 227

/-- cons.asker.by -/
theorem f161 (K : LV) (n : Int) (hK : K.one = true) (hp : K.plain = true) : CallSpec Tryz.prog 161 [.agg [K], .v (.int .u8 n)] (.fn (byF n) [.agg [K]] []) := by
  have F := Facts.nil Tryz.prog
  refine CallSpec.of_LW ok Tryz.func161 (by kernel_rfl) rfl (by simp [Tryz.ntmps161]) ?_
  refine LW.sr ok F (by decide) (by simp [hK]; rfl) ?_
  refine LW.seq (LW.sr ok F (by decide) (by simp; rfl) (LW.block (LW.sr ok F (by decide) (by simp; rfl) ?_)))
  unfold byF
  by_cases h1 : n = 105
  · exact LW.ct (by simp [h1]) (LW.sr ok F (by decide) (by simp [hp]; rfl) (LW.ret (by show resL _ _ _ = _; simp [Tryz.f161, resL, resOne, h1])))
  refine LW.cf (by simp [h1]) (LW.sr ok F (by decide) (by simp; rfl) ?_)
  by_cases h2 : n = 98
  · exact LW.ct (by simp [h2]) (LW.sr ok F (by decide) (by simp [hp]; rfl) (LW.ret (by show resL _ _ _ = _; simp [Tryz.f161, resL, resOne, h2])))
  refine LW.cf (by simp [h2]) (LW.sr ok F (by decide) (by simp; rfl) ?_)
  by_cases h3 : n = 115
  · exact LW.ct (by simp [h3]) (LW.sr ok F (by decide) (by simp [hp]; rfl) (LW.ret (by show resL _ _ _ = _; simp [Tryz.f161, resL, resOne, h3])))
  refine LW.cf (by simp [h3]) (LW.sr ok F (by decide) (by simp; rfl) ?_)
  by_cases h4 : n = 73
  · exact LW.ct (by simp [h4]) (LW.sr ok F (by decide) (by simp [hp]; rfl) (LW.ret (by show resL _ _ _ = _; simp [Tryz.f161, resL, resOne, h4])))
  refine LW.cf (by simp [h4]) (LW.sr ok F (by decide) (by simp; rfl) ?_)
  by_cases h5 : n = 66
  · exact LW.ct (by simp [h5]) (LW.sr ok F (by decide) (by simp [hp]; rfl) (LW.ret (by show resL _ _ _ = _; simp [Tryz.f161, resL, resOne, h5])))
  refine LW.cf (by simp [h5]) (LW.skip ?_)
  refine LW.sr ok F (by decide) (by simp [hp]; rfl) (LW.retk ?_)
  simp [Tryz.f161, resL, resOne, h1, h2, h3, h4, h5]
end Go.LI.T
namespace Go.LI.T
open Go Go.LI Go.Proofs
set_option maxRecDepth 100000
set_option maxHeartbeats 1000000
/-- cons.asker.number -/
theorem f274 (K S : LV) (t : Tm) (lo hi : Int) (hK : K.one = true) (hS : IntsAre S t.c.s) :
    CallSpec Tryz.prog 274 [.agg [K], .agg (tmC t S), .v (.int .i64 lo), .v (.int .i64 hi)] (.v (.bool (decide (t.var = -1) && !t.c.set && decide (t.c.s = []) && decide (lo ≤ t.c.n) && decide (t.c.n ≤ hi)))) := by
  have F := Facts.nil Tryz.prog
  have hl : S.asList = _ := hS
  obtain ⟨s1, s2, s3, s4, s5⟩ := asList_one hS
  refine CallSpec.of_LW ok Tryz.func274 (by kernel_rfl) rfl (by simp [Tryz.ntmps274]) ?_
  refine LW.sr ok F (by decide) (by simp [tmC, s1, hK]; rfl) ?_
  by_cases h1 : t.var = -1
  · by_cases h2 : t.c.set = true
    · refine LW.sr ok F (by decide) (by simp [h1, h2, hl]; rfl) (LW.retk (by simp [Tryz.f274, resL, resOne, h1, h2]))
    · by_cases h3 : t.c.s = []
      · by_cases h4 : lo ≤ t.c.n
        · refine LW.sr ok F (by decide) (by simp [h1, h2, h3, h4, hl]; rfl) (LW.retk (by simp [Tryz.f274, resL, resOne, h1, h2, h3, h4]))
        · refine LW.sr ok F (by decide) (by simp [h1, h2, h3, h4, hl]; rfl) (LW.retk (by simp [Tryz.f274, resL, resOne, h1, h2, h3, h4]))
      · refine LW.sr ok F (by decide) (by simp [h1, h2, h3, hl]; rfl) (LW.retk (by simp [Tryz.f274, resL, resOne, h1, h2, h3]))
  · refine LW.sr ok F (by decide) (by simp [h1, hl]; rfl) (LW.retk (by simp [Tryz.f274, resL, resOne, h1]))
end Go.LI.T
