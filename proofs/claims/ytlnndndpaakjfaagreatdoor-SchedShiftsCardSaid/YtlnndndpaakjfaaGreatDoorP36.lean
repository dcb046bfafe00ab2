/- Texts of a small semantics over the model and of specifications of functions, joined: C1. -/
import Derived.Test.YtlnndndpaakjfaaGreatDoorP35
import Derived.Test.YtlnndndpaakjfaaGreatDoorCards
import Derived.Test.YtlnndndpaakjfaaGreatDoorTie
import Derived.WalkKit
import Derived.ProofKit
import Derived.OpenShut
import Derived.Deep.DeepHandedRow
import Derived.Lib.LaidTab
import Derived.Carry
set_option linter.unusedSimpArgs false
set_option linter.unusedVariables false
namespace Go.Proofs.YtlnndndpaakjfaaGreatDoor.schedShifts
set_option maxRecDepth 100000
set_option maxHeartbeats 2000000
open Go Go.ChangeShapes Go.WideShapes Go.ChangeAt Go.RowKit

theorem own : ownKnob Tryz.prog.godebug = none := by kernel_rfl
theorem laidOut : laidOutB Tryz.prog = true := by kernel_rfl
theorem cells2 : Tryz.prog.cellsOf 2 = 1 := by kernel_rfl

theorem wf_int {n : Int} (_ : (Lit.int .i64 n).wf = true) : (Value.int .i64 n).oneCell' = true := rfl

/-- An argument of whole numbers, opened: what it reads as in the small semantics, through cells that are old. -/
theorem opened {H : Type} {enc : TypeId × Value → H} {W : World} {v : Value} {d0 : DataW H} {p : List MemPlace} {a0 : Option Addr} {len cap : Nat} (hv : v = .slice a0 len cap)
    (h0 : DataW.Trod enc Tryz.prog W 0 (fun _ => true) true 47 v d0 p) (hlt : ∀ x ∈ p, x.block < W.heap.size) :
    ∃ (l : Go.LI.LV) (ns : List Int), Go.LI.T.IntsAre l ns ∧ Go.LI.Rd (fun k _ => k < W.heap.size) W l v := by
  subst hv
  obtain ⟨fuel, hf⟩ := h0
  rcases open_ints Tryz.underlying47 Tryz.underlying2 cells2 hf with ⟨hcs, hx⟩ | ⟨a, len', cap', zs, hcs, _, hl, hm, hz, hx, hcell, hwz⟩
  · simp [Value.cells] at hcs
    obtain ⟨rfl, rfl, rfl⟩ := hcs
    exact ⟨.v (.slice none 0 0), [], rfl, .v _ rfl⟩
  · simp [Value.cells] at hcs
    obtain ⟨rfl, rfl, rfl⟩ := hcs
    simp only [if_true] at hz
    simp only [Prod.mk.injEq] at hx
    obtain ⟨rfl, rfl⟩ := hx
    have hll : ((zs.take len).map fun n => [Go.LI.LV.v (.int .i64 n)]).length = len := by simp; omega
    refine ⟨.list ((zs.take len).map fun n => [Go.LI.LV.v (.int .i64 n)]), zs.take len, rfl, ?_⟩
    have hr := Go.LI.Rd.list (Pr := fun k _ => k < W.heap.size) (W := W) (xs := (zs.take len).map fun n => [Go.LI.LV.v (.int .i64 n)]) (A := some a) (c := cap) 1 (fun j _ => .int .i64 (zs.getD j 0)) (by rw [hll]; exact hl) (by rw [hll]; exact Nat.le_trans (Nat.le_trans hl hm) (by decide)) (by intro e he; obtain ⟨n, _, rfl⟩ := List.mem_map.1 he; rfl)
      (fun _ => ⟨a, rfl, fun j e i l hj hi => ?_⟩) (fun j e i l hj hi => ?_)
    · rw [hll] at hr; exact hr
    · rw [List.getElem?_map] at hj
      obtain ⟨n, hn, rfl⟩ := Option.map_eq_some_iff.1 hj
      have hjl : j < len := by have := (List.getElem?_eq_some_iff.1 hn).1; simp at this; omega
      obtain rfl : i = 0 := by have := (List.getElem?_eq_some_iff.1 hi).1; simpa using this
      simp only [Nat.mul_one, Nat.add_zero]
      refine ⟨hcell j (by omega), rfl, ?_⟩
      rw [block_add]
      obtain ⟨x, hx, hb⟩ : ∃ x ∈ MemPlace.row a zs.length, x.block = a.block := by
        cases zs with
        | nil => simp at hz; omega
        | cons z zs => exact ⟨.cell a.block a.off, by simp [MemPlace.row], rfl⟩
      have := hlt x hx
      omega
    · rw [List.getElem?_map] at hj
      obtain ⟨n, hn, rfl⟩ := Option.map_eq_some_iff.1 hj
      obtain rfl : i = 0 := by have := (List.getElem?_eq_some_iff.1 hi).1; simpa using this
      simp only [List.getElem?_cons_zero, Option.some.injEq] at hi
      subst hi
      have hjl : j < len := by have := (List.getElem?_eq_some_iff.1 hn).1; simp at this; omega
      have : zs[j]? = some n := by rw [List.getElem?_take, if_pos hjl] at hn; exact hn
      simp only [List.getD, this, Option.getD_some]
      exact .v _ rfl
theorem f16_calls (Pr : Nat → Nat → Prop) (W : World) (v0 v1 : Value) (k : Int) (l0 l1 : Go.LI.LV) (n0 n1 : List Int) (hp : ∀ k o, Pr k o → k < W.heap.size) (h0 : Go.LI.T.IntsAre l0 n0) (h1 : Go.LI.T.IntsAre l1 n1) (r0 : Go.LI.Rd Pr W l0 v0) (r1 : Go.LI.Rd Pr W l1 v1) :
    Calls Tryz.prog 16 #[v0, v1, .int .i64 k] W fun e W' => e = .returned (.bool true) ∧ Below W.heap.size W W' := by
  rcases Go.LI.T.f16 l0 l1 n0 n1 k h0 h1 with ⟨_, h⟩ | h
  · refine Calls.mono (h Pr W [v0, v1, .int .i64 k] hp rfl (fun i l u hl hu => ?_)) ?_
    · match i with
      | 0 => cases hl; cases hu; exact r0
      | 1 => cases hl; cases hu; exact r1
      | 2 => cases hl; cases hu; exact .v _ rfl
    · rintro e W' ⟨u, rfl, hb, hr⟩
      cases hr
      exact ⟨rfl, hb.to⟩
  · obtain ⟨u, h3, _⟩ := h Pr W [v0, v1, .int .i64 k] rfl (fun i l u hl hu => by
      match i with
      | 0 => cases hl; cases hu; exact r0
      | 1 => cases hl; cases hu; exact r1
      | 2 => cases hl; cases hu; exact .v _ rfl)
    have := enters_of Tryz.func16 (by kernel_rfl) rfl [v0, v1, .int .i64 k].toArray W
    rw [this] at h3
    cases h3

theorem contract (H : Type) (enc : TypeId × Value → H) (W : World) (base : Nat) (args : Array Value) (ds gs : List (DataW H)) (before : List MemPlace)
    (hval : ∀ (j : Nat) t v, Tryz.f16.params[j]? = some t → args[j]? = some v → Value.okWide Tryz.prog W .any base t v)
    (hW : DataW.Whole enc Tryz.prog Tryz.f16.params.toList Rows.schedShiftsSpec.vars false W args.toList ds gs before) :
    Calls Tryz.prog 16 args W fun e W' => ∃ v, e = .returned v ∧ Rows.schedShiftsSpec.post enc Tryz.prog Tryz.f16 false true false false W args v W' := by
  have hW' := hW
  obtain ⟨p, q, hA0, hV, rfl, hfz, hnd⟩ := hW
  have hA : DataW.TrodAll enc Tryz.prog W 0 (fun _ => true) true Tryz.f16.params.toList args.toList ds p := hA0
  rw [Tryz.params16] at hA hval
  obtain ⟨v0, v1, v2, d0, d1, d2, p0, p1, p2, rfl, rfl, rfl, h0, h1, h2⟩ := trodAll_three hA
  obtain ⟨rfl, rfl⟩ := trodVars_none hV
  obtain ⟨a0, len0, cap0, e0⟩ := okWide_slice Tryz.underlying47 (hval 0 47 v0 rfl rfl)
  obtain ⟨a1, len1, cap1, e1⟩ := okWide_slice Tryz.underlying47 (hval 1 47 v1 rfl rfl)
  obtain ⟨n, rfl, rfl, rfl, hwn⟩ := open_int Tryz.underlying2 (hval 2 2 v2 rfl rfl) h2
  clear hA0
  simp only [List.append_nil] at hW'
  have hlt : ∀ x ∈ p0 ++ p1, x.block < W.heap.size := fun x hx => by simpa using hW'.lt x (by simpa using hx)
  obtain ⟨l0, n0, i0, r0⟩ := opened e0 h0 (fun x hx => hlt x (List.mem_append.2 (.inl hx)))
  obtain ⟨l1, n1, i1, r1⟩ := opened e1 h1 (fun x hx => hlt x (List.mem_append.2 (.inr hx)))
  refine (f16_calls (fun k _ => k < W.heap.size) W v0 v1 n l0 l1 n0 n1 (fun _ _ h => h) i0 i1 r0 r1).mono fun e W' ⟨he, hb⟩ => ?_
  subst he
  refine ⟨_, rfl, _, _, _, [], _, [], hW', ?_, trodAll_mk3 (Below.trod laidOut (by kernel_rfl) (of_decide_eq_true (by kernel_rfl)) h0 hb (fun x hx => hlt x (List.mem_append.2 (.inl hx)))) (Below.trod laidOut (by kernel_rfl) (of_decide_eq_true (by kernel_rfl)) h1 hb (fun x hx => hlt x (List.mem_append.2 (.inr hx)))) (shut_int Tryz.underlying2 hwn), rfl, hb.frame _, fun h => by cases h⟩
  exact trodAll_mk1 (shut_bool Tryz.underlying4 _)
end Go.Proofs.YtlnndndpaakjfaaGreatDoor.schedShifts
