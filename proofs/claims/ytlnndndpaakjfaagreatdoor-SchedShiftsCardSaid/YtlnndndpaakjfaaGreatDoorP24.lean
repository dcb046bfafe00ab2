/- Texts of a small semantics over the model and of specifications of functions, joined: K13. -/
import Derived.Test.YtlnndndpaakjfaaGreatDoorP21
import Derived.Test.YtlnndndpaakjfaaGreatDoorP22
import Derived.Test.YtlnndndpaakjfaaGreatDoorP23
set_option linter.unusedSimpArgs false
set_option linter.unusedVariables false
/- The fixed calls of the statements of chapter 13, carried out. -/
namespace Go.LI.T
open Go Go.LI Go.Proofs
set_option maxRecDepth 100000
set_option maxHeartbeats 4000000

def factX : Nat → List LV → Option LV
  | 158, [.v (.string n)] => some (.agg (rwC (findRow n)))
  | 313, [.v (.string s), .v (.int .u8 c)] => some (.v (.int .i64 (countB s c.toNat.toUInt8)))
  | 350, [.v (.string s), .v (.int .u8 c)] => some (.v (.int .i64 (firstIdx s c.toNat.toUInt8)))
  | 391, [.v (.int .u64 x), .v (.int .u64 y), .v (.int .u64 c)] => if 0 ≤ x ∧ 0 ≤ y ∧ 0 ≤ c ∧ c ≤ 1 then some (.tup [.v (.int .u64 ((x + y + c) % 18446744073709551616)), .v (.int .u64 ((x + y + c) / 18446744073709551616))]) else none
  | _, _ => none

theorem factX_ok : ∀ f args r, factX f args = some r → CallSpec Tryz.prog f args r := by
  intro f args r h
  unfold factX at h
  split at h
  · cases h; exact f158 _
  · cases h; exact f313 _ _
  · cases h; exact f350 _ _
  · rename_i x y c
    split at h
    · rename_i hc
      cases h
      exact f391 x y c hc.1 hc.2.1 hc.2.2.1 hc.2.2.2
    · cases h
  · cases h

def methX (t : Nat) (n : String) : Option Nat :=
  if n = "jigsaw/sched.holds" then
    match t with
    | 161 => some 380
    | 164 => some 219
    | 166 => some 383
    | 168 => some 385
    | 170 => some 387
    | 215 => some 392
    | _ => none
  else none

def notPtr : TypeDesc → Bool
  | .pointer _ => false
  | _ => true

/-- A method with a receiver that is a value: asked of the tables. -/
def methChk (P : Program) (t : Nat) (name : String) (f : Nat) : Bool :=
  !(Nat.beq (P.types.size + Made.depth) 0) && match P.info? t, P.underlying t with
    | some i, some d => notPtr d && match i.methods.find? (fun x => x.name == name) with
      | some m => Nat.beq m.path.size 0 && match m.func with
        | some (g, b) => Nat.beq g f && !b
        | none => false
      | none => false
    | _, _ => false

theorem methChk_ok {P : Program} {t : Nat} {name : String} {f : Nat} (h : methChk P t name f = true) : MethOk P t name f := by
  unfold methChk at h
  rw [Bool.and_eq_true] at h
  obtain ⟨h0, h⟩ := h
  split at h
  · rename_i i d hi hu
    rw [Bool.and_eq_true] at h
    obtain ⟨h1, h⟩ := h
    split at h
    · rename_i m hm
      rw [Bool.and_eq_true] at h
      obtain ⟨h2, h⟩ := h
      split at h
      · rename_i g b hf
        rw [Bool.and_eq_true] at h
        obtain ⟨h3, h4⟩ := h
        have e1 := Nat.eq_of_beq_eq_true h3
        have e2 : b = false := by simpa using h4
        subst e1; subst e2
        refine methOk_of (fun h => ?_) hi hm ?_ hf hu (fun e he => ?_)
        · rw [h] at h0; cases h0
        · have := Nat.eq_of_beq_eq_true h2
          exact Array.eq_empty_of_size_eq_zero this
        · rw [he] at h1; cases h1
      · cases h
    · cases h
  · cases h

theorem m161 : methChk Tryz.prog 161 "jigsaw/sched.holds" 380 = true := by kernel_rfl
theorem m164 : methChk Tryz.prog 164 "jigsaw/sched.holds" 219 = true := by kernel_rfl
theorem m166 : methChk Tryz.prog 166 "jigsaw/sched.holds" 383 = true := by kernel_rfl
theorem m168 : methChk Tryz.prog 168 "jigsaw/sched.holds" 385 = true := by kernel_rfl
theorem m170 : methChk Tryz.prog 170 "jigsaw/sched.holds" 387 = true := by kernel_rfl
theorem m215 : methChk Tryz.prog 215 "jigsaw/sched.holds" 392 = true := by kernel_rfl

theorem methX_ok : ∀ t n f, methX t n = some f → MethOk Tryz.prog t n f := by
  intro t n f h
  unfold methX at h
  split at h
  · rename_i hn
    subst hn
    split at h <;> cases h
    · exact methChk_ok m161
    · exact methChk_ok m164
    · exact methChk_ok m166
    · exact methChk_ok m168
    · exact methChk_ok m170
    · exact methChk_ok m215
  · cases h

def rmX : Nat → Nat → Bool
  | 219, _ => true
  | 60, 73 => true
  | 93, _ => true
  | 305, _ => true
  | 255, _ => true
  | _, _ => false
def hvX : Nat → Nat → Bool
  | 60, 73 => true
  | 123, 50 => true
  | 255, 21 => true
  | 219, 59 => true
  | 216, 45 => true
  | _, _ => false

def memN (k : Nat) : List Nat → Bool
  | [] => false
  | x :: r => cond (Nat.beq k x) true (memN k r)

theorem memN_mem {k : Nat} : ∀ {l : List Nat}, memN k l = true → k ∈ l
  | [], h => by cases h
  | x :: r, h => by
    unfold memN at h
    cases hb : Nat.beq k x with
    | true => rw [Nat.eq_of_beq_eq_true hb]; simp
    | false => rw [hb] at h; exact List.mem_cons_of_mem _ (memN_mem h)

def fnL13 : List Nat := [37,39,40,43,44,57,58,60,73,79,89,90,91,92,93,94,95,115,116,118,119,121,122,123,124,125,143,148,153,159,160,161,162,163,164,166,167,179,180,182,189,190,191,192,193,194,195,197,201,203,216,217,219,221,222,225,228,229,230,231,232,234,235,236,237,248,249,250,252,253,255,256,258,259,261,265,308,200,264,266,267,268,269,270,272,273,274,276,277,278,279,281,290,291,302,305,306,307,308,309,310,314,315,328,329,330,331,340,346,352,380,381,382,387,388,389,390]

noncomputable def codeOkF (f : Nat) : Bool := match Tryz.prog.funcs[f]? with
  | some fn => match fn.body with
    | some c => codeOk (hvX f) fn.ntmps c && !(fn.name == "runtime.NumGoroutine")
    | none => !(fn.name == "runtime.NumGoroutine")
  | none => true

def iter13 (f : Nat) (caps : List LV) (objs : List (List LV)) : Option (List (List LV)) :=
  match f, caps, objs with
  | 260, [.el [.list [[.v (.int .i64 0), .v (.int .i64 5)]]]], [] => some (valsL [(0, 5)])
  | _, _, _ => none

noncomputable def T13 : XT where
  fn := fun f => cond (memN f fnL13) (Tryz.prog.funcs[f]?) none
  fact := factX
  meth := methX
  rm := rmX
  hv := hvX
  keep := fun _ => false
  eqs := fun t => if t = 84 then some 2 else none
  iter := iter13
  frz := fun f r => if f = 305 ∧ r = 22 then [7] else []
end Go.LI.T
