/- Texts of a small semantics over the model and of specifications of functions, joined: LIExec, LIExecOk, LIExecOk2, Tabs. -/
import Derived.Test.YtlnndndpaakjfaaGreatDoorP11
import Derived.Test.YtlnndndpaakjfaaGreatDoorP14
set_option linter.unusedSimpArgs false
set_option linter.unusedVariables false
/- Runs that the kernel carries out: definitions. -/
namespace Go.LI
open Go Go.RowKit

/-! ### keys -/
def keysL (ls : List LV) : List (Nat × Nat) := ls.flatMap LV.keys
def eqK (p q : Nat × Nat) : Bool := Nat.beq p.1 q.1 && Nat.beq p.2 q.2
def memK (k : Nat × Nat) (ks : List (Nat × Nat)) : Bool := ks.any (eqK k)
def nodupK : List (Nat × Nat) → Bool
  | [] => true
  | k :: r => !memK k r && nodupK r

/-- The boxes to which some lead, and those to which they lead. -/
def closeK (lk : Nat → Nat → Option (List LV)) : Nat → List (Nat × Nat) → List (Nat × Nat) → List (Nat × Nat)
  | 0, _, done => done
  | _ + 1, [], done => done
  | n + 1, k :: todo, done => cond (memK k done) (closeK lk n todo done) (match lk k.1 k.2 with
    | some cs => closeK lk n (todo ++ keysL cs) (done ++ [k])
    | none => closeK lk n todo done)

def idxK : List (Nat × Nat) → Nat × Nat → Nat
  | [], _ => 0
  | q :: r, k => cond (eqK k q) 0 (idxK r k + 1)

def LV.ren1 (ks : List (Nat × Nat)) : LV → LV
  | .ptr d g off => .ptr (lentBase + idxK ks (d, g)) 0 off
  | l => l
def LV.ren (ks : List (Nat × Nat)) : LV → LV
  | .ptr d g off => .ptr (lentBase + idxK ks (d, g)) 0 off
  | .rs d g lo n sz => .rs (lentBase + idxK ks (d, g)) 0 lo n sz
  | .clo f caps => .clo f (caps.map (LV.ren1 ks))
  | l => l

/-- What lies in some boxes, if all do; renamed. -/
def objsOf (lk : Nat → Nat → Option (List LV)) (ks : List (Nat × Nat)) : List (Nat × Nat) → Option (List (List LV))
  | [] => some []
  | k :: r => match lk k.1 k.2, objsOf lk ks r with
    | some cs, some os => cond ((keysL cs).all fun q => memK q ks) (some (cs.map (LV.ren ks) :: os)) none
    | _, _ => none

def objsOf' (lk : Nat → Nat → Option (List LV)) (ks : List (Nat × Nat)) : List (Nat × Nat) → Option (List (Option (List LV)))
  | [] => some []
  | k :: r => match objsOf' lk ks r with
    | some os => match lk k.1 k.2 with
      | some cs => cond ((keysL cs).all fun q => memK q ks) (some (some (cs.map (LV.ren ks)) :: os)) none
      | none => some (none :: os)
    | none => none

namespace E
def look (e : E) : Nat → Nat → Option (List LV) := fun x y => (e.box x y).map fun c => c.map (·.1)

def frz (e : E) (d g : Nat) (cells : List LV) : E :=
  ({ e with t := e.t.map fun p => (fz d g cells p.1, p.2), b := e.b.map fun l => l.map fun q => (q.1, q.2.map fun c => c.map fun z => (fz d g cells z.1, z.2)) } : E).setB d g none

def frzs : List (Nat × Nat) → E → E
  | [], e => e
  | k :: r, e => frzs r (match e.box k.1 k.2 with
    | some cl => cond (small k.1 && !e.mkd k.1 k.2 && cl.all fun c => c.1.plain) (e.frz k.1 k.2 (cl.map (·.1))) e
    | none => e)

def rootOf (e : E) : ResultVar → List (Nat × Nat)
  | .tmp t => (e.toS.t t).keys
  | .cell x _ => match e.toS.t x with
    | .ptr d g _ => match e.look d g with
      | some cs => keysL cs
      | none => []
    | _ => []

def forget (e : E) : E := { e with t := e.t.map fun p => (p.1, (0, 0)), tv := .leaf, tvf := fun t => e.tok t + 1 }

def kills (e : E) : List (Nat × Nat) → E
  | [] => e
  | k :: r => (e.setB k.1 k.2 none).kills r

def sets (e : E) : List (Nat × LV) → E
  | [] => e
  | q :: r => ({ e with t := Tr.set 24 e.t q.1 (q.2, (0, 0)) } : E).sets r

def back (e e2 : E) : E := { e2 with t := e.t.map fun p => (p.1, (0, 0)), tv := .leaf, tvf := fun t => e2.tok t + 1 }

def setT : List LV → Nat → Tr (LV × Tag) → Tr (LV × Tag)
  | [], _, t => t
  | a :: r, i, t => setT r (i + 1) (Tr.set 24 t i (a, (0, 0)))

def setO (B : Nat) : List (List LV) → Nat → E → E
  | [], _, e => e
  | o :: r, i, e => setO B r (i + 1) (e.setB (B + i) 0 (some (o.map fun c => (c, (0, 0)))))

def start (args : List LV) (objs : List (List LV)) : E := setO lentBase objs 0 { t := setT args 0 .leaf }
end E

/-- What a run may look up. -/
structure XT where
  fn : Nat → Option Func
  fact : Nat → List LV → Option LV
  meth : Nat → String → Option Nat
  rm : Nat → Nat → Bool
  eqs : Nat → Option Nat
  hv : Nat → Nat → Bool
  /-- What these functions return is not frozen. -/
  keep : Nat → Bool
  iter : Nat → List LV → List (List LV) → Option (List (List LV))
  /-- What these temporaries lead to is turned no more from this region on (function, region). -/
  frz : Nat → Nat → List Nat := fun _ _ => []

section
variable (τ : Tab) (T : XT)

def endOk : Exit → Bool
  | .normal => true
  | .ret => true
  | _ => false

def callX (rec : Nat → Code → E → Option (Exit × E)) (f : Nat) (args : List LV) : Option LV :=
  match T.fact f args with
  | some r => some r
  | none => match T.fn f with
    | some fn => match fn.body with
      | some c => cond (Nat.ble args.length fn.ntmps && Nat.ble args.length 1000 && args.all LV.plain) (match rec f c (E.start args []) with
        | some (x, e) => cond (endOk x) (resL τ fn.results (E.frzs (cond (T.keep f) [] (closeK e.look 200 (fn.results.toList.flatMap e.rootOf) []).reverse) e).toS) none
        | none => none) none
      | none => none
    | none => none

/-- What is told as a tuple is frozen. -/
def frzR (f : Nat) (results : Array ResultVar) (e : E) : E :=
  match results.toList with
  | [.tmp _] => e
  | l => E.frzs (cond (T.keep f) [] (closeK e.look 200 (l.flatMap e.rootOf) []).reverse) e

def lendX (rec : Nat → Code → E → Option (Exit × E)) (f : Nat) (args : List LV) (lk : Nat → Nat → Option (List LV)) : Option Lend :=
  match T.fn f with
  | some fn => match fn.body with
    | some c =>
      let ks := closeK lk 200 (keysL args) []
      match objsOf lk ks ks with
      | some objs =>
        cond ((T.keep f || Nat.blt 0 ks.length) && nodupK ks && ((keysL args).all fun q => memK q ks) && Nat.ble args.length fn.ntmps && Nat.ble args.length 1000 && Nat.ble ks.length 1000) (match rec f c (E.start (args.map (LV.ren ks)) objs) with
          | some (x, e1) =>
            let e := frzR T f fn.results e1
            match resH τ fn.results e.toS with
            | some r0 =>
              let KS := closeK e.look 200 (r0.keys ++ (lentKeys ks.length).flatMap fun k => match e.look k.1 k.2 with | some cs => keysL cs | none => []) (lentKeys ks.length)
              match objsOf' e.look KS KS with
              | some objs' => cond (endOk x && nodupK KS && (r0.keys.all fun q => memK q KS) && (KS.take ks.length == lentKeys ks.length)) (some { ks := ks, objs := objs, r := r0.ren KS, objs' := objs' }) none
              | none => none
            | none => none
          | none => none) none
      | none => none
    | none => none
  | none => none

def envX (rec : Nat → Code → E → Option (Exit × E)) (f : Nat) : Env where
  call := callX τ T rec
  lend := lendX τ T rec
  meth := T.meth
  rm := T.rm f
  eqs := T.eqs

def eSteps (Γ : Env) (ops : Array Oper) : List Oper → E → Option E
  | [], e => some e
  | o :: r, e => match wantedL ops e.toS o with
    | some true => match eff τ Γ e.toS o with
      | some u => match e.app u o.dst with
        | some e' => eSteps Γ ops r e'
        | none => none
      | none => none
    | some false => cond (E.smallO o.dst) (eSteps Γ ops r (e.put o.dst (.tup []) (0, 0))) none
    | none => none

def eStepsH (Γ : Env) (hv : Nat → Bool) (ops : Array Oper) : List Oper → E → Option E
  | [], e => some e
  | o :: r, e => match effH τ Γ hv ops e.toS o with
    | some u => match e.app u o.dst with
      | some e' => eStepsH Γ hv ops r e'
      | none => none
    | none => none

/-- The rounds of a range over values. -/
def rounds (rec : Code → E → Option (Exit × E)) (ps : List Nat) (assign body : Code) (e0 : E) : List (List LV) → E → Option (Exit × E)
  | [], e => some (.normal, e)
  | y :: ys, e => match rec assign (e.forget.sets (ps.zip y)) with
    | some (.normal, e1) => match rec body e1 with
      | some (.normal, e2) => rounds rec ps assign body e0 ys (e0.back e2)
      | some (.ret, e2) => some (.ret, e0.back e2)
      | some (.exit i, e2) => some (.exit i, e0.back e2)
      | _ => none
    | _ => none

def run : Nat → Nat → Code → E → Option (Exit × E)
  | 0, _, _, _ => none
  | k + 1, f, c, e =>
    match c with
    | .skip => some (.normal, e)
    | .label _ => some (.normal, e)
    | .exit i => some (.exit i, e)
    | .ret => some (.ret, e)
    | .seq x y => match run k f x e with
      | some (.normal, e') => run k f y e'
      | r => r
    | .cond c x y => match e.toS.eval c with
      | .v (.bool b) => cond b (run k f x e) (run k f y e)
      | _ => none
    | .block i c => match run k f c e with
      | some (.exit j, e') => some (cond (Nat.beq j i) .normal (.exit j), e')
      | r => r
    | .loop c => match run k f c e with
      | some (.normal, e') => run k f (.loop c) e'
      | r => r
    | .scope c => match run k f c e with
      | some (.goto _, _) => none
      | r => r
    | .region id ops draw =>
      let e := E.frzs ((T.frz f id).flatMap fun t => (e.toS.t t).keys) e
      match cond draw (eStepsH τ (envX τ T (run k) f) (T.hv f) ops ops.toList e) (eSteps τ (envX τ T (run k) f) ops ops.toList e) with
      | some e' => some (.normal, e')
      | none => none
    | .rangeFunc g ps assign body =>
      match capsOf (e.toS.eval g) with
      | some (fi, caps) =>
        let ks := closeK e.look 200 (keysL caps) []
        match objsOf e.look ks ks with
        | some objs => cond (nodupK ks && ((keysL caps).all fun q => memK q ks) && (ks.all fun q => E.small q.1) && ps.toList.all fun p => Nat.ble p 1000000) (match T.iter fi (caps.map (LV.ren ks)) objs with
          | some ys => cond (ys.all fun y => Nat.beq y.length ps.size) (rounds (run k f) ps.toList assign body e ys (e.kills ks).forget) none
          | none => none) none
        | none => none
      | none => none
    | _ => none

end

/-- What is asked of the code of a function. -/
def codeOk (hv : Nat → Bool) (n : Nat) : Code → Bool
  | .skip => true
  | .label _ => true
  | .exit _ => true
  | .ret => true
  | .seq x y => codeOk hv n x && codeOk hv n y
  | .cond _ x y => codeOk hv n x && codeOk hv n y
  | .block _ c => codeOk hv n c
  | .loop c => codeOk hv n c
  | .scope c => codeOk hv n c
  | .region _ ops draw => dstsOk n ops && (!draw || drawOkH hv ops)
  | .rangeFunc _ ps x y => (ps.toList.all fun p => decide (p < n)) && codeOk hv n x && codeOk hv n y
  | _ => false
end Go.LI
/- Runs that the kernel carries out: what they tell holds of the machine. -/
namespace Go.LI
open Go Go.RowKit

theorem eqK_iff (p q : Nat × Nat) : eqK p q = true ↔ p = q := by
  unfold eqK
  rw [Tr.beq_iff, Tr.beq_iff, Bool.and_eq_true, decide_eq_true_eq, decide_eq_true_eq, Prod.ext_iff]

theorem memK_iff (k : Nat × Nat) (ks : List (Nat × Nat)) : memK k ks = true ↔ k ∈ ks := by
  unfold memK
  rw [List.any_eq_true]
  constructor
  · rintro ⟨q, hq, h⟩
    rw [(eqK_iff k q).1 h]; exact hq
  · intro h
    exact ⟨k, h, (eqK_iff k k).2 rfl⟩

theorem nodupK_spec : ∀ (ks : List (Nat × Nat)), nodupK ks = true → ks.Nodup
  | [], _ => List.nodup_nil
  | k :: r, h => by
    simp only [nodupK, Bool.and_eq_true, Bool.not_eq_true'] at h
    refine List.nodup_cons.2 ⟨fun hm => ?_, nodupK_spec r h.2⟩
    rw [(memK_iff k r).2 hm] at h
    exact absurd h.1 (by simp)

theorem idxK_spec : ∀ (ks : List (Nat × Nat)) (k : Nat × Nat), k ∈ ks → idxK ks k < ks.length ∧ ks.getD (idxK ks k) (0, 0) = k
  | [], _, h => by cases h
  | q :: r, k, h => by
    unfold idxK
    cases he : eqK k q with
    | true =>
      have := (eqK_iff k q).1 he
      subst this
      exact ⟨by simp, by simp⟩
    | false =>
      have hr : k ∈ r := by
        rcases List.mem_cons.1 h with rfl | h
        · rw [(eqK_iff k k).2 rfl] at he; cases he
        · exact h
      obtain ⟨h1, h2⟩ := idxK_spec r k hr
      exact ⟨by simpa using h1, by simpa using h2⟩

theorem un1_ren1 {ks : List (Nat × Nat)} {l : LV} (h : ∀ k ∈ l.key1, k ∈ ks) : (l.ren1 ks).un1 ks = l := by
  cases l
  case ptr d g off =>
    obtain ⟨_, h2⟩ := idxK_spec ks (d, g) (h _ (by simp [LV.key1]))
    simp only [LV.ren1, LV.un1, Nat.add_sub_cancel_left, h2]
  all_goals rfl

theorem un_ren {ks : List (Nat × Nat)} {l : LV} (h : ∀ k ∈ l.keys, k ∈ ks) : (l.ren ks).un ks = l := by
  cases l
  case ptr d g off =>
    obtain ⟨_, h2⟩ := idxK_spec ks (d, g) (h _ (by simp [LV.keys]))
    simp only [LV.ren, LV.un, Nat.add_sub_cancel_left, h2]
  case rs d g lo n sz =>
    obtain ⟨_, h2⟩ := idxK_spec ks (d, g) (h _ (by simp [LV.keys]))
    simp only [LV.ren, LV.un, Nat.add_sub_cancel_left, h2]
  case clo f caps =>
    simp only [LV.ren, LV.un, List.map_map]
    congr 1
    conv => rhs; rw [← List.map_id caps]
    refine List.map_congr_left fun c hc => ?_
    exact un1_ren1 fun k hk => h k (by simp only [LV.keys, List.mem_flatMap]; exact ⟨c, hc, hk⟩)
  all_goals rfl

theorem keysIn_ren {ks : List (Nat × Nat)} {l : LV} (h : ∀ k ∈ l.keys, k ∈ ks) : KeysIn ks.length (l.ren ks) := by
  intro k hk
  cases l
  case ptr d g off =>
    simp only [LV.ren, LV.keys, List.mem_singleton] at hk
    exact ⟨_, (idxK_spec ks (d, g) (h _ (by simp [LV.keys]))).1, hk⟩
  case rs d g lo n sz =>
    simp only [LV.ren, LV.keys, List.mem_singleton] at hk
    exact ⟨_, (idxK_spec ks (d, g) (h _ (by simp [LV.keys]))).1, hk⟩
  case clo f caps =>
    simp only [LV.ren, LV.keys, List.mem_flatMap, List.mem_map] at hk
    obtain ⟨_, ⟨c, hc, rfl⟩, hk⟩ := hk
    cases c
    case ptr d g off =>
      simp only [LV.ren1, LV.key1, List.mem_singleton] at hk
      exact ⟨_, (idxK_spec ks (d, g) (h _ (by simp only [LV.keys, List.mem_flatMap]; exact ⟨_, hc, by simp [LV.key1]⟩))).1, hk⟩
    all_goals cases hk
  all_goals cases hk

theorem keysL_all {ks : List (Nat × Nat)} {ls : List LV} (h : ((keysL ls).all fun q => memK q ks) = true) : ∀ l ∈ ls, ∀ k ∈ l.keys, k ∈ ks := by
  intro l hl k hk
  refine (memK_iff k ks).1 (List.all_eq_true.1 h k ?_)
  simp only [keysL, List.mem_flatMap]
  exact ⟨l, hl, hk⟩

theorem map_un_ren {ks : List (Nat × Nat)} {ls : List LV} (h : ∀ l ∈ ls, ∀ k ∈ l.keys, k ∈ ks) : (ls.map (LV.ren ks)).map (LV.un ks) = ls := by
  rw [List.map_map]
  conv => rhs; rw [← List.map_id ls]
  exact List.map_congr_left fun l hl => un_ren (h l hl)

theorem objsOf_spec {lk : Nat → Nat → Option (List LV)} {ks : List (Nat × Nat)} : ∀ (qs : List (Nat × Nat)) (os : List (List LV)), objsOf lk ks qs = some os →
    qs.length = os.length ∧ (qs.map fun k => lk k.1 k.2) = (os.map fun o => some (o.map (LV.un ks))) ∧ ∀ o ∈ os, ∀ l ∈ o, KeysIn ks.length l
  | [], os, h => by cases h; exact ⟨rfl, rfl, fun o ho => by cases ho⟩
  | k :: r, os, h => by
    unfold objsOf at h
    split at h
    · rename_i cs os' h1 h2
      cases hc : (keysL cs).all fun q => memK q ks with
      | false => rw [hc] at h; cases h
      | true =>
        rw [hc] at h
        cases h
        obtain ⟨i1, i2, i3⟩ := objsOf_spec r os' h2
        have hk := keysL_all hc
        refine ⟨by simp [i1], by rw [List.map_cons, List.map_cons, i2, h1, map_un_ren hk], fun o ho l hl => ?_⟩
        rcases List.mem_cons.1 ho with rfl | ho
        · obtain ⟨l', hl', rfl⟩ := List.mem_map.1 hl
          exact keysIn_ren (hk l' hl')
        · exact i3 o ho l hl
    · cases h

theorem objsOf'_spec {lk : Nat → Nat → Option (List LV)} {ks : List (Nat × Nat)} : ∀ (qs : List (Nat × Nat)) (os : List (Option (List LV))), objsOf' lk ks qs = some os →
    qs.length = os.length ∧ (qs.map fun k => lk k.1 k.2) = (os.map fun o => o.map fun c => c.map (LV.un ks)) ∧ ∀ o, some o ∈ os → ∀ l ∈ o, KeysIn ks.length l
  | [], os, h => by cases h; exact ⟨rfl, rfl, fun o ho => by cases ho⟩
  | k :: r, os, h => by
    unfold objsOf' at h
    split at h
    · rename_i os' h2
      obtain ⟨i1, i2, i3⟩ := objsOf'_spec r os' h2
      split at h
      · rename_i cs h1
        cases hc : (keysL cs).all fun q => memK q ks with
        | false => rw [hc] at h; cases h
        | true =>
          rw [hc] at h
          cases h
          have hk := keysL_all hc
          refine ⟨by simp [i1], by rw [List.map_cons, List.map_cons, i2, h1]; simp only [Option.map_some, map_un_ren hk], fun o ho l hl => ?_⟩
          rcases List.mem_cons.1 ho with ho | ho
          · cases ho
            obtain ⟨l', hl', rfl⟩ := List.mem_map.1 hl
            exact keysIn_ren (hk l' hl')
          · exact i3 o ho l hl
      · rename_i h1
        cases h
        refine ⟨by simp [i1], by rw [List.map_cons, List.map_cons, i2, h1]; rfl, fun o ho l hl => ?_⟩
        rcases List.mem_cons.1 ho with ho | ho
        · cases ho
        · exact i3 o ho l hl
    · cases h

/-! ### states -/
namespace E
theorem look_eq (e : E) : e.look = LI.look e.toS := rfl

theorem get_setT : ∀ (l : List LV) (i : Nat) (t : Tr (LV × Tag)) (j : Nat), i + l.length ≤ 100000 → (setT l i t).get j = if i ≤ j ∧ j < i + l.length then some (l.getD (j - i) (.tup []), (0, 0)) else t.get j
  | [], i, t, j, _ => by
    have : ¬ (i ≤ j ∧ j < i + ([] : List LV).length) := by simp only [List.length_nil]; omega
    rw [if_neg this]
    rfl
  | a :: r, i, t, j, h => by
    simp only [List.length_cons] at h
    unfold setT
    rw [get_setT r (i + 1) _ j (by omega), Tr.get_set 24 t i _ j (by omega)]
    by_cases h1 : j = i
    · subst h1
      have h2 : ¬ (j + 1 ≤ j ∧ j < j + 1 + r.length) := by omega
      rw [if_neg h2]
      simp
    · by_cases h2 : i + 1 ≤ j ∧ j < i + 1 + r.length
      · have h3 : i ≤ j ∧ j < i + (a :: r).length := by simp only [List.length_cons]; omega
        rw [if_pos h2, if_pos h3]
        have : j - i = (j - (i + 1)) + 1 := by omega
        rw [this]
        simp
      · have h3 : ¬ (i ≤ j ∧ j < i + (a :: r).length) := by simp only [List.length_cons]; omega
        rw [if_neg h2, if_neg h3, if_neg h1]

theorem setO_other (B : Nat) : ∀ (os : List (List LV)) (i : Nat) (e : E), (setO B os i e).t = e.t ∧ (setO B os i e).g = e.g ∧ (setO B os i e).tv = e.tv ∧ (setO B os i e).tvf = e.tvf ∧ (setO B os i e).mkd = e.mkd
  | [], _, _ => ⟨rfl, rfl, rfl, rfl, rfl⟩
  | _ :: r, i, e => by
    unfold setO
    exact setO_other B r (i + 1) _

theorem ble_self (B i : Nat) : Nat.ble B (B + i) = true := by rw [Nat.ble_eq]; omega

theorem small_lent {i : Nat} (h : i ≤ 100000) : small (lentBase + i) = true := by
  have h1 : bk (lentBase + i) = 2 * i := by
    have h2 : ∀ B : Nat, cond (Nat.ble B (B + i)) (2 * (B + i - B)) (2 * (B + i) + 1) = 2 * i := fun B => by rw [ble_self]; simp
    exact h2 lentBase
  unfold small
  rw [h1, Nat.ble_eq]
  omega

theorem box_setO (B : Nat) (hB : ∀ i, i ≤ 100000 → small (B + i) = true) : ∀ (os : List (List LV)) (i : Nat) (e : E) (x y : Nat), i + os.length ≤ 100000 →
    (setO B os i e).box x y = if B + i ≤ x ∧ x < B + i + os.length ∧ y = 0 then (os[x - B - i]?).map (fun o => o.map fun c => (c, (0, 0))) else e.box x y
  | [], i, e, x, y, _ => by
    have : ¬ (B + i ≤ x ∧ x < B + i + ([] : List (List LV)).length ∧ y = 0) := by simp only [List.length_nil]; omega
    rw [if_neg this]
    rfl
  | o :: r, i, e, x, y, h => by
    simp only [List.length_cons] at h
    unfold setO
    rw [box_setO B hB r (i + 1) _ x y (by omega), box_setB (hB i (by omega))]
    by_cases h1 : x = B + i ∧ y = 0
    · obtain ⟨rfl, rfl⟩ := h1
      have h2 : ¬ (B + (i + 1) ≤ B + i ∧ B + i < B + (i + 1) + r.length ∧ 0 = 0) := by omega
      have h3 : B + i ≤ B + i ∧ B + i < B + i + (o :: r).length ∧ 0 = 0 := ⟨Nat.le_refl _, by simp only [List.length_cons]; omega, rfl⟩
      rw [if_neg h2, if_pos h3]
      simp
    · rw [if_neg h1]
      by_cases h2 : B + (i + 1) ≤ x ∧ x < B + (i + 1) + r.length ∧ y = 0
      · have h3 : B + i ≤ x ∧ x < B + i + (o :: r).length ∧ y = 0 := by simp only [List.length_cons]; omega
        rw [if_pos h2, if_pos h3]
        have : x - B - i = (x - B - (i + 1)) + 1 := by omega
        rw [this]
        simp
      · have h3 : ¬ (B + i ≤ x ∧ x < B + i + (o :: r).length ∧ y = 0) := by simp only [List.length_cons]; omega
        rw [if_neg h2, if_neg h3]

theorem toS_start {args : List LV} {objs : List (List LV)} (h1 : args.length ≤ 1000) (h2 : objs.length ≤ 1000) : (start args objs).toS = initL args objs := by
  obtain ⟨a1, a2, a3, a4, a5⟩ := setO_other lentBase objs 0 { t := setT args 0 .leaf }
  have hget : ∀ i, (start args objs).t.get i = if i < args.length then some (args.getD i (.tup []), (0, 0)) else none := by
    intro i
    unfold start
    rw [a1]
    rw [get_setT args 0 .leaf i (by omega)]
    simp [Tr.get_leaf]
  refine S.ext' rfl rfl rfl ?_ ?_ ?_ ?_ ?_ ?_
  · funext i
    simp only [toS, initL, init, hget]
    split
    · rename_i h; split at h <;> cases h; rfl
    · rename_i h
      split at h
      · cases h
      · rename_i hi
        simp [List.getD, List.getElem?_eq_none (Nat.le_of_not_lt hi)]
  · funext i
    simp only [toS, initL, init, hget]
    split
    · rename_i h; split at h <;> cases h; rfl
    · rfl
  · funext x y
    simp only [toS, initL]
    unfold start
    rw [box_setO lentBase (fun i hi => small_lent hi) objs 0 _ x y (by omega)]
    have hb : ({ t := setT args 0 .leaf } : E).box x y = none := rfl
    rw [hb]
    simp only [Nat.add_zero, Nat.sub_zero]
    by_cases h3 : lentBase ≤ x ∧ y = 0
    · rw [if_pos h3]
      by_cases h4 : x < lentBase + objs.length
      · rw [if_pos ⟨h3.1, h4, h3.2⟩]
      · rw [if_neg (fun h => h4 h.2.1), List.getElem?_eq_none (by omega)]
        rfl
    · rw [if_neg h3, if_neg (fun h => h3 ⟨h.1, h.2.2⟩)]
  · funext x
    simp only [toS, initL, init]
    unfold gen start
    rw [a2]
    rfl
  · funext x
    simp only [toS, initL, init]
    unfold tok start
    rw [a3, a4]
    rfl
  · funext x y
    simp only [toS, initL, init]
    unfold start
    rw [a5, Bool.eq_iff_iff]
    simp

theorem initL_nil (args : List LV) : initL args [] = init args := by
  refine S.ext' rfl rfl rfl rfl rfl ?_ rfl rfl rfl
  funext x y
  simp [initL, init]

theorem lookG_map (F : List (LV × Tag) → List (LV × Tag)) : ∀ (l : List (Nat × Option (List (LV × Tag)))) (g : Nat), lookG (l.map fun q => (q.1, q.2.map F)) g = (lookG l g).map F
  | [], _ => rfl
  | (g', c) :: r, g => by
    simp only [List.map_cons, lookG]
    cases Nat.beq g g' with
    | true => rfl
    | false => exact lookG_map F r g

theorem toS_frz {e : E} {d g : Nat} {cells : List LV} (h : small d = true) : (e.frz d g cells).toS = e.toS.freeze d g cells := by
  refine S.ext' rfl rfl rfl ?_ ?_ ?_ rfl rfl rfl
  · funext i
    simp only [toS, frz, setB, S.freeze, Tr.get_map]
    cases e.t.get i with
    | none => rfl
    | some p => rfl
  · funext i
    simp only [toS, frz, setB, S.freeze, Tr.get_map]
    cases e.t.get i with
    | none => rfl
    | some p => rfl
  · funext x y
    simp only [toS, S.freeze]
    unfold frz
    rw [box_setB h]
    split
    · rfl
    · unfold box
      simp only [Tr.get_map]
      cases e.b.get (bk x) with
      | none => rfl
      | some l =>
        simp only [Option.map_some]
        exact lookG_map _ l y

theorem frzs_sim {C : Ctx} {a : Act} {W : World} : ∀ (ks : List (Nat × Nat)) (e : E), Sim C e.toS a W → Sim C (e.frzs ks).toS a W
  | [], _, h => h
  | k :: r, e, h => by
    unfold frzs
    refine frzs_sim r _ ?_
    split
    · rename_i cl hb
      cases hc : small k.1 && !e.mkd k.1 k.2 && cl.all fun c => c.1.plain with
      | false => exact h
      | true =>
        simp only [Bool.and_eq_true, Bool.not_eq_true'] at hc
        rw [cond_true, toS_frz hc.1.1]
        obtain ⟨G, hG⟩ := h
        exact ⟨_, hG.freeze (s := e.toS) hb hc.1.2 hc.2⟩
    · exact h

theorem toS_forget (e : E) : e.forget.toS = e.toS.forget := by
  refine S.ext' rfl rfl rfl ?_ ?_ rfl rfl rfl rfl
  · funext i
    simp only [toS, forget, S.forget, Tr.get_map]
    cases e.t.get i <;> rfl
  · funext i
    simp only [toS, forget, S.forget, Tr.get_map]
    cases e.t.get i <;> rfl

theorem toS_kills : ∀ (ks : List (Nat × Nat)) (e : E), (ks.all fun q => small q.1) = true → (e.kills ks).toS = e.toS.kills ks
  | [], _, _ => rfl
  | k :: r, e, h => by
    simp only [List.all_cons, Bool.and_eq_true] at h
    unfold kills
    rw [toS_kills r _ h.2]
    unfold S.kills
    rw [List.foldl_cons]
    congr 1
    refine S.ext' rfl rfl rfl rfl rfl ?_ rfl rfl rfl
    funext x y
    exact box_setB h.1 x y

theorem toS_sets : ∀ (qs : List (Nat × LV)) (e : E), (∀ q ∈ qs, q.1 ≤ 1000000) → (∀ i, e.toS.o i = (0, 0)) → (e.sets qs).toS = { e.toS with t := qs.foldl (fun t q => upd t q.1 q.2) e.toS.t }
  | [], _, _, _ => rfl
  | q :: r, e, h, ho => by
    unfold sets
    have hq : q.1 + 1 < 2 ^ 24 := by have := h q (by simp); omega
    have ht : ({ e with t := Tr.set 24 e.t q.1 (q.2, (0, 0)) } : E).toS = { e.toS with t := upd e.toS.t q.1 q.2 } := by
      refine S.ext' rfl rfl rfl ?_ ?_ rfl rfl rfl rfl
      · funext i
        simp only [toS, upd]
        rw [Tr.get_set _ _ _ _ _ hq]
        by_cases hi : i = q.1
        · simp [hi]
        · simp [hi]
      · funext i
        have := ho i
        simp only [toS] at this ⊢
        rw [Tr.get_set _ _ _ _ _ hq]
        by_cases hi : i = q.1
        · subst hi
          rw [if_pos rfl]
          exact this.symm
        · rw [if_neg hi]
    rw [toS_sets r _ (fun q' h' => h q' (by simp [h'])) (fun i => by rw [ht]; exact ho i), ht]
    rfl

theorem toS_round {e : E} {ps : List Nat} {y : List LV} (h : ∀ p ∈ ps, p ≤ 1000000) : (e.forget.sets (ps.zip y)).toS = roundS e.toS ps y := by
  rw [toS_sets _ _ (fun q hq => h q.1 (List.of_mem_zip hq).1) (fun i => by rw [toS_forget]; rfl), toS_forget]
  rfl

theorem toS_back (e e2 : E) : (e.back e2).toS = backS e.toS e2.toS := by
  refine S.ext' rfl rfl rfl ?_ ?_ rfl rfl rfl rfl
  · funext i
    simp only [toS, back, backS, Tr.get_map]
    cases e.t.get i <;> rfl
  · funext i
    simp only [toS, back, backS, Tr.get_map]
    cases e.t.get i <;> rfl
end E
end Go.LI
/- Runs that the kernel carries out: what they tell holds of the machine. -/
namespace Go.LI
open Go Go.RowKit

section
variable {P : Program} {τ : Tab} {Γ : Env} {T : XT}

theorem eSteps_steps {ops : Array Oper} : ∀ (os : List Oper) (e e' : E), eSteps τ Γ ops os e = some e' → steps τ Γ ops os e.toS = some e'.toS
  | [], e, e', h => by cases h; rfl
  | o :: r, e, e', h => by
    unfold eSteps at h
    unfold steps step
    cases hw : wantedL ops e.toS o with
    | none => rw [hw] at h; cases h
    | some b =>
      rw [hw] at h
      cases b with
      | true =>
        simp only at h ⊢
        cases he : eff τ Γ e.toS o with
        | none => rw [he] at h; cases h
        | some u =>
          rw [he] at h
          simp only at h
          cases ha : e.app u o.dst with
          | none => rw [ha] at h; cases h
          | some e1 =>
            rw [ha] at h
            simp only [Option.map_some, Option.bind_some]
            rw [← E.app_some ha]
            exact eSteps_steps r e1 e' h
      | false =>
        simp only at h ⊢
        cases hs : E.smallO o.dst with
        | false => rw [hs] at h; cases h
        | true =>
          rw [hs] at h
          simp only [Option.bind_some]
          rw [← E.toS_put hs]
          exact eSteps_steps r _ e' h

theorem eStepsH_steps {hv : Nat → Bool} {ops : Array Oper} : ∀ (os : List Oper) (e e' : E), eStepsH τ Γ hv ops os e = some e' → stepsH τ Γ hv ops os e.toS = some e'.toS
  | [], e, e', h => by cases h; rfl
  | o :: r, e, e', h => by
    unfold eStepsH at h
    unfold stepsH stepH
    cases he : effH τ Γ hv ops e.toS o with
    | none => rw [he] at h; cases h
    | some u =>
      rw [he] at h
      simp only at h
      cases ha : e.app u o.dst with
      | none => rw [ha] at h; cases h
      | some e1 =>
        rw [ha] at h
        simp only [Option.map_some, Option.bind_some]
        rw [← E.app_some ha]
        exact eStepsH_steps r e1 e' h

theorem LW.post {n : Nat} {c : Code} {R : Exit → S → Prop} {s : S} (h : LW P n c (fun x s => ∃ s', (∀ C a W, Sim C s a W → Sim C s' a W) ∧ R x s') s) : LW P n c R s :=
  fun C a W m hn hs => wpIn_mono (h C a W m hn hs) fun _ _ _ ⟨_, h1, s2, h2, h3⟩ => ⟨s2, h2 _ _ _ h1, h3⟩

structure XT.Ok (P : Program) (τ : Tab) (T : XT) : Prop where
  tab : TabOk P τ
  mixed : P.follows .mixedOrders = true
  fn : ∀ f fn, T.fn f = some fn → P.funcs[f]? = some fn ∧ (fn.name == "runtime.NumGoroutine") = false
  code : ∀ f fn c, T.fn f = some fn → fn.body = some c → codeOk (T.hv f) fn.ntmps c = true
  fact : ∀ f args r, T.fact f args = some r → CallSpec P f args r
  meth : ∀ t n f, T.meth t n = some f → MethOk P t n f
  eqs : ∀ t n, T.eqs t = some n → EqOk P t n
  iter : ∀ f caps objs ys, T.iter f caps objs = some ys → IterSpec P f caps objs ys

/-- What a runner tells of a code holds of the machine. -/
def RecOk (P : Program) (T : XT) (rec : Nat → Code → E → Option (Exit × E)) : Prop :=
  ∀ f n c e x e', codeOk (T.hv f) n c = true → rec f c e = some (x, e') → LW P n c (fun y s => y = x ∧ s = e'.toS) e.toS

theorem endOk_spec {x : Exit} (h : endOk x = true) : x = .normal ∨ x = .ret := by
  cases x <;> first | exact .inl rfl | exact .inr rfl | cases h

theorem callX_ok (hT : T.Ok P τ) {rec : Nat → Code → E → Option (Exit × E)} (hrec : RecOk P T rec) {f : Nat} {args : List LV} {r : LV} (h : callX τ T rec f args = some r) : CallSpec P f args r := by
  unfold callX at h
  split at h
  · rename_i r' hr
    cases h
    exact hT.fact _ _ _ hr
  · split at h
    · rename_i fn hfn
      split at h
      · rename_i c hc
        cases hb : (Nat.ble args.length fn.ntmps && Nat.ble args.length 1000 && args.all LV.plain) with
        | false => rw [hb] at h; cases h
        | true =>
          rw [hb] at h
          simp only [Bool.and_eq_true, Nat.ble_eq] at hb
          simp only [cond_true] at h
          split at h
          · rename_i x e hrun
            cases hx : endOk x with
            | false => rw [hx] at h; cases h
            | true =>
              rw [hx] at h
              simp only [cond_true] at h
              generalize cond (T.keep f) [] (closeK e.look 200 (fn.results.toList.flatMap e.rootOf) []).reverse = kl at h
              obtain ⟨h1, h2⟩ := hT.fn _ _ hfn
              have hw := hrec f fn.ntmps c _ x e (hT.code _ _ _ hfn hc) hrun
              rw [E.toS_start hb.1.2 (by simp), E.initL_nil] at hw
              refine CallSpec.of_LW hT.tab h1 h2 hc hb.1.1 (LW.post (hw.mono ?_))
              rintro y s ⟨rfl, rfl⟩
              refine ⟨(E.frzs kl e).toS, fun C a W hs => E.frzs_sim kl e hs, ?_⟩
              rcases endOk_spec hx with rfl | rfl
              · exact h
              · exact h
          · cases h
      · cases h
    · cases h

theorem frzR_sim {C : Ctx} {a : Act} {W : World} {f : Nat} {results : Array ResultVar} {e : E} (h : Sim C e.toS a W) : Sim C (frzR T f results e).toS a W := by
  unfold frzR
  split
  · exact h
  · exact E.frzs_sim _ e h

theorem lendX_ok (hT : T.Ok P τ) {rec : Nat → Code → E → Option (Exit × E)} (hrec : RecOk P T rec) {f : Nat} {args : List LV} {lk : Nat → Nat → Option (List LV)} {q : Lend} (h : lendX τ T rec f args lk = some q) :
    q.ks.length = q.objs.length ∧ q.ks.Nodup ∧ (∀ (i : Nat) k o, q.ks[i]? = some k → q.objs[i]? = some o → lk k.1 k.2 = some (o.map (LV.un q.ks))) ∧
    ∃ args', args = args'.map (LV.un q.ks) ∧ LendSpec P f args' q.objs q.r q.objs' := by
  unfold lendX at h
  split at h
  · rename_i fn hfn
    split at h
    · rename_i c hc
      simp only at h
      generalize hks : closeK lk 200 (keysL args) [] = ks at h
      split at h
      · rename_i objs hobjs
        generalize hb : ((T.keep f || Nat.blt 0 ks.length) && nodupK ks && ((keysL args).all fun q => memK q ks) && Nat.ble args.length fn.ntmps && Nat.ble args.length 1000 && Nat.ble ks.length 1000) = b at h
        cases b with
        | false => cases h
        | true =>
          simp only [Bool.and_eq_true, Nat.ble_eq] at hb
          obtain ⟨⟨⟨⟨⟨_, b1⟩, b2⟩, b3⟩, b4⟩, b5⟩ := hb
          simp only [cond_true] at h
          split at h
          · rename_i x e1 hrun
            generalize hfe : frzR T f fn.results e1 = e at h
            split at h
            · rename_i r0 hr0
              generalize hKS : closeK e.look 200 (r0.keys ++ (lentKeys ks.length).flatMap fun k => match e.look k.1 k.2 with | some cs => keysL cs | none => []) (lentKeys ks.length) = KS at h
              split at h
              · rename_i objs' hobjs'
                generalize hb2 : (endOk x && nodupK KS && (r0.keys.all fun q => memK q KS) && (KS.take ks.length == lentKeys ks.length)) = b at h
                cases b with
                | false => cases h
                | true =>
                  simp only [Bool.and_eq_true, beq_iff_eq] at hb2
                  obtain ⟨⟨⟨c1, c2⟩, c3⟩, c4⟩ := hb2
                  simp only [cond_true, Option.some.injEq] at h
                  subst h
                  obtain ⟨o1, o2, o3⟩ := objsOf_spec ks objs hobjs
                  obtain ⟨p1, p2, p3⟩ := objsOf'_spec KS objs' hobjs'
                  have hargs := keysL_all b2
                  have hr0k : ∀ k ∈ r0.keys, k ∈ KS := fun k hk => (memK_iff k KS).1 (List.all_eq_true.1 c3 k hk)
                  have hlk : (lentKeys ks.length).length = ks.length := by simp [lentKeys]
                  have hKSl : ks.length ≤ KS.length := by
                    have := congrArg List.length c4
                    rw [List.length_take, hlk] at this
                    omega
                  have hsplit : lentKeys objs.length ++ KS.drop ks.length = KS := by rw [← o1, ← c4, List.take_append_drop]
                  refine ⟨o1, nodupK_spec ks b1, fun i k o hi ho => ?_, args.map (LV.ren ks), (map_un_ren hargs).symm, ?_⟩
                  · have := congrArg (fun l => l[i]?) o2
                    simpa [List.getElem?_map, hi, ho] using this
                  · obtain ⟨h1, h2⟩ := hT.fn _ _ hfn
                    have hw := hrec f fn.ntmps c _ x e1 (hT.code _ _ _ hfn hc) hrun
                    rw [E.toS_start (by simpa using b4) (by omega)] at hw
                    refine LendSpec.of_LW hT.tab h1 h2 hc (by simpa using b3) (fun l hl => ?_) (fun o ho l hl => ?_) ?_ (fun o ho l hl => ?_) (LW.post (hw.mono ?_)) (by rw [← o1, ← p1]; exact hKSl)
                    · obtain ⟨l', hl', rfl⟩ := List.mem_map.1 hl
                      rw [← o1]
                      exact keysIn_ren (hargs l' hl')
                    · rw [← o1]; exact o3 o ho l hl
                    · rw [← p1]; exact keysIn_ren hr0k
                    · rw [← p1]; exact p3 o ho l hl
                    · rintro y s ⟨rfl, rfl⟩
                      refine ⟨e.toS, fun C a W hs => by rw [← hfe]; exact frzR_sim hs, ?_⟩
                      refine ⟨endOk_spec c1, KS.drop ks.length, ?_, ?_, ?_⟩
                      · rw [hsplit]; exact nodupK_spec KS c2
                      · rw [hsplit, un_ren hr0k]; exact hr0
                      · rw [hsplit]; exact p2
              · cases h
            · cases h
          · cases h
      · cases h
    · cases h
  · cases h

theorem envX_ok (hT : T.Ok P τ) {rec : Nat → Code → E → Option (Exit × E)} (hrec : RecOk P T rec) (f : Nat) : EnvOk P (envX τ T rec f) :=
  ⟨fun _ _ _ h => callX_ok hT hrec h, ⟨fun _ _ _ h => hT.meth _ _ _ h, fun _ _ h => hT.eqs _ _ h⟩, fun _ _ _ _ h => lendX_ok hT hrec h⟩

theorem rounds_cons {rec : Code → E → Option (Exit × E)} {ps : List Nat} {assign body : Code} {e0 e e' : E} {y : List LV} {ys : List (List LV)} {x : Exit} (h : rounds rec ps assign body e0 (y :: ys) e = some (x, e')) :
    ∃ e1, rec assign (e.forget.sets (ps.zip y)) = some (.normal, e1) ∧ ((∃ e2, rec body e1 = some (.normal, e2) ∧ rounds rec ps assign body e0 ys (e0.back e2) = some (x, e')) ∨
      (∃ e2, rec body e1 = some (.ret, e2) ∧ x = .ret ∧ e' = e0.back e2) ∨ (∃ i e2, rec body e1 = some (.exit i, e2) ∧ x = .exit i ∧ e' = e0.back e2)) := by
  unfold rounds at h
  split at h
  · rename_i e1 h1
    refine ⟨e1, h1, ?_⟩
    split at h
    · rename_i e2 h2; exact .inl ⟨e2, h2, h⟩
    · rename_i e2 h2; cases h; exact .inr (.inl ⟨e2, h2, rfl, rfl⟩)
    · rename_i i e2 h2; cases h; exact .inr (.inr ⟨i, e2, h2, rfl, rfl⟩)
    · cases h
  · cases h

theorem run_sound (hT : T.Ok P τ) : ∀ k, RecOk P T (run τ T k)
  | 0 => fun f n c e x e' _ h => by cases h
  | k + 1 => by
    have ih := run_sound hT k
    intro f n c e x e' hc h
    cases c with
    | skip => cases h; exact LW.skip ⟨rfl, rfl⟩
    | label l => cases h; exact LW.label ⟨rfl, rfl⟩
    | exit i => cases h; exact LW.exit ⟨rfl, rfl⟩
    | ret => cases h; exact LW.ret ⟨rfl, rfl⟩
    | seq a b =>
      simp only [codeOk, Bool.and_eq_true] at hc
      simp only [run] at h
      refine LW.seq ?_
      split at h
      · rename_i e1 h1
        refine (ih f n a e _ _ hc.1 h1).mono ?_
        rintro y s ⟨rfl, rfl⟩
        exact ih f n b e1 _ _ hc.2 h
      · rename_i hne
        refine (ih f n a e _ _ hc.1 h).mono ?_
        rintro y s ⟨rfl, rfl⟩
        cases y with
        | normal => exact absurd h (hne e')
        | exit => exact ⟨rfl, rfl⟩
        | goto => exact ⟨rfl, rfl⟩
        | ret => exact ⟨rfl, rfl⟩
        | panic => exact ⟨rfl, rfl⟩
        | outgrown => exact ⟨rfl, rfl⟩
    | cond g a b =>
      simp only [codeOk, Bool.and_eq_true] at hc
      simp only [run] at h
      split at h
      · rename_i v hv
        refine LW.cond hv ?_
        cases v with
        | true => exact ih f n a e _ _ hc.1 h
        | false => exact ih f n b e _ _ hc.2 h
      · cases h
    | block i a =>
      simp only [codeOk] at hc
      simp only [run] at h
      refine LW.block ?_
      split at h
      · rename_i j e1 h1
        cases h
        refine (ih f n a e _ _ hc h1).mono ?_
        rintro y s ⟨rfl, rfl⟩
        simp only [blockL]
        rw [Tr.beq_iff]
        by_cases hij : j = i
        · simp [hij]
        · simp [hij]
      · rename_i hne
        refine (ih f n a e _ _ hc h).mono ?_
        rintro y s ⟨rfl, rfl⟩
        cases y with
        | exit j => exact absurd h (hne j e')
        | normal => exact ⟨rfl, rfl⟩
        | goto => exact ⟨rfl, rfl⟩
        | ret => exact ⟨rfl, rfl⟩
        | panic => exact ⟨rfl, rfl⟩
        | outgrown => exact ⟨rfl, rfl⟩
    | loop a =>
      have hc' : codeOk (T.hv f) n a = true := by simpa only [codeOk] using hc
      -- with j rounds' fuel left, from e1
      refine LW.loop (fun j s => ∃ e1, s = e1.toS ∧ run τ T (j + 1) f (.loop a) e1 = some (x, e') ∧ j ≤ k) ⟨e, rfl, h, Nat.le_refl _⟩ ?_
      rintro j s ⟨e1, rfl, h1, hj⟩
      have hj' : RecOk P T (run τ T j) := by
        rcases Nat.lt_or_eq_of_le hj with h2 | h2
        · exact run_sound hT j
        · rw [h2]; exact ih
      simp only [run] at h1
      split at h1
      · rename_i e2 h2
        refine (hj' f n a e1 _ _ hc' h2).mono ?_
        rintro y s ⟨rfl, rfl⟩
        cases j with
        | zero => cases h1
        | succ j => exact ⟨j, Nat.lt_succ_self j, e2, rfl, h1, by omega⟩
      · rename_i hne
        refine (hj' f n a e1 _ _ hc' h1).mono ?_
        rintro y s ⟨rfl, rfl⟩
        cases y with
        | normal => exact absurd h1 (hne e')
        | exit => exact ⟨rfl, rfl⟩
        | goto => exact ⟨rfl, rfl⟩
        | ret => exact ⟨rfl, rfl⟩
        | panic => exact ⟨rfl, rfl⟩
        | outgrown => exact ⟨rfl, rfl⟩
    | region id ops draw =>
      simp only [codeOk, Bool.and_eq_true, Bool.or_eq_true, Bool.not_eq_true'] at hc
      simp only [run] at h
      have hΓ := envX_ok hT ih f
      refine fun C a W m hn hs => ?_
      replace hs := E.frzs_sim ((T.frz f id).flatMap fun t => (e.toS.t t).keys) e hs
      generalize E.frzs ((T.frz f id).flatMap fun t => (e.toS.t t).keys) e = e at h hs
      refine (?_ : LW P n (.region id ops draw) (fun y s => y = x ∧ s = e'.toS) e.toS) C a W m hn hs
      cases draw with
      | true =>
        simp only [cond_true] at h
        split at h
        · rename_i e1 h1
          cases h
          exact LW.drawH hT.mixed hT.tab hΓ hc.1 (by simpa using hc.2) (eStepsH_steps _ _ _ h1) ⟨rfl, rfl⟩
        · cases h
      | false =>
        simp only [cond_false] at h
        split at h
        · rename_i e1 h1
          cases h
          exact LW.region hT.tab hΓ hc.1 (eSteps_steps _ _ _ h1) ⟨rfl, rfl⟩
        · cases h
    | rangeFunc g ps a b =>
      simp only [codeOk, Bool.and_eq_true] at hc
      obtain ⟨⟨hc1, hc2⟩, hc3⟩ := hc
      simp only [run] at h
      split at h
      · rename_i fi caps hcaps
        generalize hks : closeK e.look 200 (keysL caps) [] = ks at h
        split at h
        · rename_i objs hobjs
          generalize hb : (nodupK ks && ((keysL caps).all fun q => memK q ks) && (ks.all fun q => E.small q.1) && ps.toList.all fun p => Nat.ble p 1000000) = bb at h
          cases bb with
          | false => cases h
          | true =>
            simp only [Bool.and_eq_true] at hb
            obtain ⟨⟨⟨b1, b2⟩, b3⟩, b4⟩ := hb
            simp only [cond_true] at h
            split at h
            · rename_i ys hys
              generalize hb5 : (ys.all fun y => Nat.beq y.length ps.size) = bb at h
              cases bb with
              | false => cases h
              | true =>
                simp only [cond_true] at h
                obtain ⟨o1, o2, o3⟩ := objsOf_spec ks objs hobjs
                have hcapk := keysL_all b2
                have hps : ∀ p ∈ ps.toList, p ≤ 1000000 := fun p hp => by have := List.all_eq_true.1 b4 p hp; simpa using this
                refine LW.rangeFunc (f := fi) (caps := caps.map (LV.ren ks)) (ks := ks) (objs := objs) (ys := ys)
                  (fun j s => ∃ e1, s = E.toS e1 ∧ rounds (run τ T k f) ps.toList a b e (ys.drop j) e1 = some (x, e')) (by rw [map_un_ren hcapk]; exact hcaps) o1 (nodupK_spec ks b1) o2 (hT.iter _ _ _ _ hys) (fun p hp => by have := List.all_eq_true.1 hc1 p hp; simpa using this)
                  (fun y hy => by have := List.all_eq_true.1 hb5 y hy; rw [Tr.beq_iff] at this; simpa using this) ?_ ?_ ?_
                · refine ⟨(e.kills ks).forget, ?_, by simpa using h⟩
                  rw [E.toS_forget, E.toS_kills _ _ b3]
                  rfl
                · rintro j y s' hy ⟨e1, rfl, h1⟩ _
                  have hdrop : ys.drop j = y :: ys.drop (j + 1) := by
                    obtain ⟨hlt, hy'⟩ := List.getElem?_eq_some_iff.1 hy
                    rw [List.drop_eq_getElem_cons hlt, hy']
                  rw [hdrop] at h1
                  obtain ⟨e2, k1, k2⟩ := rounds_cons h1
                  rw [← E.toS_round hps]
                  refine (ih f n a _ _ _ hc2 k1).mono ?_
                  rintro y2 s2 ⟨rfl, rfl⟩
                  simp only [thenL]
                  rcases k2 with ⟨e3, m1, m2⟩ | ⟨e3, m1, rfl, rfl⟩ | ⟨i, e3, m1, rfl, rfl⟩
                  · refine (ih f n b _ _ _ hc3 m1).mono ?_
                    rintro y3 s3 ⟨rfl, rfl⟩
                    exact ⟨e.back e3, (E.toS_back e e3).symm, m2⟩
                  · refine (ih f n b _ _ _ hc3 m1).mono ?_
                    rintro y3 s3 ⟨rfl, rfl⟩
                    exact ⟨rfl, (E.toS_back e e3).symm⟩
                  · refine (ih f n b _ _ _ hc3 m1).mono ?_
                    rintro y3 s3 ⟨rfl, rfl⟩
                    exact ⟨rfl, (E.toS_back e e3).symm⟩
                · rintro s' ⟨e1, rfl, h1⟩ _
                  rw [List.drop_length] at h1
                  cases h1
                  exact ⟨rfl, rfl⟩
            · cases h
        · cases h
      · cases h
    | scope a =>
      have hc' : codeOk (T.hv f) n a = true := by simpa only [codeOk] using hc
      simp only [run] at h
      refine LW.scope ?_
      split at h
      · cases h
      · rename_i hne
        refine (ih f n a e _ _ hc' h).mono ?_
        rintro y s ⟨rfl, rfl⟩
        cases y with
        | goto l => exact absurd h (hne l e')
        | exit => exact ⟨rfl, rfl⟩
        | normal => exact ⟨rfl, rfl⟩
        | ret => exact ⟨rfl, rfl⟩
        | panic => exact ⟨rfl, rfl⟩
        | outgrown => exact ⟨rfl, rfl⟩
    | goto l => cases hc
    | refuse w => cases hc

/-- A call, carried out. -/
theorem callX_spec (hT : T.Ok P τ) (k : Nat) {f : Nat} {args : List LV} {r : LV} (h : callX τ T (run τ T k) f args = some r) : CallSpec P f args r := callX_ok hT (run_sound hT k) h
end
end Go.LI
namespace Go.LI
open Go Go.RowKit

/-- A type's kind, as the table has it. -/
def tdOf (P : Program) : TypeDesc → Option TD
  | .int k => some (.int k)
  | .bool => some .bool
  | .string => some .str
  | .slice e => some (.slice e)
  | .array n e => some (.arr e n)
  | .struct fields => (fields.toList.mapM (fun f => (P.info? f.type).map fun i => (f.offset, i.size))).map .struct
  | _ => some .other

def ftOf : TypeDesc → List Nat
  | .struct fields => fields.toList.map (·.type)
  | _ => []

/-- The table of a program's types. -/
def tabOf (P : Program) : Tab := fun t =>
  match P.info? t, P.underlying t with
  | some i, some d => match i.zero, tdOf P d with
    | some z, some td => if z.cells.toList.all (·.oneCell') && zeroKind z td.isAgg then some { d := td, size := i.size, bytes := i.bytes, zero := z.cells.toList, ft := ftOf d } else none
    | _, _ => none
  | _, _ => none

theorem tabOf_ok (P : Program) : TabOk P (tabOf P) := by
  intro t ti h
  unfold tabOf at h
  split at h
  · rename_i i d hi hu
    split at h
    · rename_i z td hz htd
      split at h
      · rename_i hall
        rw [Bool.and_eq_true] at hall
        cases h
        refine ⟨i, hi, rfl, rfl, ⟨z, hz, rfl⟩, fun u hu => List.all_eq_true.1 hall.1 u hu, fun z' hz' => by rw [hz] at hz'; cases hz'; exact hall.2, fun fields hf f fd x hfd hx => ?_, ?_⟩
        · rw [hu] at hf
          cases hf
          simp only [ftOf, List.getElem?_map, Array.getElem?_toList, hfd, Option.map_some, Option.some.injEq] at hx
          exact hx
        · cases d <;> simp only [tdOf, Option.some.injEq] at htd <;> try (subst htd; first | exact hu | exact ⟨_, hu, rfl⟩)
          rename_i fields
          obtain ⟨fs, h1, rfl⟩ := Option.map_eq_some_iff.1 htd
          exact ⟨fields, hu, h1⟩
      · cases h
    · cases h
  · cases h
end Go.LI
