/- Texts of a small semantics over the model and of specifications of functions, joined: LISimp2, LISimp3, LISimp4, LIIter. -/
import Derived.Test.YtlnndndpaakjfaaGreatDoorP13
import Derived.Test.YtlnndndpaakjfaaGreatDoorP14
import Derived.Test.YtlnndndpaakjfaaGreatDoorP16
set_option linter.unusedSimpArgs false
set_option linter.unusedVariables false
/- More for simp. -/
namespace Go.LI
open Go Go.RowKit
section
variable (τ : Tab) (Γ : Env) (s : S) (dst : Option Nat) (ty : Nat) (pos : String) (aft : Array Edge) (gd : Option (Nat × Bool))
@[simp] theorem nextD_makeInterface (t : Nat) (x : Operand) : nextD τ Γ s ⟨dst, .makeInterface t x, ty, pos, aft, gd⟩ = nextL τ Γ.own s ⟨dst, .makeInterface t x, ty, pos, aft, gd⟩ := nextD_free τ Γ s rfl
end
end Go.LI
namespace Go.LI
open Go Go.RowKit
section
variable {τ : Tab} {Γ : Env} {s : S} {dst : Option Nat} {ty : Nat} {pos : String} {aft : Array Edge} {gd : Option (Nat × Bool)}
/-- What is copied, cell by cell. -/
theorem next_copy {x y : Operand} {t t2 d g lo n e : Nat} {ti : TI} {src : List LV} {u : Upd} (hx : s.eval x = .rs d g lo n 1) (he : elemOf τ t = some (e, ti)) (hs : ti.size = 1) (hsrc : srcL s y = some src) (hr : Γ.rows = true)
    (hc : copyL s d g lo n src = some u) : nextL τ Γ s ⟨dst, .call ⟨.builtin .copy, #[x, y], #[t, t2]⟩, ty, pos, aft, gd⟩ = some (u.apply dst s) := by
  unfold nextL
  simp only [eff, effCall, hx, he, hsrc, hr, hs, and_self, if_true, hc, Option.map_some]
end
end Go.LI
namespace Go.LI
@[simp] theorem rangeL2 : List.range 2 = [0, 1] := (rfl)
@[simp] theorem rangeL3 : List.range 3 = [0, 1, 2] := (rfl)
@[simp] theorem rangeL4 : List.range 4 = [0, 1, 2, 3] := (rfl)
@[simp] theorem rangeL5 : List.range 5 = [0, 1, 2, 3, 4] := (rfl)
end Go.LI
/- Drawn regions with heavy operations, for simp. -/
namespace Go.LI
open Go Go.RowKit

def heavyD (hv : Nat → Bool) : Option Nat → Bool
  | some d => hv d
  | none => false
@[simp] theorem heavyD_some (hv : Nat → Bool) (d : Nat) : heavyD hv (some d) = hv d := (rfl)
@[simp] theorem heavyD_none (hv : Nat → Bool) : heavyD hv none = false := (rfl)

section
variable (τ : Tab) (Γ : Env) (hv : Nat → Bool) (s : S) (dst : Option Nat) (ty : Nat) (pos : String) (aft : Array Edge)

def nextH (o : Oper) : Option S := (eff τ Γ s o).bind fun u => if wfU s o.dst u then some (u.apply o.dst s) else none

@[simp] theorem stepsH_nil (ops : Array Oper) : stepsH τ Γ hv ops [] s = some s := (rfl)
@[simp] theorem stepsH_free (ops : Array Oper) (op : Op) (r : List Oper) : stepsH τ Γ hv ops (⟨dst, op, ty, pos, aft, none⟩ :: r) s =
    if heavyD hv dst = true then ob (nextH τ Γ s ⟨dst, op, ty, pos, aft, none⟩) (stepsH τ Γ hv ops r) else ob (nextD τ Γ s ⟨dst, op, ty, pos, aft, none⟩) (stepsH τ Γ hv ops r) := by
  simp only [ob_eq]
  have hh : heavy hv ⟨dst, op, ty, pos, aft, none⟩ = heavyD hv dst := by cases dst <;> rfl
  cases hd : heavyD hv dst with
  | true =>
    simp only [if_true, stepsH, stepH, effH, hh, hd, wantedL, nextH, Option.map_bind]
    congr 1
    cases eff τ Γ s ⟨dst, op, ty, pos, aft, none⟩ with
    | none => rfl
    | some u =>
      simp only [Option.bind_some, Function.comp]
      split <;> rfl
  | false =>
    simp only [Bool.false_eq_true, if_false, stepsH]
    rw [stepH_light (by rw [hh, hd])]
    rfl
end

section
variable {τ : Tab} {Γ : Env} {s : S} {ty : Nat} {pos : String} {aft : Array Edge} {gd : Option (Nat × Bool)}

/-- A row is begun. -/
theorem nextH_append_nil {x y : Operand} {t d e : Nat} {ti : TI} {ys : List (List LV)} (hx : s.eval x = .v (.slice none 0 0)) (hy : (s.eval y).asList = some ys) (he : elemOf τ t = some (e, ti)) (hrm : Γ.rm d = true)
    (hz : ∀ z ∈ ys, z.length = ti.size) (hp : ∀ z ∈ ys, ∀ c ∈ z, c.keys = []) (hs : 0 < ti.size) (hzl : ti.zero.length = ti.size) (hl : ys.length ≤ 9223372036854775807) (hb : ys.length * ti.bytes ≤ 140737488355328) (hne : ys ≠ []) :
    nextH τ Γ s ⟨some d, .call ⟨.builtin .append, #[x, y], #[t, t]⟩, ty, pos, aft, gd⟩ = some ((s.newBox d (ys.flatten.map fun c => (c, (0, 0)))).put (some d) (.rs d (s.g d + 1) 0 ys.length ti.size)) := by
  have hall : (ys.all fun e => e.length == ti.size) = true := by rw [List.all_eq_true]; intro z hzz; simpa using hz z hzz
  have hem : isEmptyL (some ys) = false := by cases ys with
    | nil => exact absurd rfl hne
    | cons _ _ => rfl
  have h00 : (LV.v (.slice none 0 0)).asList = some [] := rfl
  have h01 : (LV.v (.slice none 0 0)).isV = true := rfl
  have h02 : ∀ k : Nat, (LV.rs d (s.g d + 1) 0 k ti.size).keys = [(d, s.g d + 1)] := fun _ => rfl
  unfold nextH
  simp only [eff, effCall, if_true, he, hy, hx, hem, Bool.false_eq_true, false_and, and_false, if_false, h00, List.all_nil, hall, hs, hzl, List.length_nil, Nat.zero_add, hl, hb, ne_eq, hne, not_false_eq_true, and_self, h01, hrm, Option.bind_some]
  rw [if_pos]
  · rfl
  · unfold wfU gDst mcells
    simp only [List.map_map, beq_self_eq_true, Bool.true_and, List.all_cons, h02, List.all_nil, Bool.and_true, MU.apply, upd_same, Nat.le_refl, decide_true, List.all_eq_true, List.mem_map, Function.comp]
    rintro l ⟨c, hc, rfl⟩
    obtain ⟨z, hz1, hz2⟩ := List.mem_flatten.1 hc
    simp [hp z hz1 c hz2]

/-- A row grows. -/
theorem nextH_append_row {x y : Operand} {t d e d0 g0 n : Nat} {ti : TI} {ys : List (List LV)} {cells : List (LV × Tag)} (hx : s.eval x = .rs d0 g0 0 n ti.size) (hb0 : s.b d0 g0 = some cells) (hcl : cells.length = n * ti.size) (hy : (s.eval y).asList = some ys) (he : elemOf τ t = some (e, ti)) (hr : Γ.rows = true)
    (hz : ∀ z ∈ ys, z.length = ti.size) (hp : ∀ z ∈ ys, ∀ c ∈ z, c.keys = []) (hp0 : ∀ c ∈ cells, c.1.keys = []) (hs : 0 < ti.size) (hzl : ti.zero.length = ti.size) (hl : n + ys.length ≤ 9223372036854775807) (hb : (n + ys.length) * ti.bytes ≤ 140737488355328) (hne : ys ≠ []) :
    nextH τ Γ s ⟨some d, .call ⟨.builtin .append, #[x, y], #[t, t]⟩, ty, pos, aft, gd⟩ = some ((s.renew d0 g0 d (cells ++ ys.flatten.map fun c => (c, (0, 0)))).put (some d) (.rs d (s.g d + 1) 0 (n + ys.length) ti.size)) := by
  have hall : (ys.all fun e => e.length == ti.size) = true := by rw [List.all_eq_true]; intro z hzz; simpa using hz z hzz
  have hem : isEmptyL (some ys) = false := by cases ys with
    | nil => exact absurd rfl hne
    | cons _ _ => rfl
  have h00 : (LV.v (.slice none 0 0)).asList = some [] := rfl
  have h01 : (LV.v (.slice none 0 0)).isV = true := rfl
  have h02 : ∀ k : Nat, (LV.rs d (s.g d + 1) 0 k ti.size).keys = [(d, s.g d + 1)] := fun _ => rfl
  unfold nextH
  simp only [eff, effCall, if_true, he, hy, hx, hem, Bool.false_eq_true, false_and, and_false, if_false, hb0, hr, hcl, hall, hs, hzl, hl, hb, ne_eq, hne, not_false_eq_true, and_self, Option.bind_some]
  rw [if_pos]
  · rfl
  · unfold wfU gDst mcells
    simp only [List.map_append, List.map_map, beq_self_eq_true, Bool.true_and, List.all_cons, h02, List.all_nil, Bool.and_true, MU.apply, upd_same, Nat.le_refl, decide_true, List.all_eq_true, List.mem_append, List.mem_map, Function.comp]
    rintro l (⟨c, hc, rfl⟩ | ⟨c, hc, rfl⟩)
    · simp [hp0 c hc]
    · obtain ⟨z, hz1, hz2⟩ := List.mem_flatten.1 hc
      simp [hp z hz1 c hz2]

/-- .. where nothing is drawn. -/
theorem next_append_nil {x y : Operand} {t d e : Nat} {ti : TI} {ys : List (List LV)} (hx : s.eval x = .v (.slice none 0 0)) (hy : (s.eval y).asList = some ys) (he : elemOf τ t = some (e, ti)) (hrm : Γ.rm d = true)
    (hz : ∀ z ∈ ys, z.length = ti.size) (hs : 0 < ti.size) (hzl : ti.zero.length = ti.size) (hl : ys.length ≤ 9223372036854775807) (hb : ys.length * ti.bytes ≤ 140737488355328) (hne : ys ≠ []) :
    nextL τ Γ s ⟨some d, .call ⟨.builtin .append, #[x, y], #[t, t]⟩, ty, pos, aft, gd⟩ = some ((s.newBox d (ys.flatten.map fun c => (c, (0, 0)))).put (some d) (.rs d (s.g d + 1) 0 ys.length ti.size)) := by
  have hall : (ys.all fun e => e.length == ti.size) = true := by rw [List.all_eq_true]; intro z hzz; simpa using hz z hzz
  have hem : isEmptyL (some ys) = false := by cases ys with
    | nil => exact absurd rfl hne
    | cons _ _ => rfl
  have h00 : (LV.v (.slice none 0 0)).asList = some [] := rfl
  have h01 : (LV.v (.slice none 0 0)).isV = true := rfl
  have h02 : ∀ k : Nat, (LV.rs d (s.g d + 1) 0 k ti.size).keys = [(d, s.g d + 1)] := fun _ => rfl
  unfold nextL
  simp only [eff, effCall, if_true, he, hy, hx, hem, Bool.false_eq_true, false_and, and_false, if_false, h00, List.all_nil, hall, hs, hzl, List.length_nil, Nat.zero_add, hl, hb, ne_eq, hne, not_false_eq_true, and_self, h01, hrm, Option.map_some]
  rfl
theorem next_append_row {x y : Operand} {t d e d0 g0 n : Nat} {ti : TI} {ys : List (List LV)} {cells : List (LV × Tag)} (hx : s.eval x = .rs d0 g0 0 n ti.size) (hb0 : s.b d0 g0 = some cells) (hcl : cells.length = n * ti.size) (hy : (s.eval y).asList = some ys) (he : elemOf τ t = some (e, ti)) (hr : Γ.rows = true)
    (hz : ∀ z ∈ ys, z.length = ti.size) (hs : 0 < ti.size) (hzl : ti.zero.length = ti.size) (hl : n + ys.length ≤ 9223372036854775807) (hb : (n + ys.length) * ti.bytes ≤ 140737488355328) (hne : ys ≠ []) :
    nextL τ Γ s ⟨some d, .call ⟨.builtin .append, #[x, y], #[t, t]⟩, ty, pos, aft, gd⟩ = some ((s.renew d0 g0 d (cells ++ ys.flatten.map fun c => (c, (0, 0)))).put (some d) (.rs d (s.g d + 1) 0 (n + ys.length) ti.size)) := by
  have hall : (ys.all fun e => e.length == ti.size) = true := by rw [List.all_eq_true]; intro z hzz; simpa using hz z hzz
  have hem : isEmptyL (some ys) = false := by cases ys with
    | nil => exact absurd rfl hne
    | cons _ _ => rfl
  have h00 : (LV.v (.slice none 0 0)).asList = some [] := rfl
  have h01 : (LV.v (.slice none 0 0)).isV = true := rfl
  have h02 : ∀ k : Nat, (LV.rs d (s.g d + 1) 0 k ti.size).keys = [(d, s.g d + 1)] := fun _ => rfl
  unfold nextL
  simp only [eff, effCall, if_true, he, hy, hx, hem, Bool.false_eq_true, false_and, and_false, if_false, hb0, hr, hcl, hall, hs, hzl, hl, hb, ne_eq, hne, not_false_eq_true, and_self, Option.map_some]
  rfl

variable {P : Program} {n : Nat} {R : Exit → S → Prop} {s' : S} {l : List (Nat × List LV × LV)} {id : Nat} {ops : Array Oper}
/-- A drawn region with heavy operations. -/
theorem LW.dh (hv : Nat → Bool) (rm : Nat → Bool) {m : List (Nat × List LV × Lend)} (hm : P.follows .mixedOrders = true) (hτ : TabOk P τ) (hf : Facts P l) (hl : LFacts P m) (hn : dstsOk n ops = true) (hok : drawOkH hv ops = true) (hr : stepsH τ (envOf l m rm) hv ops ops.toList s = some s') (h : R .normal s') : LW P n (.region id ops true) R s :=
  LW.drawH hm hτ (envOf_ok hf hl) hn hok hr h
end
end Go.LI
/- Slices that grow, wherever they lie. -/
namespace Go.LI
open Go Go.RowKit

/-- A slice (its value and its token) that may grow. -/
def GrowsV (v : LV) (o : Tag) (tv : Nat → Nat) (T : List Nat) (ys : List (List LV)) : Prop :=
  (ys = [] ∧ v = nilV) ∨ (ys ≠ [] ∧ v = .list ys ∧ o.1 ∈ T ∧ o.1 ≠ 0 ∧ o.2 = tv o.1)

theorem GrowsV.val {v : LV} {o : Tag} {tv : Nat → Nat} {T : List Nat} {ys : List (List LV)} (h : GrowsV v o tv T ys) : v = seqV ys := by
  rcases h with ⟨rfl, h⟩ | ⟨h1, h, _⟩
  · simp [seqV, h]
  · simp [seqV, h, h1]

theorem GrowsV.keep {v : LV} {o : Tag} {tv tv' : Nat → Nat} {T : List Nat} {ys : List (List LV)} (h : GrowsV v o tv T ys) (h3 : ∀ k ∈ T, tv' k = tv k) : GrowsV v o tv' T ys := by
  rcases h with ⟨h4, h5⟩ | ⟨h4, h5, h6, h7, h8⟩
  · exact .inl ⟨h4, h5⟩
  · exact .inr ⟨h4, h5, h6, h7, by rw [h3 _ h6]; exact h8⟩

theorem GrowsV.new {v : LV} {tk w : Nat} {tv : Nat → Nat} {T : List Nat} {ys : List (List LV)} (h0 : ys ≠ []) (h1 : v = .list ys) (h3 : tk ∈ T) (h4 : tk ≠ 0) (h5 : tv tk = w) : GrowsV v (tk, w) tv T ys :=
  .inr ⟨h0, h1, h3, h4, h5.symm⟩

theorem appendL_growsV {v : LV} {o : Tag} {tv : Nat → Nat} {T : List Nat} {ys : List (List LV)} (h : GrowsV v o tv T ys) (d : Nat) (zs : List (List LV)) (ti : TI) (hne : zs ≠ []) (h1 : ∀ e ∈ ys, e.length = ti.size) (h2 : ∀ e ∈ zs, e.length = ti.size)
    (hs : 0 < ti.size) (hz : ti.zero.length = ti.size) (hb : (ys.length + zs.length) * ti.bytes ≤ 140737488355328) (hb0 : ys.length + zs.length ≤ 9223372036854775807) (hT : d + 1 ∈ T) :
    ∃ tk w, (∀ (Γ : Env) (S' : S) (y : LV), Γ.rm d = false → S'.tv = tv → y.asList = some zs → appendL Γ ti S' d v y o = some (S'.setTok tk w, .list (ys ++ zs), (tk, w))) ∧ tk ≠ 0 ∧ tk ∈ T := by
  have a2 : (zs.all fun e => e.length == ti.size) = true := by rw [List.all_eq_true]; intro e he; simpa using h2 e he
  have a1 : (ys.all fun e => e.length == ti.size) = true := by rw [List.all_eq_true]; intro e he; simpa using h1 e he
  rcases h with ⟨rfl, h⟩ | ⟨hny, h, hmT, ht, hv⟩
  · refine ⟨d + 1, tv (d + 1) + 1, fun Γ S' y hrm htv hy => ?_, Nat.succ_ne_zero d, hT⟩
    rw [h]
    unfold appendL
    simp only [List.length_nil, Nat.zero_add] at hb hb0
    simp only [nilV, asList_nil, hy, isEmptyL_ne hne, Bool.false_eq_true, false_and, if_false, a1, a2, hs, hz, hb, hb0, hne, ne_eq, not_false_eq_true, and_self, if_true, isV_v, List.length_nil, Nat.zero_add, List.nil_append, htv, hrm, Bool.false_eq_true, if_false]
  · refine ⟨o.1, o.2 + 1, fun Γ S' y hrm htv hy => ?_, ht, hmT⟩
    rw [h]
    unfold appendL
    simp only [asList_list, hy, isEmptyL_ne hne, false_and, a1, a2, hs, hz, hb, hb0, hne, ne_eq, not_false_eq_true, and_self, if_true, isV_list, Bool.false_eq_true, if_false, ht, hv, htv]
end Go.LI
/- An iterator's book-keeping, for simp. -/
namespace Go.LI
section
variable (s : S) (d d' g off : Nat) (l : LV) (tg : Tag) (cells : List (LV × Tag)) (t v : Nat)
@[simp] theorem put_k : (s.put (some d) l tg).k = s.k := (rfl)
@[simp] theorem put_st : (s.put (some d) l tg).st = s.st := (rfl)
@[simp] theorem put_yl : (s.put (some d) l tg).yl = s.yl := (rfl)
@[simp] theorem newBox_k : (s.newBox d cells).k = s.k := (rfl)
@[simp] theorem newBox_st : (s.newBox d cells).st = s.st := (rfl)
@[simp] theorem newBox_yl : (s.newBox d cells).yl = s.yl := (rfl)
@[simp] theorem setBox_k : (s.setBox d g off cells).k = s.k := (rfl)
@[simp] theorem setBox_st : (s.setBox d g off cells).st = s.st := (rfl)
@[simp] theorem setBox_yl : (s.setBox d g off cells).yl = s.yl := (rfl)
@[simp] theorem setTok_k : (s.setTok t v).k = s.k := (rfl)
@[simp] theorem setTok_st : (s.setTok t v).st = s.st := (rfl)
@[simp] theorem setTok_yl : (s.setTok t v).yl = s.yl := (rfl)
@[simp] theorem init_k (args : List LV) : (init args).k = 0 := (rfl)
@[simp] theorem init_st (args : List LV) : (init args).st = true := (rfl)
end
section
variable (l : Nat) (P : Go.Program) (caps : List LV) (objs ys : List (List LV)) (i d g : Nat)
@[simp] theorem initY_t : (initY l P caps objs ys).t i = (LV.v (.func (.yield l) #[] #[]) :: caps).getD i (.tup []) := (rfl)
@[simp] theorem initY_o : (initY l P caps objs ys).o i = (0, 0) := (rfl)
@[simp] theorem initY_b : (initY l P caps objs ys).b d g = if 1000000 ≤ d ∧ g = 0 then (objs[d - 1000000]?).map (fun l => l.map fun c => (c, (0, 0))) else none := (rfl)
@[simp] theorem initY_g : (initY l P caps objs ys).g d = 0 := (rfl)
@[simp] theorem initY_tv : (initY l P caps objs ys).tv i = 0 := (rfl)
@[simp] theorem initY_k : (initY l P caps objs ys).k = 0 := (rfl)
@[simp] theorem initY_st : (initY l P caps objs ys).st = true := (rfl)
@[simp] theorem initY_yl : (initY l P caps objs ys).yl = some (P, l, ys) := (rfl)
end
end Go.LI
