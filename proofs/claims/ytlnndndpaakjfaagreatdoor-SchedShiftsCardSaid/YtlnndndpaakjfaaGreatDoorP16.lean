/- Texts of a small semantics over the model and of specifications of functions, joined: LISimp. -/
import Derived.Test.YtlnndndpaakjfaaGreatDoorP13
import Derived.Test.YtlnndndpaakjfaaGreatDoorP15
set_option linter.unusedSimpArgs false
set_option linter.unusedVariables false
namespace Go.LI
open Go Go.RowKit

/-! The state's parts, folded, and how they are read. -/
def S.newBox (s : S) (d : Nat) (cells : List (LV × Tag)) : S := (MU.box d cells).apply s
def S.setBox (s : S) (d g off : Nat) (cells : List (LV × Tag)) : S := (MU.store d g off cells).apply s
def S.setTok (s : S) (t ver : Nat) : S := (MU.tok t ver).apply s
def S.renew (s : S) (d g d' : Nat) (cells : List (LV × Tag)) : S := (MU.renew d g d' cells).apply s
def S.setObjs (s : S) (us : List ((Nat × Nat) × Option (List LV))) (d cnt : Nat) : S := (MU.objs us d cnt).apply s

section
variable (s : S) (d d' g g' off : Nat) (l : LV) (tg : Tag) (cells : List (LV × Tag))
@[simp] theorem put_none' : s.put none l tg = s := (rfl)
@[simp] theorem put_t (i : Nat) : (s.put (some d) l tg).t i = if i = d then l else s.t i := (rfl)
@[simp] theorem put_o (i : Nat) : (s.put (some d) l tg).o i = if i = d then tg else s.o i := (rfl)
@[simp] theorem put_b : (s.put (some d) l tg).b = s.b := (rfl)
@[simp] theorem put_g : (s.put (some d) l tg).g = s.g := (rfl)
@[simp] theorem put_tv : (s.put (some d) l tg).tv = s.tv := (rfl)
@[simp] theorem newBox_t : (s.newBox d cells).t = s.t := (rfl)
@[simp] theorem newBox_o : (s.newBox d cells).o = s.o := (rfl)
@[simp] theorem newBox_tv : (s.newBox d cells).tv = s.tv := (rfl)
@[simp] theorem newBox_g : (s.newBox d cells).g d' = if d' = d then s.g d + 1 else s.g d' := (rfl)
@[simp] theorem newBox_b : (s.newBox d cells).b d' g' = if d' = d ∧ g' = s.g d + 1 then some cells else s.b d' g' := (rfl)
@[simp] theorem setBox_t : (s.setBox d g off cells).t = s.t := (rfl)
@[simp] theorem setBox_o : (s.setBox d g off cells).o = s.o := (rfl)
@[simp] theorem setBox_tv : (s.setBox d g off cells).tv = s.tv := (rfl)
@[simp] theorem setBox_g : (s.setBox d g off cells).g = s.g := (rfl)
@[simp] theorem setBox_b : (s.setBox d g off cells).b d' g' = if d' = d ∧ g' = g then (s.b d g).map (over off cells) else s.b d' g' := (rfl)
@[simp] theorem setTok_t (t v : Nat) : (s.setTok t v).t = s.t := (rfl)
@[simp] theorem setTok_o (t v : Nat) : (s.setTok t v).o = s.o := (rfl)
@[simp] theorem setTok_b (t v : Nat) : (s.setTok t v).b = s.b := (rfl)
@[simp] theorem setTok_g (t v : Nat) : (s.setTok t v).g = s.g := (rfl)
@[simp] theorem setTok_tv (t v i : Nat) : (s.setTok t v).tv i = if i = t then v else s.tv i := (rfl)
@[simp] theorem put_mkd : (s.put (some d) l tg).mkd = s.mkd := (rfl)
@[simp] theorem newBox_mkd : (s.newBox d cells).mkd = s.mkd := (rfl)
@[simp] theorem setBox_mkd : (s.setBox d g off cells).mkd = s.mkd := (rfl)
@[simp] theorem setTok_mkd (t v : Nat) : (s.setTok t v).mkd = s.mkd := (rfl)
@[simp] theorem renew_t : (s.renew d g d' cells).t = s.t := (rfl)
@[simp] theorem renew_o : (s.renew d g d' cells).o = s.o := (rfl)
@[simp] theorem renew_tv : (s.renew d g d' cells).tv = s.tv := (rfl)
@[simp] theorem renew_g (x : Nat) : (s.renew d g d' cells).g x = if x = d' then s.g d' + 1 else s.g x := (rfl)
@[simp] theorem renew_b (x y : Nat) : (s.renew d g d' cells).b x y = if x = d' ∧ y = s.g d' + 1 then some cells else if x = d ∧ y = g then none else s.b x y := (rfl)
@[simp] theorem renew_mkd (x y : Nat) : (s.renew d g d' cells).mkd x y = if x = d' ∧ y = s.g d' + 1 then s.mkd d g else s.mkd x y := (rfl)
section
variable (us : List ((Nat × Nat) × Option (List LV))) (n : Nat)
@[simp] theorem setObjs_t : (s.setObjs us d n).t = s.t := (rfl)
@[simp] theorem setObjs_o : (s.setObjs us d n).o = s.o := (rfl)
@[simp] theorem setObjs_tv : (s.setObjs us d n).tv = s.tv := (rfl)
@[simp] theorem setObjs_g (x : Nat) : (s.setObjs us d n).g x = if x = d then s.g d + n else s.g x := (rfl)
@[simp] theorem setObjs_b (x y : Nat) : (s.setObjs us d n).b x y = objAt us x y (s.b x y) := (rfl)
@[simp] theorem setObjs_mkd (x y : Nat) : (s.setObjs us d n).mkd x y = if x = d ∧ s.g d < y ∧ y ≤ s.g d + n then us.any (fun k => s.mkd k.1.1 k.1.2 && k.2.isNone) else s.mkd x y := (rfl)
@[simp] theorem objAt_nil (x y : Nat) (o : Option (List (LV × Tag))) : objAt [] x y o = o := (rfl)
@[simp] theorem objAt_cons (k : Nat × Nat) (c : Option (List LV)) (r : List ((Nat × Nat) × Option (List LV))) (x y : Nat) (o : Option (List (LV × Tag))) : objAt ((k, c) :: r) x y o = if x = k.1 ∧ y = k.2 then c.map (fun l => l.map fun z => (z, (0, 0))) else objAt r x y o := (rfl)
end
@[simp] theorem freeze_t (cs : List LV) (i : Nat) : (s.freeze d g cs).t i = fz d g cs (s.t i) := (rfl)
@[simp] theorem freeze_o (cs : List LV) : (s.freeze d g cs).o = s.o := (rfl)
@[simp] theorem freeze_tv (cs : List LV) : (s.freeze d g cs).tv = s.tv := (rfl)
@[simp] theorem freeze_g (cs : List LV) : (s.freeze d g cs).g = s.g := (rfl)
@[simp] theorem freeze_mkd (cs : List LV) : (s.freeze d g cs).mkd = s.mkd := (rfl)
@[simp] theorem freeze_b (cs : List LV) (x y : Nat) : (s.freeze d g cs).b x y = if x = d ∧ y = g then none else (s.b x y).map fun c => c.map fun q => (fz d g cs q.1, q.2) := (rfl)
@[simp] theorem eval_tmp (i : Nat) : s.eval (.tmp i) = s.t i := (rfl)
@[simp] theorem eval_const (v : Value) : s.eval (.const v) = ofConst v := (rfl)
@[simp] theorem eval_func (f : Nat) : s.eval (.func f) = .v (.func (.func f) #[] #[]) := (rfl)
@[simp] theorem tag_tmp (i : Nat) : s.tag (.tmp i) = s.o i := (rfl)
@[simp] theorem tag_const (v : Value) : s.tag (.const v) = (0, 0) := (rfl)
@[simp] theorem tag_func (f : Nat) : s.tag (.func f) = (0, 0) := (rfl)
@[simp] theorem init_t (args : List LV) (i : Nat) : (init args).t i = args.getD i (.tup []) := (rfl)
@[simp] theorem init_o (args : List LV) (i : Nat) : (init args).o i = (0, 0) := (rfl)
@[simp] theorem init_b (args : List LV) : (init args).b d g = none := (rfl)
@[simp] theorem init_g (args : List LV) : (init args).g d = 0 := (rfl)
@[simp] theorem init_tv (args : List LV) (i : Nat) : (init args).tv i = 0 := (rfl)
@[simp] theorem init_mkd (args : List LV) : (init args).mkd d g = decide (1000000 ≤ d) := (rfl)
section
variable (args : List LV) (objs : List (List LV)) (i : Nat)
@[simp] theorem initL_t : (initL args objs).t i = args.getD i (.tup []) := (rfl)
@[simp] theorem initL_o : (initL args objs).o i = (0, 0) := (rfl)
@[simp] theorem initL_b : (initL args objs).b d g = if 1000000 ≤ d ∧ g = 0 then (objs[d - 1000000]?).map (fun l => l.map fun c => (c, (0, 0))) else none := (rfl)
@[simp] theorem initL_g : (initL args objs).g d = 0 := (rfl)
@[simp] theorem initL_tv : (initL args objs).tv i = 0 := (rfl)
@[simp] theorem initL_mkd : (initL args objs).mkd d g = decide (1000000 ≤ d) := (rfl)
end
end

@[simp] theorem ofConst_int (k : IntKind) (n : Int) : ofConst (.int k n) = .v (.int k n) := (rfl)
@[simp] theorem ofConst_bool (b : Bool) : ofConst (.bool b) = .v (.bool b) := (rfl)
@[simp] theorem ofConst_string (b : ByteArray) : ofConst (.string b) = .v (.string b) := (rfl)
@[simp] theorem ofConst_slice (a : Option Addr) (n c : Nat) : ofConst (.slice a n c) = .v (.slice a n c) := (rfl)
@[simp] theorem ofConst_nilFunc : ofConst .nilFunc = .v .nilFunc := (rfl)
@[simp] theorem ofConst_nilIface : ofConst .nilIface = .v .nilIface := (rfl)
@[simp] theorem ofConst_ptr (a : Option Addr) : ofConst (.pointer a) = .v (.pointer a) := (rfl)
@[simp] theorem ofConst_func (f : Fn) (x y : Array Value) : ofConst (.func f x y) = .v (.func f x y) := (rfl)

@[simp] theorem asList_list (xs : List (List LV)) : (LV.list xs).asList = some xs := (rfl)
@[simp] theorem asList_nil : (LV.v (.slice none 0 0)).asList = some [] := (rfl)
@[simp] theorem plain_v (x : Value) : (LV.v x).plain = true := (rfl)
@[simp] theorem plain_agg (cs : List LV) : (LV.agg cs).plain = true := (rfl)
@[simp] theorem plain_list (cs : List (List LV)) : (LV.list cs).plain = true := (rfl)
@[simp] theorem plain_el (cs : List LV) : (LV.el cs).plain = true := (rfl)
@[simp] theorem plain_fn (f : Nat) (cs ds : List LV) : (LV.fn f cs ds).plain = true := (rfl)
@[simp] theorem plain_emp (b : Bool) : (LV.emp b).plain = true := (rfl)
@[simp] theorem plain_ifc (t : Nat) (l : LV) : (LV.ifc t l).plain = true := (rfl)
@[simp] theorem hot_emp (b : Bool) : (LV.emp b).hot = false := (rfl)
@[simp] theorem hot_ifc (t : Nat) (l : LV) : (LV.ifc t l).hot = false := (rfl)
@[simp] theorem one_emp (b : Bool) : (LV.emp b).one = true := (rfl)
@[simp] theorem one_ifc (t : Nat) (l : LV) : (LV.ifc t l).one = true := (rfl)
@[simp] theorem cells_emp (b : Bool) : (LV.emp b).cells = [.emp b] := (rfl)
@[simp] theorem cells_ifc (t : Nat) (l : LV) : (LV.ifc t l).cells = [.ifc t l] := (rfl)
@[simp] theorem asList_emp (b : Bool) : (LV.emp b).asList = some [] := (rfl)
@[simp] theorem isV_emp (b : Bool) : (LV.emp b).isV = false := (rfl)
@[simp] theorem isPtr_emp (b : Bool) : (LV.emp b).isPtr = false := (rfl)
@[simp] theorem isPtr_ifc (t : Nat) (l : LV) : (LV.ifc t l).isPtr = false := (rfl)
@[simp] theorem isRow_rs (d g lo n sz : Nat) : (LV.rs d g lo n sz).isRow = true := (rfl)
@[simp] theorem isRow_v (x : Value) : (LV.v x).isRow = false := (rfl)
@[simp] theorem isRow_list (x : List (List LV)) : (LV.list x).isRow = false := (rfl)
@[simp] theorem isRow_emp (b : Bool) : (LV.emp b).isRow = false := (rfl)
@[simp] theorem isEmptyL_nil : isEmptyL (some []) = true := (rfl)
@[simp] theorem isEmptyL_cons (x : List LV) (xs : List (List LV)) : isEmptyL (some (x :: xs)) = false := (rfl)
@[simp] theorem isEmptyL_none : isEmptyL none = false := (rfl)
theorem isEmptyL_ne {xs : List (List LV)} (h : xs ≠ []) : isEmptyL (some xs) = false := by cases xs <;> first | rfl | exact absurd rfl h
@[simp] theorem isSliceTy_slice (e : Nat) : isSliceTy (some (.slice e)) = true := (rfl)
@[simp] theorem isSliceTy_int (k : IntKind) : isSliceTy (some (.int k)) = false := (rfl)
@[simp] theorem isSliceTy_bool : isSliceTy (some .bool) = false := (rfl)
@[simp] theorem isSliceTy_str : isSliceTy (some .str) = false := (rfl)
@[simp] theorem isSliceTy_other : isSliceTy (some .other) = false := (rfl)
@[simp] theorem isNilV_nil (n c : Nat) : isNilV (.v (.slice none n c)) = true := (rfl)
@[simp] theorem nilEq_nil (n c : Nat) : nilEq (.v (.slice none n c)) = some true := (rfl)
@[simp] theorem nilEq_cons (x : List LV) (xs : List (List LV)) : nilEq (.list (x :: xs)) = some false := (rfl)
theorem nilEq_ne {xs : List (List LV)} (h : xs ≠ []) : nilEq (.list xs) = some false := by cases xs <;> first | rfl | exact absurd rfl h
@[simp] theorem nilEq_emp (b : Bool) : nilEq (.emp b) = some !b := (rfl)
@[simp] theorem nilEq_rs0 (d g n sz : Nat) : nilEq (.rs d g 0 n sz) = some false := by cases n <;> rfl
attribute [simp] sliceOp
@[simp] theorem plain_ptr (d g o : Nat) : (LV.ptr d g o).plain = false := (rfl)
@[simp] theorem plain_rs (d g lo n sz : Nat) : (LV.rs d g lo n sz).plain = false := (rfl)
@[simp] theorem plain_clo (f : Nat) (cs : List LV) : (LV.clo f cs).plain = false := (rfl)
@[simp] theorem hot_v (x : Value) : (LV.v x).hot = false := (rfl)
@[simp] theorem hot_agg (x : List LV) : (LV.agg x).hot = false := (rfl)
@[simp] theorem hot_list (x : List (List LV)) : (LV.list x).hot = false := (rfl)
@[simp] theorem hot_fn (f : Nat) (x y : List LV) : (LV.fn f x y).hot = false := (rfl)
@[simp] theorem hot_tup (x : List LV) : (LV.tup x).hot = false := (rfl)
@[simp] theorem hot_el (x : List LV) : (LV.el x).hot = false := (rfl)
@[simp] theorem hot_ptr (d g o : Nat) : (LV.ptr d g o).hot = true := (rfl)
@[simp] theorem hot_rs (d g lo n sz : Nat) : (LV.rs d g lo n sz).hot = true := (rfl)
@[simp] theorem hot_clo (f : Nat) (cs : List LV) : (LV.clo f cs).hot = true := (rfl)
theorem hot_of_plain {l : LV} (h : l.plain = true) : l.hot = false := by cases l <;> first | rfl | simp [LV.plain] at h
@[simp] theorem cells_ptr (d g o : Nat) : (LV.ptr d g o).cells = [.ptr d g o] := (rfl)
@[simp] theorem cells_rs (d g lo n sz : Nat) : (LV.rs d g lo n sz).cells = [.rs d g lo n sz] := (rfl)
@[simp] theorem cells_clo (f : Nat) (cs : List LV) : (LV.clo f cs).cells = [.clo f cs] := (rfl)
@[simp] theorem one_ptr (d g o : Nat) : (LV.ptr d g o).one = false := (rfl)
@[simp] theorem one_rs (d g lo n sz : Nat) : (LV.rs d g lo n sz).one = false := (rfl)
@[simp] theorem one_clo (f : Nat) (cs : List LV) : (LV.clo f cs).one = false := (rfl)
@[simp] theorem asList_rs (d g lo n sz : Nat) : (LV.rs d g lo n sz).asList = none := (rfl)
@[simp] theorem isV_rs (d g lo n sz : Nat) : (LV.rs d g lo n sz).isV = false := (rfl)
@[simp] theorem isPtr_rs (d g lo n sz : Nat) : (LV.rs d g lo n sz).isPtr = false := (rfl)
@[simp] theorem isPtr_ptr (d g o : Nat) : (LV.ptr d g o).isPtr = true := (rfl)
@[simp] theorem isPtr_clo (f : Nat) (cs : List LV) : (LV.clo f cs).isPtr = false := (rfl)
/-! names of lent boxes, told in the caller's -/
@[simp] theorem un_ptr (ks : List (Nat × Nat)) (d g o : Nat) : LV.un ks (.ptr d g o) = .ptr (ks.getD (d - 1000000) (0, 0)).1 (ks.getD (d - 1000000) (0, 0)).2 o := (rfl)
@[simp] theorem un_rs (ks : List (Nat × Nat)) (d g lo n sz : Nat) : LV.un ks (.rs d g lo n sz) = .rs (ks.getD (d - 1000000) (0, 0)).1 (ks.getD (d - 1000000) (0, 0)).2 lo n sz := (rfl)
@[simp] theorem un_clo (ks : List (Nat × Nat)) (f : Nat) (cs : List LV) : LV.un ks (.clo f cs) = .clo f (cs.map (LV.un1 ks)) := (rfl)
@[simp] theorem un_v (ks : List (Nat × Nat)) (x : Value) : LV.un ks (.v x) = .v x := (rfl)
@[simp] theorem un_agg (ks : List (Nat × Nat)) (x : List LV) : LV.un ks (.agg x) = .agg x := (rfl)
@[simp] theorem un_list (ks : List (Nat × Nat)) (x : List (List LV)) : LV.un ks (.list x) = .list x := (rfl)
@[simp] theorem un_el (ks : List (Nat × Nat)) (x : List LV) : LV.un ks (.el x) = .el x := (rfl)
@[simp] theorem un_tup (ks : List (Nat × Nat)) (x : List LV) : LV.un ks (.tup x) = .tup x := (rfl)
@[simp] theorem un_fn (ks : List (Nat × Nat)) (f : Nat) (x y : List LV) : LV.un ks (.fn f x y) = .fn f x y := (rfl)
@[simp] theorem un_emp (ks : List (Nat × Nat)) (b : Bool) : LV.un ks (.emp b) = .emp b := (rfl)
@[simp] theorem un_ifc (ks : List (Nat × Nat)) (t : Nat) (l : LV) : LV.un ks (.ifc t l) = .ifc t l := (rfl)
@[simp] theorem un_dead (ks : List (Nat × Nat)) : LV.un ks .dead = .dead := (rfl)
theorem un_plain {ks : List (Nat × Nat)} {l : LV} (h : l.plain = true) : LV.un ks l = l := by cases l <;> first | rfl | simp [LV.plain] at h
@[simp] theorem un1_ptr (ks : List (Nat × Nat)) (d g o : Nat) : LV.un1 ks (.ptr d g o) = .ptr (ks.getD (d - 1000000) (0, 0)).1 (ks.getD (d - 1000000) (0, 0)).2 o := (rfl)
@[simp] theorem un1_el (ks : List (Nat × Nat)) (x : List LV) : LV.un1 ks (.el x) = .el x := (rfl)
@[simp] theorem newKeys_zero (d g : Nat) : newKeys d g 0 = [] := (rfl)
@[simp] theorem newKeys_one (d g : Nat) : newKeys d g 1 = [(d, g + 1)] := (rfl)
@[simp] theorem newKeys_two (d g : Nat) : newKeys d g 2 = [(d, g + 1), (d, g + 1 + 1)] := (rfl)
@[simp] theorem lentKeys_zero : lentKeys 0 = [] := (rfl)
@[simp] theorem lentKeys_one : lentKeys 1 = [(1000000, 0)] := (rfl)
@[simp] theorem lentKeys_two : lentKeys 2 = [(1000000, 0), (1000001, 0)] := (rfl)
@[simp] theorem lentKeys_three : lentKeys 3 = [(1000000, 0), (1000001, 0), (1000002, 0)] := (rfl)
@[simp] theorem lentKeys_four : lentKeys 4 = [(1000000, 0), (1000001, 0), (1000002, 0), (1000003, 0)] := (rfl)
@[simp] theorem lentKeys_five : lentKeys 5 = [(1000000, 0), (1000001, 0), (1000002, 0), (1000003, 0), (1000004, 0)] := (rfl)
@[simp] theorem look_eq (s : S) (x y : Nat) : look s x y = (s.b x y).map fun c => c.map (·.1) := (rfl)
/-! freezing -/
@[simp] theorem fz_ptr (d g : Nat) (cs : List LV) (x y o : Nat) : fz d g cs (.ptr x y o) = if x = d ∧ y = g then .el (cs.drop o) else .ptr x y o := (rfl)
@[simp] theorem fz_rs (d g : Nat) (cs : List LV) (x y lo n sz : Nat) : fz d g cs (.rs x y lo n sz) = if x = d ∧ y = g then (if (lo + n) * sz ≤ cs.length then .list (chunks sz n (cs.drop (lo * sz))) else .dead) else .rs x y lo n sz := (rfl)
@[simp] theorem fz_clo (d g : Nat) (cs : List LV) (f : Nat) (caps : List LV) : fz d g cs (.clo f caps) = if (caps.map (fz1 d g cs)).all LV.plain then .fn f [] (caps.map (fz1 d g cs)) else .clo f (caps.map (fz1 d g cs)) := (rfl)
@[simp] theorem fz_v (d g : Nat) (cs : List LV) (x : Value) : fz d g cs (.v x) = .v x := (rfl)
@[simp] theorem fz_agg (d g : Nat) (cs x : List LV) : fz d g cs (.agg x) = .agg x := (rfl)
@[simp] theorem fz_list (d g : Nat) (cs : List LV) (x : List (List LV)) : fz d g cs (.list x) = .list x := (rfl)
@[simp] theorem fz_el (d g : Nat) (cs x : List LV) : fz d g cs (.el x) = .el x := (rfl)
@[simp] theorem fz_tup (d g : Nat) (cs x : List LV) : fz d g cs (.tup x) = .tup x := (rfl)
@[simp] theorem fz_fn (d g : Nat) (cs : List LV) (f : Nat) (x y : List LV) : fz d g cs (.fn f x y) = .fn f x y := (rfl)
@[simp] theorem fz_emp (d g : Nat) (cs : List LV) (b : Bool) : fz d g cs (.emp b) = .emp b := (rfl)
@[simp] theorem fz_ifc (d g : Nat) (cs : List LV) (t : Nat) (l : LV) : fz d g cs (.ifc t l) = .ifc t l := (rfl)
@[simp] theorem fz_dead (d g : Nat) (cs : List LV) : fz d g cs .dead = .dead := (rfl)
@[simp] theorem fz1_ptr (d g : Nat) (cs : List LV) (x y o : Nat) : fz1 d g cs (.ptr x y o) = if x = d ∧ y = g then .el (cs.drop o) else .ptr x y o := (rfl)
@[simp] theorem fz1_el (d g : Nat) (cs x : List LV) : fz1 d g cs (.el x) = .el x := (rfl)
@[simp] theorem plain_tup (cs : List LV) : (LV.tup cs).plain = true := (rfl)
@[simp] theorem cells_agg (cs : List LV) : (LV.agg cs).cells = cs := (rfl)
@[simp] theorem cells_v (x : Value) : (LV.v x).cells = [.v x] := (rfl)
@[simp] theorem cells_list (x : List (List LV)) : (LV.list x).cells = [.list x] := (rfl)
@[simp] theorem cells_fn (f : Nat) (x y : List LV) : (LV.fn f x y).cells = [.fn f x y] := (rfl)
@[simp] theorem one_v (x : Value) : (LV.v x).one = x.oneCell' := (rfl)
@[simp] theorem one_list (x : List (List LV)) : (LV.list x).one = true := (rfl)
@[simp] theorem one_fn (f : Nat) (x y : List LV) : (LV.fn f x y).one = true := (rfl)
@[simp] theorem oc_int (k : IntKind) (n : Int) : (Value.int k n).oneCell' = true := (rfl)
@[simp] theorem oc_bool (b : Bool) : (Value.bool b).oneCell' = true := (rfl)
@[simp] theorem oc_string (b : ByteArray) : (Value.string b).oneCell' = true := (rfl)
@[simp] theorem oc_slice (a : Option Addr) (n c : Nat) : (Value.slice a n c).oneCell' = true := (rfl)
@[simp] theorem oc_nilFunc : Value.nilFunc.oneCell' = true := (rfl)
@[simp] theorem oc_nilIface : Value.nilIface.oneCell' = true := (rfl)
@[simp] theorem oc_ptr (a : Option Addr) : (Value.pointer a).oneCell' = true := (rfl)
@[simp] theorem oc_map (a : Option Nat) : (Value.map a).oneCell' = true := (rfl)
@[simp] theorem oc_func (f : Fn) (x y : Array Value) : (Value.func f x y).oneCell' = true := (rfl)
@[simp] theorem isV_v (x : Value) : (LV.v x).isV = true := (rfl)
@[simp] theorem isV_list (x : List (List LV)) : (LV.list x).isV = false := (rfl)
@[simp] theorem isPtr_v (x : Value) : (LV.v x).isPtr = false := (rfl)
@[simp] theorem isPtr_list (x : List (List LV)) : (LV.list x).isPtr = false := (rfl)
@[simp] theorem isPtr_agg (x : List LV) : (LV.agg x).isPtr = false := (rfl)
@[simp] theorem isPtr_tup (x : List LV) : (LV.tup x).isPtr = false := (rfl)
@[simp] theorem isPtr_fn (f : Nat) (x y : List LV) : (LV.fn f x y).isPtr = false := (rfl)
@[simp] theorem isPtr_el (x : List LV) : (LV.el x).isPtr = false := (rfl)
@[simp] theorem isAgg_struct (fs : List (Nat × Nat)) : (TD.struct fs).isAgg = true := (rfl)
@[simp] theorem isAgg_arr (e n : Nat) : (TD.arr e n).isAgg = true := (rfl)
@[simp] theorem isAgg_int (k : IntKind) : (TD.int k).isAgg = false := (rfl)
@[simp] theorem isAgg_bool : TD.bool.isAgg = false := (rfl)
@[simp] theorem isAgg_str : TD.str.isAgg = false := (rfl)
@[simp] theorem isAgg_slice (e : Nat) : (TD.slice e).isAgg = false := (rfl)
@[simp] theorem isAgg_other : TD.other.isAgg = false := (rfl)

/-! What operations do, op by op. The combinators are the form's own, so that no step is taken by unfolding alone. -/
def ob {α β : Type} : Option α → (α → Option β) → Option β
  | some a, f => f a
  | none, _ => none
def om {α β : Type} : Option α → (α → β) → Option β
  | some a, f => some (f a)
  | none, _ => none
@[simp] theorem ob_some {α β : Type} (a : α) (f : α → Option β) : ob (some a) f = f a := (rfl)
@[simp] theorem ob_none {α β : Type} (f : α → Option β) : ob none f = none := (rfl)
@[simp] theorem om_some {α β : Type} (a : α) (f : α → β) : om (some a) f = some (f a) := (rfl)
@[simp] theorem om_none {α β : Type} (f : α → β) : om none f = none := (rfl)
/-- What is found, or else something other. -/
def oc {α β : Type} : Option α → (α → β) → β → β
  | some a, f, _ => f a
  | none, _, y => y
@[simp] theorem oc_some {α β : Type} (a : α) (f : α → β) (y : β) : oc (some a) f y = f a := (rfl)
@[simp] theorem oc_none {α β : Type} (f : α → β) (y : β) : oc none f y = y := (rfl)
theorem ob_eq {α β : Type} (x : Option α) (f : α → Option β) : ob x f = x.bind f := by cases x <;> rfl
theorem om_eq {α β : Type} (x : Option α) (f : α → β) : om x f = x.map f := by cases x <;> rfl
@[simp] theorem ob_ite {α β : Type} (p : Prop) [Decidable p] (x y : Option α) (f : α → Option β) : ob (if p then x else y) f = if p then ob x f else ob y f := by split <;> rfl

def contL (s : S) (dst : Option Nat) (K : S → Option S) : Option LV → Option S
  | some l => K (s.put dst l)
  | none => none
@[simp] theorem contL_some (s : S) (dst : Option Nat) (K : S → Option S) (l : LV) : contL s dst K (some l) = K (s.put dst l) := (rfl)
@[simp] theorem contL_none (s : S) (dst : Option Nat) (K : S → Option S) : contL s dst K none = none := (rfl)

def binL0 (τ : Tab) (op : BinOp) (t : Nat) : LV → LV → Option LV
  | .v a, .v b => if boolOk τ t a then (binOpV op a b).map .v else none
  | _, _ => none
def binL (τ : Tab) (op : BinOp) (t : Nat) (x y : LV) : Option LV := if isSliceTy (desc τ t) then sliceOp op x y else binL0 τ op t x y

def loadL (ti : TI) (s : S) : LV → Option (LV × Tag)
  | .el cs => (part ti.d.isAgg ti.size cs).map fun l => (l, (0, 0))
  | .ptr d g off => match s.b d g with
    | some cells => if ti.d.isAgg = true ∧ ((cells.drop off).take ti.size).all (fun c => c.1.plain) = false then none else (part ti.d.isAgg ti.size ((cells.drop off).map (·.1))).map fun l => (l, if ti.d.isAgg then (0, 0) else ((cells[off]?).map (·.2)).getD (0, 0))
    | none => none
  | _ => none

def cellsT (l : LV) (tg : Tag) : List (LV × Tag) := match l with
  | .agg cs => cs.map fun c => (c, (0, 0))
  | l => [(l, tg)]
@[simp] theorem cellsT_agg (cs : List LV) (tg : Tag) : cellsT (.agg cs) tg = cs.map fun c => (c, (0, 0)) := (rfl)
@[simp] theorem cellsT_v (x : Value) (tg : Tag) : cellsT (.v x) tg = [(.v x, tg)] := (rfl)
@[simp] theorem cellsT_list (x : List (List LV)) (tg : Tag) : cellsT (.list x) tg = [(.list x, tg)] := (rfl)
@[simp] theorem cellsT_fn (f : Nat) (x y : List LV) (tg : Tag) : cellsT (.fn f x y) tg = [(.fn f x y, tg)] := (rfl)
@[simp] theorem cellsT_emp (b : Bool) (tg : Tag) : cellsT (.emp b) tg = [(.emp b, tg)] := (rfl)
@[simp] theorem cellsT_ifc (t : Nat) (l : LV) (tg : Tag) : cellsT (.ifc t l) tg = [(.ifc t l, tg)] := (rfl)
@[simp] theorem cellsT_ptr (d g o : Nat) (tg : Tag) : cellsT (.ptr d g o) tg = [(.ptr d g o, tg)] := (rfl)
@[simp] theorem cellsT_rs (d g lo n sz : Nat) (tg : Tag) : cellsT (.rs d g lo n sz) tg = [(.rs d g lo n sz, tg)] := (rfl)
@[simp] theorem cellsT_clo (f : Nat) (x : List LV) (tg : Tag) : cellsT (.clo f x) tg = [(.clo f x, tg)] := (rfl)

def storeL (ti : TI) (s : S) (a x : LV) (tg : Tag) : Option S :=
  match a with
  | .ptr d g off => match s.b d g with
    | some cells => if x.cells.length = ti.size ∧ off + ti.size ≤ cells.length ∧ (x.hot || x.cells.all LV.one) then some (s.setBox d g off (cellsT x tg)) else none
    | none => none
  | _ => none

def nilL : LV → Option LV
  | .ptr d g off => some (.ptr d g off)
  | .el cs => some (.el cs)
  | _ => none

def minLs (greatest : Bool) : List LV → Option LV
  | .v (.int k x) :: r => minL greatest k x r
  | _ => none
@[simp] theorem minLs_cons (gr : Bool) (k : IntKind) (x : Int) (r : List LV) : minLs gr (.v (.int k x) :: r) = minL gr k x r := (rfl)
@[simp] theorem minL_nil (gr : Bool) (k : IntKind) (x : Int) : minL gr k x [] = some (.v (.int k x)) := (rfl)
@[simp] theorem minL_f (k k' : IntKind) (x y : Int) (r : List LV) : minL false k x (.v (.int k' y) :: r) = if k = k' then minL false k (if y < x then y else x) r else none := (rfl)
@[simp] theorem minL_t (k k' : IntKind) (x y : Int) (r : List LV) : minL true k x (.v (.int k' y) :: r) = if k = k' then minL true k (if y > x then y else x) r else none := (rfl)

def unL : UnOp → LV → Option LV
  | .not, .v (.bool b) => some (.v (.bool (!b)))
  | .neg, .v (.int k a) => some (.v (.int k (k.wrap (0 - a))))
  | .xor, .v (.int k a) => some (.v (.int k (turned k a)))
  | _, _ => none

def convL : Option TD → Option TD → LV → Option LV
  | some (.int _), some (.int k), .v (.int _ n) => some (.v (.int k (k.wrap n)))
  | some .str, some .str, .v (.string b) => some (.v (.string b))
  | _, _, _ => none

def fieldAddrL (ti : TI) (f : Nat) (x : LV) : Option LV :=
  match ti.d with
  | .struct fs => match fs[f]?, x with
    | some (off, sz), .ptr d g p => if 0 < sz then some (.ptr d g (p + off)) else none
    | some (off, sz), .el cs => if 0 < sz then some (.el (cs.drop off)) else none
    | _, _ => none
  | _ => none

def fieldL (τ : Tab) (ti : TI) (f : Nat) (x : LV) : Option LV :=
  match ti.d with
  | .struct fs => match fs[f]?, (ti.ft[f]?).bind τ, x with
    | some (off, _), some fi, .agg cs => part fi.d.isAgg fi.size (cs.drop off)
    | _, _, _ => none
  | _ => none

def rowIdx (ti : TI) (j : Int) : LV → Option LV
  | .rs d g lo n sz => if 0 ≤ j ∧ j < n ∧ ti.size = sz then some (.ptr d g ((lo + j.toNat) * sz)) else none
  | _ => none
@[simp] theorem rowIdx_rs (ti : TI) (j : Int) (d g lo n sz : Nat) : rowIdx ti j (.rs d g lo n sz) = if 0 ≤ j ∧ j < n ∧ ti.size = sz then some (.ptr d g ((lo + j.toNat) * sz)) else none := (rfl)

def idxAddrL (ti : TI) (x i : LV) : Option LV :=
  match i with
  | .v (.int _ n) => oc x.asList (fun xs => if 0 ≤ n ∧ n < xs.length then (xs[n.toNat]?).bind fun e => if e.length = ti.size then some (.el e) else none else none) (rowIdx ti n x)
  | _ => none

def idxL (τ : Tab) (d : Option TD) (x i : LV) : Option LV :=
  match d, x, i with
  | some .str, .v (.string b), .v (.int _ n) => if 0 ≤ n then (b[n.toNat]?).map fun c => .v (.int .u8 c.toNat) else none
  | some (.arr e len), .agg cs, .v (.int _ n) => match τ e with
    | some ti => if 0 ≤ n ∧ n < len then part ti.d.isAgg ti.size (cs.drop (n.toNat * ti.size)) else none
    | none => none
  | _, _, _ => none

def extL (k : Nat) : LV → Option LV
  | .tup vs => vs[k]?
  | _ => none

def rowLen : LV → Option LV
  | .rs _ _ _ n _ => some (.v (.int .i64 n))
  | _ => none
@[simp] theorem rowLen_rs (d g lo n sz : Nat) : rowLen (.rs d g lo n sz) = some (.v (.int .i64 n)) := (rfl)

def lenL (d : Option TD) (x : LV) : Option LV :=
  match d with
  | some .str => match x with
    | .v (.string b) => some (.v (.int .i64 b.size))
    | _ => none
  | some (.slice _) => oc x.asList (fun xs => some (.v (.int .i64 xs.length))) (rowLen x)
  | _ => none

def buildL (τ : Tab) (ti : TI) (parts : List (Nat × LV)) : Option LV :=
  match ti.d with
  | .struct fs => if parts.all fun p => p.2.cells.all LV.one then (fillL (fs[·]?) (ti.zero.map .v) parts).bind (fun cs => if cs.all LV.one then some (.agg cs) else none) else none
  | .arr e _ => match τ e with
    | some te => if parts.all fun p => p.2.cells.all LV.one then (fillL (fun i => some (i * te.size, te.size)) (ti.zero.map .v) parts).bind (fun cs => if cs.all LV.one then some (.agg cs) else none) else none
    | none => none
  | _ => none

def buildSliceL (ti : TI) (len : Nat) (parts : List (Nat × LV)) : Option LV :=
  if len * ti.size ≤ 16777216 ∧ 0 < ti.size ∧ ti.zero.length = ti.size ∧ 0 < len ∧ (parts.all fun p => p.2.cells.all LV.one) then
    (fillL (fun i => some (i * ti.size, ti.size)) ((List.replicate len (ti.zero.map LV.v)).flatten) parts).bind fun cs =>
      if cs.all LV.one then some (.list ((List.range len).map fun i => (cs.drop (i * ti.size)).take ti.size)) else none
  else none

/-- A slice may grow here by another one: onto nil; onto a row of the frame's own. -/
def rowAppend (Γ : Env) (ti : TI) (s : S) (d : Nat) (x y : LV) : Option (S × LV × Tag) :=
  match x with
  | .rs d0 g0 lo n sz =>
    match y.asList, s.b d0 g0 with
    | some ys, some cells =>
      if Γ.rows = true ∧ lo = 0 ∧ sz = ti.size ∧ cells.length = n * sz ∧ (ys.all fun e => e.length == ti.size) ∧ 0 < ti.size ∧ ti.zero.length = ti.size ∧ n + ys.length ≤ 9223372036854775807 ∧ (n + ys.length) * ti.bytes ≤ 140737488355328 ∧ ys ≠ [] then
        some (s.renew d0 g0 d (cells ++ ys.flatten.map fun c => (c, (0, 0))), .rs d (s.g d + 1) 0 (n + ys.length) sz, (0, 0))
      else none
    | _, _ => none
  | _ => none

def appendL (Γ : Env) (ti : TI) (s : S) (d : Nat) (x y : LV) (tg : Tag) : Option (S × LV × Tag) :=
  if isEmptyL y.asList = true ∧ (x.asList.isSome || x.isRow) then some (s, x, tg) else
  match x.asList, y.asList with
  | none, _ => rowAppend Γ ti s d x y
  | some xs, some ys =>
    if (xs.all fun e => e.length == ti.size) ∧ (ys.all fun e => e.length == ti.size) ∧ 0 < ti.size ∧ ti.zero.length = ti.size ∧ xs.length + ys.length ≤ 9223372036854775807 ∧ (xs.length + ys.length) * ti.bytes ≤ 140737488355328 ∧ ys ≠ [] then
      if x.isV then
        if Γ.rm d = true then some (s.newBox d (ys.flatten.map fun c => (c, (0, 0))), .rs d (s.g d + 1) 0 ys.length ti.size, (0, 0))
        else some (s.setTok (d + 1) (s.tv (d + 1) + 1), .list (xs ++ ys), (d + 1, s.tv (d + 1) + 1))
      else if tg.1 ≠ 0 ∧ tg.2 = s.tv tg.1 then some (s.setTok tg.1 (tg.2 + 1), .list (xs ++ ys), (tg.1, tg.2 + 1))
      else none
    else none
  | _, _ => none

@[simp] theorem lenL_slice (e : Nat) (x : LV) : lenL (some (.slice e)) x = oc x.asList (fun xs => some (.v (.int .i64 xs.length))) (rowLen x) := (rfl)
@[simp] theorem lenL_str (b : ByteArray) : lenL (some .str) (.v (.string b)) = some (.v (.int .i64 b.size)) := (rfl)
@[simp] theorem idxAddrL_int (ti : TI) (x : LV) (k : IntKind) (n : Int) : idxAddrL ti x (.v (.int k n)) =
    oc x.asList (fun xs => if 0 ≤ n ∧ n < xs.length then (xs[n.toNat]?).bind fun e => if e.length = ti.size then some (.el e) else none else none) (rowIdx ti n x) := (rfl)
@[simp] theorem idxL_str (τ : Tab) (b : ByteArray) (k : IntKind) (n : Int) : idxL τ (some .str) (.v (.string b)) (.v (.int k n)) = if 0 ≤ n then (b[n.toNat]?).map fun c => .v (.int .u8 c.toNat) else none := (rfl)
def makeL (ti : TI) (s : S) (d : Nat) (x y : LV) : Option S :=
  match x, y with
  | .v (.int _ n), .v (.int _ m) =>
    if n = m ∧ 0 ≤ n ∧ n ≤ 9223372036854775807 ∧ 0 < ti.size ∧ ti.zero.length = ti.size ∧ n * ti.bytes ≤ 140737488355328 then
      some ((s.newBox d (((List.replicate n.toNat (ti.zero.map LV.v)).flatten).map fun c => (c, (0, 0)))).put (some d) (.rs d (s.g d + 1) 0 n.toNat ti.size))
    else none
  | _, _ => none
@[simp] theorem makeL_int (ti : TI) (s : S) (d : Nat) (k k' : IntKind) (n m : Int) : makeL ti s d (.v (.int k n)) (.v (.int k' m)) =
    if n = m ∧ 0 ≤ n ∧ n ≤ 9223372036854775807 ∧ 0 < ti.size ∧ ti.zero.length = ti.size ∧ n * ti.bytes ≤ 140737488355328 then
      some ((s.newBox d (((List.replicate n.toNat (ti.zero.map LV.v)).flatten).map fun c => (c, (0, 0)))).put (some d) (.rs d (s.g d + 1) 0 n.toNat ti.size))
    else none := (rfl)
@[simp] theorem part_true (n : Nat) (cs : List LV) : part true n cs = if n ≤ cs.length then some (.agg (cs.take n)) else none := (rfl)
@[simp] theorem part_false (c : LV) (cs : List LV) : part false 1 (c :: cs) = some c := (rfl)
attribute [simp] loadL storeL binL binL0 nilL unL convL fieldAddrL fieldL extL buildL buildSliceL binOpV intOp boolOk fillL over
@[simp] theorem target_func (f : Nat) (args : List LV) : target (.v (.func (.func f) #[] #[])) args = some (f, args) := by simp [target]
@[simp] theorem target_fn (f : Nat) (first caps args : List LV) : target (.fn f first caps) args = some (f, first ++ args ++ caps) := (rfl)
@[simp] theorem target_clo (f : Nat) (caps args : List LV) : target (.clo f caps) args = some (f, args ++ caps) := (rfl)
@[simp] theorem evalCall_func (Γ : Env) (f : Nat) (args : List LV) : evalCall Γ (.v (.func (.func f) #[] #[])) args = if args.all LV.plain then Γ.call f args else none := by simp [evalCall]
@[simp] theorem evalCall_fn (Γ : Env) (f : Nat) (first caps args : List LV) : evalCall Γ (.fn f first caps) args = if (first ++ args ++ caps).all LV.plain then Γ.call f (first ++ args ++ caps) else none := by simp [evalCall]
@[simp] theorem evalCall_clo (Γ : Env) (f : Nat) (caps args : List LV) : evalCall Γ (.clo f caps) args = if (args ++ caps).all LV.plain then Γ.call f (args ++ caps) else none := by simp [evalCall]

section
variable (τ : Tab) (Γ : Env) (s : S) (dst : Option Nat) (ty : Nat) (pos : String) (aft : Array Edge)

theorem eff_moveS (x : Operand) : (eff τ Γ s ⟨dst, .move x, ty, pos, aft, none⟩).map (fun u => u.apply dst s) = some (s.put dst (s.eval x) (s.tag x)) := (rfl)

/-- The next state behind one operation, whatever guards it. -/
def nextL (o : Oper) : Option S := (eff τ Γ s o).map fun u => u.apply o.dst s

variable (gd : Option (Nat × Bool))
@[simp] theorem next_move (x : Operand) : nextL τ Γ s ⟨dst, .move x, ty, pos, aft, gd⟩ = some (s.put dst (s.eval x) (s.tag x)) := (rfl)
@[simp] theorem next_assign (x : Operand) : nextL τ Γ s ⟨dst, .assign x, ty, pos, aft, gd⟩ = some (s.put dst (s.eval x) (s.tag x)) := (rfl)
def pickL (s : S) (dst : Option Nat) (c : LV) (a b : LV × Tag) : Option S :=
  match c with
  | .v (.bool true) => some (s.put dst a.1 a.2)
  | .v (.bool false) => some (s.put dst b.1 b.2)
  | _ => none
@[simp] theorem pickL_t (s : S) (dst : Option Nat) (a b : LV × Tag) : pickL s dst (.v (.bool true)) a b = some (s.put dst a.1 a.2) := (rfl)
@[simp] theorem pickL_f (s : S) (dst : Option Nat) (a b : LV × Tag) : pickL s dst (.v (.bool false)) a b = some (s.put dst b.1 b.2) := (rfl)
@[simp] theorem next_pick (c a b : Operand) : nextL τ Γ s ⟨dst, .pick c a b, ty, pos, aft, gd⟩ = pickL s dst (s.eval c) (s.eval a, s.tag a) (s.eval b, s.tag b) := by
  unfold nextL pickL
  simp only [eff]
  cases s.eval c with
  | v x =>
    cases x <;> try rfl
    rename_i b
    cases b <;> rfl
  | _ => rfl
@[simp] theorem next_alloc (d t : Nat) : nextL τ Γ s ⟨some d, .alloc t, ty, pos, aft, gd⟩ = om (τ t) fun ti => (s.newBox d (ti.zero.map fun x => (.v x, (0, 0)))).put (some d) (.ptr d (s.g d + 1) 0) := by
  simp only [ob_eq, om_eq]
  unfold nextL
  simp only [eff]
  cases τ t <;> rfl
@[simp] theorem next_box (d t : Nat) (x : Operand) : nextL τ Γ s ⟨some d, .box t x, ty, pos, aft, gd⟩ =
    ob (τ t) fun ti => if (s.eval x).cells.length = ti.size ∧ ((s.eval x).hot || (s.eval x).cells.all LV.one) then some ((s.newBox d ((s.eval x).cells.map fun c => (c, (0, 0)))).put (some d) (.ptr d (s.g d + 1) 0)) else none := by
  simp only [ob_eq, om_eq]
  unfold nextL
  simp only [eff]
  cases τ t with
  | none => rfl
  | some ti => simp only [Option.bind_some]; split <;> rfl
@[simp] theorem next_load (t : Nat) (a : Operand) : nextL τ Γ s ⟨dst, .load t a, ty, pos, aft, gd⟩ = ob (τ t) fun ti => om (loadL ti s (s.eval a)) fun p => s.put dst p.1 p.2 := by
  simp only [ob_eq, om_eq]
  unfold nextL loadL
  simp only [eff]
  cases τ t with
  | none => rfl
  | some ti =>
    simp only [Option.bind_some]
    cases s.eval a with
    | el cs => simp only; cases part ti.d.isAgg ti.size cs <;> rfl
    | ptr d g off =>
      simp only
      cases s.b d g with
      | none => rfl
      | some cells => simp only; split <;> first | rfl | (cases part ti.d.isAgg ti.size ((cells.drop off).map (·.1)) <;> rfl)
    | _ => rfl
@[simp] theorem next_store (t : Nat) (a x : Operand) : nextL τ Γ s ⟨none, .store t a x, ty, pos, aft, gd⟩ = ob (τ t) fun ti => storeL ti s (s.eval a) (s.eval x) (s.tag x) := by
  simp only [ob_eq, om_eq]
  unfold nextL storeL
  simp only [eff]
  cases τ t with
  | none => rfl
  | some ti =>
    simp only [Option.bind_some]
    cases s.eval a with
    | ptr d g off =>
      simp only
      cases s.b d g with
      | none => rfl
      | some cells =>
        simp only
        split
        · simp only [Option.map_some, Upd.apply, put_none', S.setBox, cellsT]
          congr 2
        · rfl
    | _ => rfl
@[simp] theorem next_nilCheck (x : Operand) : nextL τ Γ s ⟨dst, .nilCheck x, ty, pos, aft, gd⟩ = om (nilL (s.eval x)) fun l => s.put dst l := by
  simp only [ob_eq, om_eq]
  unfold nextL nilL
  simp only [eff]
  cases s.eval x <;> rfl
@[simp] theorem next_binOp (op : BinOp) (t t' : Nat) (x y : Operand) (hq : Γ.eqs t = none) : nextL τ Γ s ⟨dst, .binOp op t x y t', ty, pos, aft, gd⟩ = om (binL τ op t (s.eval x) (s.eval y)) fun l => s.put dst l := by
  simp only [ob_eq, om_eq]
  unfold nextL binL
  simp only [eff, hq]
  split
  · simp only [Option.map_map]; rfl
  · unfold binL0
    cases s.eval x <;> cases s.eval y <;> try rfl
    simp only
    split
    · rename_i a b _
      cases binOpV op a b <;> rfl
    · rfl
@[simp] theorem next_unOp (op : UnOp) (t : Nat) (x : Operand) : nextL τ Γ s ⟨dst, .unOp op t x, ty, pos, aft, gd⟩ = om (unL op (s.eval x)) fun l => s.put dst l := by
  simp only [ob_eq, om_eq]
  unfold nextL unL
  simp only [eff]
  generalize s.eval x = l
  split
  · rfl
  · rfl
  · rfl
  · rename_i h1 h2 h3
    split
    · exact absurd rfl (h1 _ rfl)
    · exact absurd rfl (h2 _ _ rfl)
    · exact absurd rfl (h3 _ _ rfl)
    · rfl
@[simp] theorem next_convert (t t' : Nat) (x : Operand) : nextL τ Γ s ⟨dst, .convert t t' x, ty, pos, aft, gd⟩ = om (convL (desc τ t) (desc τ t') (s.eval x)) fun l => s.put dst l := by
  simp only [ob_eq, om_eq]
  unfold nextL convL
  simp only [eff]
  generalize s.eval x = l
  generalize desc τ t = d1
  generalize desc τ t' = d2
  split
  · rfl
  · rfl
  · rename_i h1 h2
    split
    · exact absurd rfl (h1 _ _ _ _ rfl rfl)
    · exact absurd rfl (h2 _ rfl rfl)
    · rfl
@[simp] theorem next_fieldAddr (t f : Nat) (x : Operand) : nextL τ Γ s ⟨dst, .fieldAddr t x f, ty, pos, aft, gd⟩ = ob (τ t) fun ti => om (fieldAddrL ti f (s.eval x)) fun l => s.put dst l := by
  simp only [ob_eq, om_eq]
  unfold nextL fieldAddrL
  simp only [eff]
  cases τ t with
  | none => rfl
  | some ti =>
    obtain ⟨d, sz, by_, z, ft⟩ := ti
    cases d <;> try rfl
    rename_i fs
    simp only [Option.bind_some]
    cases fs[f]? with
    | none => rfl
    | some p =>
      obtain ⟨off, sz⟩ := p
      cases s.eval x <;> try rfl
      · simp only; split <;> rfl
      · simp only; split <;> rfl
@[simp] theorem next_field (t f : Nat) (x : Operand) : nextL τ Γ s ⟨dst, .field t x f, ty, pos, aft, gd⟩ = ob (τ t) fun ti => om (fieldL τ ti f (s.eval x)) fun l => s.put dst l := by
  simp only [ob_eq, om_eq]
  unfold nextL fieldL
  simp only [eff]
  cases τ t with
  | none => rfl
  | some ti =>
    obtain ⟨d, sz, by_, z, ft⟩ := ti
    cases d <;> try rfl
    rename_i fs
    simp only [Option.bind_some]
    cases fs[f]? with
    | none => rfl
    | some p =>
      obtain ⟨off, sz⟩ := p
      cases (ft[f]?).bind τ with
      | none => rfl
      | some fi =>
        cases s.eval x <;> try rfl
        simp only [Option.map_map]
        rfl
@[simp] theorem next_indexAddr_arr (t : Nat) (x i : Operand) (h : elemOf τ t = none) : nextL τ Γ s ⟨dst, .indexAddr t x i, ty, pos, aft, gd⟩ = om (idxArrL (s.eval x) (s.eval i) (arrOf τ t)) fun l => s.put dst l := by
  simp only [om_eq]
  unfold nextL
  simp only [eff, h, Option.map_map]
  rfl
@[simp] theorem next_indexAddr (t : Nat) (x i : Operand) (h : (elemOf τ t).isSome = true) : nextL τ Γ s ⟨dst, .indexAddr t x i, ty, pos, aft, gd⟩ = ob (elemOf τ t) fun p => om (idxAddrL p.2 (s.eval x) (s.eval i)) fun l => s.put dst l := by
  simp only [ob_eq, om_eq]
  unfold nextL idxAddrL
  simp only [eff]
  cases he : elemOf τ t with
  | none => rw [he] at h; cases h
  | some p =>
    obtain ⟨e, ti⟩ := p
    simp only [Option.bind_some]
    generalize s.eval i = l
    generalize s.eval x = lx
    have hlist : ∀ (lx : LV) (xs : List (List LV)), lx.asList = some xs → ((match elemOf τ t, lx.asList, l with
        | some (_, ti), some xs, .v (.int _ n) => if 0 ≤ n ∧ n < xs.length then (xs[n.toNat]?).bind fun e => if e.length = ti.size then some ({ l := .el e } : Upd) else none else none
        | _, _, _ => none) : Option Upd) = none → True := fun _ _ _ _ => trivial
    clear hlist
    cases lx
    case rs d g lo n sz =>
      cases l <;> try rfl
      rename_i v
      cases v <;> try rfl
      simp only [asList_rs, oc_none, rowIdx]
      split <;> rfl
    all_goals
      simp only
      generalize LV.asList _ = ax
      cases ax with
      | none => cases l <;> try rfl
                rename_i v
                cases v <;> rfl
      | some xs =>
        cases l <;> try rfl
        rename_i v
        cases v <;> try rfl
        rename_i k n
        simp only [oc_some]
        split
        · cases xs[n.toNat]? with
          | none => rfl
          | some e => simp only [Option.bind_some]; split <;> rfl
        · rfl
@[simp] theorem next_index (t : Nat) (x i : Operand) : nextL τ Γ s ⟨dst, .index t x i, ty, pos, aft, gd⟩ = om (idxL τ (desc τ t) (s.eval x) (s.eval i)) fun l => s.put dst l := by
  simp only [ob_eq, om_eq]
  unfold nextL idxL
  simp only [eff]
  generalize s.eval x = lx
  generalize s.eval i = li
  generalize desc τ t = d1
  split
  · simp only
    split
    · rename_i b _ n _
      cases b[n.toNat]? <;> rfl
    · rfl
  · rename_i e len cs k n
    simp only
    cases τ e with
    | none => rfl
    | some ti =>
      simp only
      split
      · simp only [Option.map_map]; rfl
      · rfl
  · rename_i h1 h2
    split
    · exact absurd rfl (h1 _ _ _ rfl rfl)
    · exact absurd rfl (h2 _ _ _ _ _ rfl rfl)
    · rfl
@[simp] theorem next_extract (x : Operand) (k : Nat) : nextL τ Γ s ⟨dst, .extract x k, ty, pos, aft, gd⟩ = om (extL k (s.eval x)) fun l => s.put dst l := by
  simp only [ob_eq, om_eq]
  unfold nextL extL
  simp only [eff]
  cases s.eval x <;> try rfl
  simp only [Option.map_map]
  rfl
@[simp] theorem next_build (t : Nat) (parts : Array (Nat × Operand)) : nextL τ Γ s ⟨dst, .build t parts, ty, pos, aft, gd⟩ = ob (τ t) fun ti => om (buildL τ ti (parts.toList.map fun p => (p.1, s.eval p.2))) fun l => s.put dst l := by
  simp only [ob_eq, om_eq]
  unfold nextL buildL
  simp only [eff, List.all_map]
  cases τ t with
  | none => rfl
  | some ti =>
    obtain ⟨d, sz, by_, z, ft⟩ := ti
    cases d <;> try rfl
    · rename_i fs
      simp only [Option.bind_some, Function.comp_def]
      split
      · cases fillL (fs[·]?) (z.map .v) (parts.toList.map fun p => (p.1, s.eval p.2)) with
        | none => rfl
        | some cs => simp only [Option.bind_some]; split <;> rfl
      · rfl
    · rename_i e n
      simp only [Option.bind_some, Function.comp_def]
      cases τ e with
      | none => rfl
      | some te =>
        simp only
        split
        · cases fillL (fun i => some (i * te.size, te.size)) (z.map .v) (parts.toList.map fun p => (p.1, s.eval p.2)) with
          | none => rfl
          | some cs => simp only [Option.bind_some]; split <;> rfl
        · rfl
theorem next_buildSlice' (t len : Nat) (h0 : len ≠ 0) (parts : Array (Nat × Operand)) : nextL τ Γ s ⟨dst, .buildSlice t len parts, ty, pos, aft, gd⟩ = ob (elemOf τ t) fun p => om (buildSliceL p.2 len (parts.toList.map fun p => (p.1, s.eval p.2))) fun l => s.put dst l := by
  simp only [ob_eq, om_eq]
  unfold nextL buildSliceL
  simp only [eff, List.all_map, Function.comp_def, h0, if_false]
  cases elemOf τ t with
  | none => rfl
  | some p =>
    obtain ⟨e, ti⟩ := p
    simp only [Option.bind_some]
    split
    · cases fillL (fun i => some (i * ti.size, ti.size)) ((List.replicate len (ti.zero.map LV.v)).flatten) (parts.toList.map fun p => (p.1, s.eval p.2)) with
      | none => rfl
      | some cs => simp only [Option.bind_some]; split <;> rfl
    · rfl
@[simp] theorem next_buildSlice (t len : Nat) (parts : Array (Nat × Operand)) : nextL τ Γ s ⟨dst, .buildSlice t (len + 1) parts, ty, pos, aft, gd⟩ = ob (elemOf τ t) fun p => om (buildSliceL p.2 (len + 1) (parts.toList.map fun p => (p.1, s.eval p.2))) fun l => s.put dst l := next_buildSlice' τ Γ s dst ty pos aft gd t (len + 1) (by omega) parts
@[simp] theorem next_buildSlice0 (d t : Nat) : nextL τ Γ s ⟨some d, .buildSlice t 0 #[], ty, pos, aft, gd⟩ = ob (elemOf τ t) fun p => if 0 < p.2.size then some ((s.newBox d []).put (some d) (.rs d (s.g d + 1) 0 0 p.2.size)) else none := by
  simp only [ob_eq, om_eq]
  unfold nextL
  simp only [eff, if_true]
  cases elemOf τ t with
  | none => rfl
  | some p =>
    obtain ⟨e, ti⟩ := p
    simp only [Option.bind_some, and_true]
    split <;> rfl
def ifcL (d : Option TD) (t : Nat) (x : LV) : Option LV :=
  match d with
  | some .other | none => none
  | some _ => if x.plain then some (.ifc t x) else none
@[simp] theorem ifcL_struct (fs : List (Nat × Nat)) (t : Nat) (x : LV) : ifcL (some (.struct fs)) t x = if x.plain then some (.ifc t x) else none := (rfl)
@[simp] theorem next_makeInterface (t : Nat) (x : Operand) : nextL τ Γ s ⟨dst, .makeInterface t x, ty, pos, aft, gd⟩ = om (ifcL (desc τ t) t (s.eval x)) fun l => s.put dst l := by
  simp only [om_eq]
  unfold nextL ifcL
  simp only [eff]
  generalize desc τ t = d
  cases d with
  | none => rfl
  | some d => cases d <;> first | rfl | (simp only; split <;> rfl)
def assertL (ti : TI) (t : Nat) (ok : Bool) : LV → Option LV
  | .ifc t' l => match ti.d with
    | .other => none
    | _ => if t' = t then some (if ok then .tup [l, .v (.bool true)] else l)
      else if ok then some (.tup [if ti.d.isAgg then .agg (ti.zero.map .v) else .v (ti.zero.headD undef), .v (.bool false)]) else none
  | _ => none
attribute [simp] assertL
@[simp] theorem next_typeAssert (t0 t : Nat) (ok : Bool) (x : Operand) : nextL τ Γ s ⟨dst, .typeAssert x t0 t ok, ty, pos, aft, gd⟩ = ob (τ t) fun ti => om (assertL ti t ok (s.eval x)) fun l => s.put dst l := by
  simp only [ob_eq, om_eq]
  unfold nextL assertL
  simp only [eff]
  cases τ t with
  | none => cases s.eval x <;> rfl
  | some ti =>
    cases s.eval x <;> try rfl
    rename_i t' l
    obtain ⟨d, sz, by_, z, ft⟩ := ti
    simp only [Option.bind_some]
    cases d <;> first | rfl | (simp only; split <;> first | rfl | (split <;> rfl))
def invL (Γ : Env) (name : String) (args : List LV) : LV → Option LV
  | .ifc t l => ob (Γ.meth t name) fun f => if (l :: args).all LV.plain then Γ.call f (l :: args) else none
  | _ => none
@[simp] theorem invL_ifc (Γ : Env) (name : String) (args : List LV) (t : Nat) (l : LV) : invL Γ name args (.ifc t l) = ob (Γ.meth t name) fun f => if (l :: args).all LV.plain then Γ.call f (l :: args) else none := (rfl)
@[simp] theorem next_invoke (x : Operand) (name : String) (args : Array Operand) (tys : Array Nat) : nextL τ Γ s ⟨dst, .call ⟨.invoke x name, args, tys⟩, ty, pos, aft, gd⟩ = om (invL Γ name (args.toList.map s.eval) (s.eval x)) fun l => s.put dst l := by
  simp only [om_eq]
  unfold nextL invL
  simp only [eff, effCall]
  cases s.eval x <;> try rfl
  rename_i t l
  simp only [ob_eq]
  cases Γ.meth t name with
  | none => rfl
  | some f =>
    simp only [Option.bind_some]
    split
    · simp only [Option.map_map]; rfl
    · rfl
/-- The next state behind a call that is lent boxes. -/
def lendL (Γ : Env) (s : S) (dst : Option Nat) (f : LV) (args : List LV) : Option S := (lendCall Γ s dst f args).map fun u => u.apply dst s

@[simp] theorem next_callV (f : Operand) (args : Array Operand) (tys : Array Nat) : nextL τ Γ s ⟨dst, .call ⟨.value f, args, tys⟩, ty, pos, aft, gd⟩ =
    oc (evalCall Γ (s.eval f) (args.toList.map s.eval)) (fun l => some (s.put dst l)) (lendL Γ s dst (s.eval f) (args.toList.map s.eval)) := by
  unfold nextL
  simp only [eff, effCall]
  cases evalCall Γ (s.eval f) (args.toList.map s.eval) <;> rfl

/-- A call that is lent boxes: as q tells. -/
theorem lendL_of {f : LV} {args ls : List LV} {g : Nat} {q : Lend} (ht : target f args = some (g, ls)) (hq : Γ.lend g ls (look s) = some q) (hl : q.ks.length = q.objs'.length) :
    lendL Γ s dst f args = some ((s.setObjs (q.ks.zip (q.objs'.map fun o => o.map fun c => c.map (LV.un q.ks))) (dst.getD 0) 0).put dst (q.r.un q.ks)) := by
  unfold lendL lendCall
  simp only [ht, hq, hl, Nat.sub_self, newKeys_zero, List.append_nil, ne_eq, not_true_eq_false, and_false, if_false]
  rfl

/-- .. and that leaves new boxes. -/
theorem lendL_new {f : LV} {args ls : List LV} {g d : Nat} {q : Lend} (ht : target f args = some (g, ls)) (hq : Γ.lend g ls (look s) = some q) :
    lendL Γ s (some d) f args = some ((s.setObjs ((q.ks ++ newKeys d (s.g d) (q.objs'.length - q.ks.length)).zip (q.objs'.map fun o => o.map fun c => c.map (LV.un (q.ks ++ newKeys d (s.g d) (q.objs'.length - q.ks.length))))) d (q.objs'.length - q.ks.length)).put (some d) (q.r.un (q.ks ++ newKeys d (s.g d) (q.objs'.length - q.ks.length)))) := by
  unfold lendL lendCall
  simp only [ht, hq]
  rfl
@[simp] theorem next_len (x : Operand) (t : Nat) : nextL τ Γ s ⟨dst, .call ⟨.builtin .len, #[x], #[t]⟩, ty, pos, aft, gd⟩ = om (lenL (desc τ t) (s.eval x)) fun l => s.put dst l := by
  simp only [ob_eq, om_eq]
  unfold nextL lenL
  have hg : (#[t] : Array Nat).getD 0 0 = t := (rfl)
  have hz : ¬ ((#[t] : Array Nat).size = 0) := by simp
  simp only [eff, effCall, hg, if_neg hz]
  generalize s.eval x = l
  generalize desc τ t = d1
  cases d1 with
  | none =>
    cases l <;> try rfl
    rename_i v
    cases v <;> rfl
  | some td =>
    have hs : ∀ l : LV, (∀ d g lo n sz, l ≠ .rs d g lo n sz) → ((l.asList.map fun xs => ({ l := .v (.int .i64 xs.length) } : Upd)).map fun u => u.apply dst s) = (oc l.asList (fun xs => some (LV.v (.int .i64 xs.length))) (rowLen l)).map fun l => s.put dst l := fun l hn => by
      cases l <;> try rfl
      · rename_i x
        generalize LV.asList _ = ax
        cases ax <;> rfl
      · exact absurd rfl (hn _ _ _ _ _)
    cases td <;> cases l <;> first | rfl | exact hs _ (by intros; simp) | (rename_i v; cases v <;> first | rfl | exact hs _ (by intros; simp))
@[simp] theorem next_min (args : Array Operand) (tys : Array Nat) : nextL τ Γ s ⟨dst, .call ⟨.builtin .min, args, tys⟩, ty, pos, aft, gd⟩ = om (minLs false (args.toList.map s.eval)) fun l => s.put dst l := by
  simp only [ob_eq, om_eq]
  unfold nextL minLs
  simp only [eff, effCall]
  generalize args.toList.map s.eval = ls
  rcases ls with _ | ⟨l, r⟩
  · rfl
  · cases l <;> try rfl
    rename_i v
    cases v <;> try rfl
    simp only [Option.map_map]
    rfl
@[simp] theorem next_max (args : Array Operand) (tys : Array Nat) : nextL τ Γ s ⟨dst, .call ⟨.builtin .max, args, tys⟩, ty, pos, aft, gd⟩ = om (minLs true (args.toList.map s.eval)) fun l => s.put dst l := by
  simp only [ob_eq, om_eq]
  unfold nextL minLs
  simp only [eff, effCall]
  generalize args.toList.map s.eval = ls
  rcases ls with _ | ⟨l, r⟩
  · rfl
  · cases l <;> try rfl
    rename_i v
    cases v <;> try rfl
    simp only [Option.map_map]
    rfl
@[simp] theorem next_append (d : Nat) (x y : Operand) (t : Nat) : nextL τ Γ s ⟨some d, .call ⟨.builtin .append, #[x, y], #[t, t]⟩, ty, pos, aft, gd⟩ = ob (elemOf τ t) fun p => om (appendL Γ p.2 s d (s.eval x) (s.eval y) (s.tag x)) fun q => q.1.put (some d) q.2.1 q.2.2 := by
  simp only [ob_eq, om_eq]
  unfold nextL appendL
  simp only [eff, effCall, if_true]
  generalize s.eval y = ly
  cases hel : elemOf τ t with
  | none => simp only [Option.isSome_none, Bool.false_eq_true, false_and, if_false]; cases s.eval x <;> rfl
  | some p =>
    obtain ⟨e, ti⟩ := p
    simp only [Option.bind_some, Option.isSome_some, true_and]
    split
    · rfl
    cases hx : s.eval x
    case rs d0 g0 lo n sz =>
      simp only [asList_rs, rowAppend]
      cases ly.asList with
      | none => rfl
      | some ys =>
        cases s.b d0 g0 with
        | none => rfl
        | some cells => simp only; split <;> rfl
    all_goals
      simp only [rowAppend]
      generalize LV.asList _ = ax
      generalize LV.isV _ = bx
      cases ax with
      | none => rfl
      | some xs =>
        cases ly.asList with
        | none => rfl
        | some ys =>
          simp only
          split
          · split
            · split <;> rfl
            · split
              · rfl
              · rfl
          · rfl
theorem next_slice_str {t : Nat} {x : Operand} {lo hi : Option Operand} {b : ByteArray} {k k' : IntKind} {l h : Int} (h1 : desc τ t = some .str) (h2 : s.eval x = .v (.string b)) (hl : (lo.map s.eval).getD (.v (.int .i64 0)) = .v (.int k l))
    (hh : (hi.map s.eval).getD (.v (.int .i64 b.size)) = .v (.int k' h)) : nextL τ Γ s ⟨dst, .slice t x lo hi none, ty, pos, aft, gd⟩ =
    if 0 ≤ l ∧ l ≤ h ∧ h ≤ b.size then some (s.put dst (.v (.string (b.extract l.toNat h.toNat)))) else none := by
  unfold nextL
  simp only [eff, Option.map_none, h1, h2, hl, hh]
  split <;> rfl
theorem next_slice_list {t e : Nat} {ti : TI} {xs : List (List LV)} {x : Operand} {lo hi : Option Operand} {k k' : IntKind} {l h : Int} (h1 : elemOf τ t = some (e, ti)) (h2 : s.eval x = .list xs) (hl : (lo.map s.eval).getD (.v (.int .i64 0)) = .v (.int k l))
    (hh : (hi.map s.eval).getD (.v (.int .i64 xs.length)) = .v (.int k' h)) (hd : desc τ t = some (.slice e)) : nextL τ Γ s ⟨dst, .slice t x lo hi none, ty, pos, aft, gd⟩ =
    if 0 ≤ l ∧ l ≤ h ∧ h ≤ xs.length ∧ (xs.all fun e => e.length == ti.size) then some (s.put dst (.list ((xs.take h.toNat).drop l.toNat))) else none := by
  unfold nextL
  simp only [eff, Option.map_none, h1, h2, hl, hh, hd, asList_list]
  split <;> rfl
theorem next_slice_row {t e d g lo0 n sz : Nat} {ti : TI} {x : Operand} {lo hi : Option Operand} {k k' : IntKind} {l h : Int} (h1 : elemOf τ t = some (e, ti)) (h2 : s.eval x = .rs d g lo0 n sz) (hl : (lo.map s.eval).getD (.v (.int .i64 0)) = .v (.int k l))
    (hh : (hi.map s.eval).getD (.v (.int .i64 n)) = .v (.int k' h)) (hd : desc τ t = some (.slice e)) : nextL τ Γ s ⟨dst, .slice t x lo hi none, ty, pos, aft, gd⟩ =
    if 0 ≤ l ∧ l ≤ h ∧ h ≤ n ∧ ti.size = sz then some (s.put dst (.rs d g (lo0 + l.toNat) (h - l).toNat sz)) else none := by
  unfold nextL
  simp only [eff, Option.map_none, h1, h2, hl, hh, hd]
  split <;> rfl
@[simp] theorem next_makeSlice (d t : Nat) (x y : Operand) : nextL τ Γ s ⟨some d, .makeSlice t x y, ty, pos, aft, gd⟩ = ob (elemOf τ t) fun p => makeL p.2 s d (s.eval x) (s.eval y) := by
  simp only [ob_eq]
  unfold nextL makeL
  simp only [eff]
  cases elemOf τ t with
  | none => rfl
  | some p =>
    obtain ⟨e, ti⟩ := p
    simp only [Option.bind_some]
    cases s.eval x <;> try rfl
    rename_i v
    cases v <;> try rfl
    cases s.eval y <;> try rfl
    rename_i v
    cases v <;> try rfl
    simp only
    split <;> rfl
@[simp] theorem next_makeFunc (f : Nat) (first caps : Array Operand) : nextL τ Γ s ⟨dst, .makeFunc (.func f) first caps, ty, pos, aft, gd⟩ =
    if first.toList = [] ∧ caps.toList = [] then some (s.put dst (.v (.func (.func f) #[] #[]))) else if (first.toList.map s.eval).all LV.plain ∧ (caps.toList.map s.eval).all LV.plain then some (s.put dst (.fn f (first.toList.map s.eval) (caps.toList.map s.eval)))
    else if first.toList = [] ∧ (caps.toList.map s.eval).all (fun l => l.plain || l.isPtr) then some (s.put dst (.clo f (caps.toList.map s.eval))) else none := by
  unfold nextL
  simp only [eff]
  split
  · rfl
  · split
    · rfl
    · split <;> rfl

/-- The steps, with what the guards say. -/
def guardL (ops : Array Oper) (s : S) (o : Oper) (x : Option S) : Option S :=
  match wantedL ops s o with
  | some true => x
  | some false => some (s.put o.dst (.tup []))
  | none => none

@[simp] theorem steps_nil (ops : Array Oper) : steps τ Γ ops [] s = some s := (rfl)
theorem step_next (ops : Array Oper) (o : Oper) : step τ Γ ops o s = guardL ops s o (nextL τ Γ s o) := (rfl)
@[simp] theorem steps_free (ops : Array Oper) (op : Op) (r : List Oper) : steps τ Γ ops (⟨dst, op, ty, pos, aft, none⟩ :: r) s = ob (nextL τ Γ s ⟨dst, op, ty, pos, aft, none⟩) (steps τ Γ ops r) := by
  simp only [ob_eq, om_eq]
  rfl
/-- What a guard has yielded. -/
def gOf (l : LV) (want : Bool) : Option Bool :=
  match l with
  | .v (.bool x) => some (x == want)
  | .tup _ => some false
  | _ => none
@[simp] theorem gOf_b (x want : Bool) : gOf (.v (.bool x)) want = some (x == want) := (rfl)
@[simp] theorem gOf_t (vs : List LV) (want : Bool) : gOf (.tup vs) want = some false := (rfl)
/-- The guard, read off the operations' destinations. -/
def gAt (ops : Array Oper) (s : S) (j : Nat) (want : Bool) : Option Bool := ob (ob (ops[j]?) (·.dst)) fun d => gOf (s.t d) want
theorem wanted_gAt (ops : Array Oper) (o : Oper) (j : Nat) (want : Bool) (h : o.guard = some (j, want)) : wantedL ops s o = gAt ops s j want := by
  unfold gAt wantedL
  rw [h]
  simp only [ob_eq]
  cases (ops[j]?).bind (·.dst) with
  | none => rfl
  | some d =>
    simp only [Option.bind_some, gOf]
    cases s.t d with
    | v x => cases x <;> rfl
    | _ => rfl
theorem steps_yes (ops : Array Oper) (op : Op) (j : Nat) (want : Bool) (r : List Oper) (h : gAt ops s j want = some true) : steps τ Γ ops (⟨dst, op, ty, pos, aft, some (j, want)⟩ :: r) s =
    ob (nextL τ Γ s ⟨dst, op, ty, pos, aft, some (j, want)⟩) (steps τ Γ ops r) := by
  simp only [ob_eq, om_eq]
  simp only [steps, step_next, guardL, wanted_gAt s ops ⟨dst, op, ty, pos, aft, some (j, want)⟩ j want rfl, h]
theorem steps_no (ops : Array Oper) (op : Op) (j : Nat) (want : Bool) (r : List Oper) (h : gAt ops s j want = some false) : steps τ Γ ops (⟨dst, op, ty, pos, aft, some (j, want)⟩ :: r) s = steps τ Γ ops r (s.put dst (.tup [])) := by
  simp only [steps, step_next, guardL, wanted_gAt s ops ⟨dst, op, ty, pos, aft, some (j, want)⟩ j want rfl, h, Option.bind_some]

/-! Drawn regions, the same. -/
@[simp] theorem stepsD_nil (ops : Array Oper) : stepsD τ Γ ops [] s = some s := (rfl)
/-- The next state, where what is found is no pointer. -/
def nextD (o : Oper) : Option S := (eff τ Γ.own s o).bind fun u => if finds s o.op && u.l.hot then none else some (u.apply o.dst s)
theorem nextD_free {o : Oper} (h : finds s o.op = false) : nextD τ Γ s o = nextL τ Γ.own s o := by
  unfold nextD nextL
  simp only [h, Bool.false_and, Bool.false_eq_true, if_false]
  cases eff τ Γ.own s o <;> rfl
theorem nextD_finds {o : Oper} {d : Nat} (hd : o.dst = some d) (h : finds s o.op = true) : nextD τ Γ s o = (nextL τ Γ.own s o).bind fun s' => if (s'.t d).hot then none else some s' := by
  unfold nextD nextL
  simp only [h, Bool.true_and]
  cases he : eff τ Γ.own s o with
  | none => rfl
  | some u =>
    have : (u.apply o.dst s).t d = u.l := by unfold Upd.apply; rw [hd, S.put_some]; simp [upd]
    simp only [Option.bind_some, Option.map_some, this]
@[simp] theorem stepsD_free (ops : Array Oper) (op : Op) (r : List Oper) : stepsD τ Γ ops (⟨dst, op, ty, pos, aft, none⟩ :: r) s = ob (nextD τ Γ s ⟨dst, op, ty, pos, aft, none⟩) (stepsD τ Γ ops r) := by
  simp only [ob_eq, om_eq]
  rfl
theorem stepsD_yes (ops : Array Oper) (op : Op) (j : Nat) (want : Bool) (r : List Oper) (h : gAt ops s j want = some true) : stepsD τ Γ ops (⟨dst, op, ty, pos, aft, some (j, want)⟩ :: r) s =
    ob (nextD τ Γ s ⟨dst, op, ty, pos, aft, some (j, want)⟩) (stepsD τ Γ ops r) := by
  simp only [ob_eq, om_eq]
  simp only [stepsD, stepD, wanted_gAt s ops ⟨dst, op, ty, pos, aft, some (j, want)⟩ j want rfl, h, nextD]
theorem stepsD_no (ops : Array Oper) (op : Op) (j : Nat) (want : Bool) (r : List Oper) (h : gAt ops s j want = some false) : stepsD τ Γ ops (⟨dst, op, ty, pos, aft, some (j, want)⟩ :: r) s = stepsD τ Γ ops r (s.put dst (.tup [])) := by
  simp only [stepsD, stepD, wanted_gAt s ops ⟨dst, op, ty, pos, aft, some (j, want)⟩ j want rfl, h, Option.bind_some]
variable (d : Nat)
@[simp] theorem nextD_move (x : Operand) : nextD τ Γ s ⟨dst, .move x, ty, pos, aft, gd⟩ = nextL τ Γ.own s ⟨dst, .move x, ty, pos, aft, gd⟩ := nextD_free τ Γ s rfl
@[simp] theorem nextD_assign (x : Operand) : nextD τ Γ s ⟨dst, .assign x, ty, pos, aft, gd⟩ = nextL τ Γ.own s ⟨dst, .assign x, ty, pos, aft, gd⟩ := nextD_free τ Γ s rfl
@[simp] theorem nextD_pick (x y z : Operand) : nextD τ Γ s ⟨dst, .pick x y z, ty, pos, aft, gd⟩ = nextL τ Γ.own s ⟨dst, .pick x y z, ty, pos, aft, gd⟩ := nextD_free τ Γ s rfl
@[simp] theorem nextD_alloc (x : Nat) : nextD τ Γ s ⟨dst, .alloc x, ty, pos, aft, gd⟩ = nextL τ Γ.own s ⟨dst, .alloc x, ty, pos, aft, gd⟩ := nextD_free τ Γ s rfl
@[simp] theorem nextD_box (x : Nat) (y : Operand) : nextD τ Γ s ⟨dst, .box x y, ty, pos, aft, gd⟩ = nextL τ Γ.own s ⟨dst, .box x y, ty, pos, aft, gd⟩ := nextD_free τ Γ s rfl
@[simp] theorem nextD_store (x : Nat) (y z : Operand) : nextD τ Γ s ⟨dst, .store x y z, ty, pos, aft, gd⟩ = nextL τ Γ.own s ⟨dst, .store x y z, ty, pos, aft, gd⟩ := nextD_free τ Γ s rfl
@[simp] theorem nextD_nilCheck (x : Operand) : nextD τ Γ s ⟨dst, .nilCheck x, ty, pos, aft, gd⟩ = nextL τ Γ.own s ⟨dst, .nilCheck x, ty, pos, aft, gd⟩ := nextD_free τ Γ s rfl
@[simp] theorem nextD_binOp (op : BinOp) (t t' : Nat) (x y : Operand) : nextD τ Γ s ⟨dst, .binOp op t x y t', ty, pos, aft, gd⟩ = nextL τ Γ.own s ⟨dst, .binOp op t x y t', ty, pos, aft, gd⟩ := nextD_free τ Γ s rfl
@[simp] theorem nextD_unOp (op : UnOp) (t : Nat) (x : Operand) : nextD τ Γ s ⟨dst, .unOp op t x, ty, pos, aft, gd⟩ = nextL τ Γ.own s ⟨dst, .unOp op t x, ty, pos, aft, gd⟩ := nextD_free τ Γ s rfl
@[simp] theorem nextD_convert (t t' : Nat) (x : Operand) : nextD τ Γ s ⟨dst, .convert t t' x, ty, pos, aft, gd⟩ = nextL τ Γ.own s ⟨dst, .convert t t' x, ty, pos, aft, gd⟩ := nextD_free τ Γ s rfl
@[simp] theorem nextD_fieldAddr (t f : Nat) (x : Operand) : nextD τ Γ s ⟨dst, .fieldAddr t x f, ty, pos, aft, gd⟩ = nextL τ Γ.own s ⟨dst, .fieldAddr t x f, ty, pos, aft, gd⟩ := nextD_free τ Γ s rfl
@[simp] theorem nextD_indexAddr (t : Nat) (x y : Operand) : nextD τ Γ s ⟨dst, .indexAddr t x y, ty, pos, aft, gd⟩ = nextL τ Γ.own s ⟨dst, .indexAddr t x y, ty, pos, aft, gd⟩ := nextD_free τ Γ s rfl
@[simp] theorem nextD_build (t : Nat) (x : Array (Nat × Operand)) : nextD τ Γ s ⟨dst, .build t x, ty, pos, aft, gd⟩ = nextL τ Γ.own s ⟨dst, .build t x, ty, pos, aft, gd⟩ := nextD_free τ Γ s rfl
@[simp] theorem nextD_buildSlice (t n : Nat) (x : Array (Nat × Operand)) : nextD τ Γ s ⟨dst, .buildSlice t n x, ty, pos, aft, gd⟩ = nextL τ Γ.own s ⟨dst, .buildSlice t n x, ty, pos, aft, gd⟩ := nextD_free τ Γ s rfl
@[simp] theorem nextD_slice (t : Nat) (x : Operand) (lo hi mx : Option Operand) : nextD τ Γ s ⟨dst, .slice t x lo hi mx, ty, pos, aft, gd⟩ = nextL τ Γ.own s ⟨dst, .slice t x lo hi mx, ty, pos, aft, gd⟩ := nextD_free τ Γ s rfl
@[simp] theorem nextD_makeSlice (t : Nat) (x y : Operand) : nextD τ Γ s ⟨dst, .makeSlice t x y, ty, pos, aft, gd⟩ = nextL τ Γ.own s ⟨dst, .makeSlice t x y, ty, pos, aft, gd⟩ := nextD_free τ Γ s rfl
@[simp] theorem nextD_makeFunc (fn : Fn) (x y : Array Operand) : nextD τ Γ s ⟨dst, .makeFunc fn x y, ty, pos, aft, gd⟩ = nextL τ Γ.own s ⟨dst, .makeFunc fn x y, ty, pos, aft, gd⟩ := nextD_free τ Γ s rfl
@[simp] theorem nextD_load (t : Nat) (x : Operand) : nextD τ Γ s ⟨some d, .load t x, ty, pos, aft, gd⟩ = ob (nextL τ Γ.own s ⟨some d, .load t x, ty, pos, aft, gd⟩) fun s' => if (s.eval x).isPtr = false ∧ (s'.t d).hot = true then none else some s' := by
  simp only [ob_eq, om_eq]
  cases hp : (s.eval x).isPtr with
  | true =>
    rw [nextD_free τ Γ s (by simp [finds, hp])]
    cases nextL τ Γ.own s ⟨some d, .load t x, ty, pos, aft, gd⟩ <;> simp
  | false =>
    rw [nextD_finds τ Γ s rfl (by simp [finds, hp])]
    simp
@[simp] theorem nextD_field (t f : Nat) (x : Operand) : nextD τ Γ s ⟨some d, .field t x f, ty, pos, aft, gd⟩ = ob (nextL τ Γ.own s ⟨some d, .field t x f, ty, pos, aft, gd⟩) fun s' => if (s'.t d).hot then none else some s' := by
  simp only [ob_eq, om_eq]
  exact nextD_finds τ Γ s rfl rfl
@[simp] theorem nextD_index (t : Nat) (x y : Operand) : nextD τ Γ s ⟨some d, .index t x y, ty, pos, aft, gd⟩ = ob (nextL τ Γ.own s ⟨some d, .index t x y, ty, pos, aft, gd⟩) fun s' => if (s'.t d).hot then none else some s' := by
  simp only [ob_eq, om_eq]
  exact nextD_finds τ Γ s rfl rfl
@[simp] theorem nextD_extract (k : Nat) (x : Operand) : nextD τ Γ s ⟨some d, .extract x k, ty, pos, aft, gd⟩ = ob (nextL τ Γ.own s ⟨some d, .extract x k, ty, pos, aft, gd⟩) fun s' => if (s'.t d).hot then none else some s' := by
  simp only [ob_eq, om_eq]
  exact nextD_finds τ Γ s rfl rfl
@[simp] theorem nextD_call (c : Call) : nextD τ Γ s ⟨some d, .call c, ty, pos, aft, gd⟩ = ob (nextL τ Γ.own s ⟨some d, .call c, ty, pos, aft, gd⟩) fun s' => if (s'.t d).hot then none else some s' := by
  simp only [ob_eq, om_eq]
  exact nextD_finds τ Γ s rfl rfl
end
attribute [simp] gAt steps_yes steps_no stepsD_yes stepsD_no

/-! Calls of which something is known. -/
open Classical in
noncomputable def ofFacts : List (Nat × List LV × LV) → Nat → List LV → Option LV
  | [], _, _ => none
  | (f, a, r) :: l, g, b => if f = g ∧ a = b then some r else ofFacts l g b

@[simp] theorem ofFacts_nil (g : Nat) (b : List LV) : ofFacts [] g b = none := (rfl)
@[simp] theorem ofFacts_same (f : Nat) (a : List LV) (r : LV) (l : List (Nat × List LV × LV)) : ofFacts ((f, a, r) :: l) f a = some r := by simp [ofFacts]
theorem ofFacts_ne {f g : Nat} (a b : List LV) (r : LV) (l : List (Nat × List LV × LV)) (h : f ≠ g) : ofFacts ((f, a, r) :: l) g b = ofFacts l g b := by simp [ofFacts, h]

def Facts (P : Program) (l : List (Nat × List LV × LV)) : Prop := ∀ p ∈ l, CallSpec P p.1 p.2.1 p.2.2

theorem Facts.nil (P : Program) : Facts P [] := by simp [Facts]
theorem Facts.cons {P : Program} {f : Nat} {a : List LV} {r : LV} {l : List (Nat × List LV × LV)} (h : CallSpec P f a r) (hl : Facts P l) : Facts P ((f, a, r) :: l) := by
  intro p hp
  rcases List.mem_cons.1 hp with rfl | hp
  · exact h
  · exact hl p hp

theorem ofFacts_spec {P : Program} : ∀ {l : List (Nat × List LV × LV)}, Facts P l → ∀ f args r, ofFacts l f args = some r → CallSpec P f args r
  | [], _ => by intro f a r h; cases h
  | (f, a, r) :: l, h => by
    intro g b r' hr
    unfold ofFacts at hr
    split at hr
    · rename_i hc
      obtain ⟨rfl, rfl⟩ := hc
      cases hr
      exact h (f, a, r) (by simp)
    · exact ofFacts_spec (l := l) (fun p hp => h p (by simp [hp])) g b r' hr

/-! .. and of calls that are lent boxes. -/
open Classical in
noncomputable def ofLends : List (Nat × List LV × Lend) → Nat → List LV → (Nat → Nat → Option (List LV)) → Option Lend
  | [], _, _, _ => none
  | (f, a, q) :: l, g, b, lk => if f = g ∧ a = b ∧ (q.ks.map fun k => lk k.1 k.2) = (q.objs.map fun o => some (o.map (LV.un q.ks))) then some q else ofLends l g b lk

theorem ofLends_same {f : Nat} {a : List LV} {q : Lend} {l : List (Nat × List LV × Lend)} {lk : Nat → Nat → Option (List LV)} (h : (q.ks.map fun k => lk k.1 k.2) = (q.objs.map fun o => some (o.map (LV.un q.ks)))) : ofLends ((f, a, q) :: l) f a lk = some q := by simp [ofLends, h]
theorem ofLends_ne {f g : Nat} {a b : List LV} {q : Lend} {l : List (Nat × List LV × Lend)} {lk : Nat → Nat → Option (List LV)} (h : f ≠ g) : ofLends ((f, a, q) :: l) g b lk = ofLends l g b lk := by simp [ofLends, h]

/-- A fact on a call that is lent the boxes ks. -/
def LendFact (P : Program) (f : Nat) (args : List LV) (q : Lend) : Prop := q.ks.length = q.objs.length ∧ q.ks.Nodup ∧ ∃ args', args = args'.map (LV.un q.ks) ∧ LendSpec P f args' q.objs q.r q.objs'

def LFacts (P : Program) (m : List (Nat × List LV × Lend)) : Prop := ∀ p ∈ m, LendFact P p.1 p.2.1 p.2.2

theorem LFacts.nil (P : Program) : LFacts P [] := by simp [LFacts]
theorem LFacts.cons {P : Program} {f : Nat} {args : List LV} {q : Lend} {m : List (Nat × List LV × Lend)} (h : LendFact P f args q) (hm : LFacts P m) : LFacts P ((f, args, q) :: m) := by
  intro p hp
  rcases List.mem_cons.1 hp with rfl | hp
  · exact h
  · exact hm p hp

/-- Methods of which something is known. -/
def ofMeths : List (Nat × String × Nat) → Nat → String → Option Nat
  | [], _, _ => none
  | (t, n, f) :: r, t', n' => if t = t' ∧ n = n' then some f else ofMeths r t' n'
@[simp] theorem ofMeths_nil (t : Nat) (n : String) : ofMeths [] t n = none := (rfl)
@[simp] theorem ofMeths_cons (t f t' : Nat) (n n' : String) (r : List (Nat × String × Nat)) : ofMeths ((t, n, f) :: r) t' n' = if t = t' ∧ n = n' then some f else ofMeths r t' n' := (rfl)
def MFacts (P : Program) (k : List (Nat × String × Nat)) : Prop := ∀ p ∈ k, MethOk P p.1 p.2.1 p.2.2
theorem ofMeths_spec {P : Program} : ∀ {k : List (Nat × String × Nat)}, MFacts P k → ∀ t n f, ofMeths k t n = some f → MethOk P t n f
  | [], _ => by intro t n f h; cases h
  | (t, n, f) :: r, h => by
    intro t' n' f' hf
    rw [ofMeths_cons] at hf
    split at hf
    · rename_i hc
      obtain ⟨rfl, rfl⟩ := hc
      cases hf
      exact h (t, n, f) (by simp)
    · exact ofMeths_spec (k := r) (fun p hp => h p (by simp [hp])) t' n' f' hf

noncomputable def envOf (l : List (Nat × List LV × LV)) (m : List (Nat × List LV × Lend) := []) (rm : Nat → Bool := fun _ => false) (k : List (Nat × String × Nat) := []) : Env := { call := ofFacts l, lend := ofLends m, rm := rm, meth := ofMeths k }
@[simp] theorem envOf_call (l : List (Nat × List LV × LV)) (m : List (Nat × List LV × Lend)) (rm : Nat → Bool) (k : List (Nat × String × Nat)) : (envOf l m rm k).call = ofFacts l := (rfl)
@[simp] theorem envOf_lend (l : List (Nat × List LV × LV)) (m : List (Nat × List LV × Lend)) (rm : Nat → Bool) (k : List (Nat × String × Nat)) : (envOf l m rm k).lend = ofLends m := (rfl)
@[simp] theorem envOf_meth (l : List (Nat × List LV × LV)) (m : List (Nat × List LV × Lend)) (rm : Nat → Bool) (k : List (Nat × String × Nat)) : (envOf l m rm k).meth = ofMeths k := (rfl)
@[simp] theorem envOwn_meth (l : List (Nat × List LV × LV)) (m : List (Nat × List LV × Lend)) (rm : Nat → Bool) (k : List (Nat × String × Nat)) : (envOf l m rm k).own.meth = ofMeths k := (rfl)
@[simp] theorem envOf_eqs (l : List (Nat × List LV × LV)) (m : List (Nat × List LV × Lend)) (rm : Nat → Bool) (k : List (Nat × String × Nat)) : (envOf l m rm k).eqs = fun _ => none := (rfl)
@[simp] theorem envOwn_eqs (Γ : Env) : Γ.own.eqs = Γ.eqs := (rfl)
@[simp] theorem envOf_rm (l : List (Nat × List LV × LV)) (m : List (Nat × List LV × Lend)) (rm : Nat → Bool) (k : List (Nat × String × Nat)) : (envOf l m rm k).rm = rm := (rfl)
@[simp] theorem envOwn_rm (Γ : Env) : Γ.own.rm = fun _ => false := (rfl)
@[simp] theorem envOf_rows (l : List (Nat × List LV × LV)) (m : List (Nat × List LV × Lend)) (rm : Nat → Bool) (k : List (Nat × String × Nat)) : (envOf l m rm k).rows = true := (rfl)
@[simp] theorem envOwn_call (l : List (Nat × List LV × LV)) (m : List (Nat × List LV × Lend)) (rm : Nat → Bool) (k : List (Nat × String × Nat)) : (envOf l m rm k).own.call = ofFacts l := (rfl)
@[simp] theorem envOwn_rows (Γ : Env) : Γ.own.rows = false := (rfl)

theorem ofLends_spec {P : Program} : ∀ {m : List (Nat × List LV × Lend)}, LFacts P m → ∀ f args lk q, ofLends m f args lk = some q → LendFact P f args q ∧ (q.ks.map fun k => lk k.1 k.2) = (q.objs.map fun o => some (o.map (LV.un q.ks)))
  | [], _ => by intro f a lk q h; cases h
  | (f, a, q0) :: m, h => by
    intro g b lk q hq
    unfold ofLends at hq
    split at hq
    · rename_i hc
      obtain ⟨rfl, rfl, hc⟩ := hc
      cases hq
      exact ⟨h (f, a, q0) (by simp), hc⟩
    · exact ofLends_spec (m := m) (fun p hp => h p (by simp [hp])) g b lk q hq

theorem envOf_ok {P : Program} {l : List (Nat × List LV × LV)} {m : List (Nat × List LV × Lend)} (hl : Facts P l) (hm : LFacts P m) {rm : Nat → Bool} {k : List (Nat × String × Nat)} (hk : MFacts P k := by intro p hp; cases hp) : EnvOk P (envOf l m rm k) := by
  refine ⟨fun f args r h => ofFacts_spec hl f args r h, ⟨fun t n f h => ofMeths_spec hk t n f h, fun t n h => by cases h⟩, fun f args lk q h => ?_⟩
  obtain ⟨⟨h1, h2, h3⟩, h4⟩ := ofLends_spec hm f args lk q h
  refine ⟨h1, h2, fun i k o hk ho => ?_, h3⟩
  have := congrArg (fun l => l[i]?) h4
  simpa [hk, ho] using this

theorem ofFacts_ok {P : Program} {l : List (Nat × List LV × LV)} (h : Facts P l) : EnvOk P (envOf l) := envOf_ok h (LFacts.nil P)

/-- A slice that may grow: nil, or the newest of its row (whose token is one of these). -/
def Grows (s : S) (t : Nat) (T : List Nat) (ys : List (List LV)) : Prop :=
  (ys = [] ∧ s.t t = nilV) ∨ (ys ≠ [] ∧ s.t t = .list ys ∧ (s.o t).1 ∈ T ∧ (s.o t).1 ≠ 0 ∧ (s.o t).2 = s.tv (s.o t).1)

def seqV (ys : List (List LV)) : LV := if ys = [] then nilV else .list ys

theorem seqV_asList (ys : List (List LV)) : (seqV ys).asList = some ys := by
  unfold seqV
  split
  · rename_i h; rw [h]; rfl
  · rfl

theorem Grows.val {s : S} {t : Nat} {T : List Nat} {ys : List (List LV)} (h : Grows s t T ys) : s.t t = seqV ys := by
  rcases h with ⟨rfl, h⟩ | ⟨h1, h, _⟩
  · simp [seqV, h]
  · simp [seqV, h, h1]

theorem Grows.nil {s : S} {t : Nat} {T : List Nat} {ys : List (List LV)} (h : ys = []) (h1 : s.t t = .v (.slice none 0 0)) : Grows s t T ys := .inl ⟨h, h1⟩

theorem Grows.keep {s s' : S} {t : Nat} {T : List Nat} {ys : List (List LV)} (h : Grows s t T ys) (h1 : s'.t t = s.t t) (h2 : s'.o t = s.o t) (h3 : ∀ k ∈ T, s'.tv k = s.tv k) : Grows s' t T ys := by
  rcases h with ⟨h4, h5⟩ | ⟨h4, h5, h6, h7, h8⟩
  · exact .inl ⟨h4, by rw [h1]; exact h5⟩
  · exact .inr ⟨h4, by rw [h1]; exact h5, by rw [h2]; exact h6, by rw [h2]; exact h7, by rw [h2, h3 _ h6]; exact h8⟩

theorem Grows.new {s : S} {t tk v : Nat} {T : List Nat} {ys : List (List LV)} (h0 : ys ≠ []) (h1 : s.t t = .list ys) (h2 : s.o t = (tk, v)) (h3 : tk ∈ T) (h4 : tk ≠ 0) (h5 : s.tv tk = v) : Grows s t T ys :=
  .inr ⟨h0, h1, by rw [h2]; exact h3, by rw [h2]; exact h4, by rw [h2]; exact h5.symm⟩

theorem appendL_grows {s : S} {t : Nat} {T : List Nat} {ys : List (List LV)} (h : Grows s t T ys) (d : Nat) (zs : List (List LV)) (ti : TI) (hne : zs ≠ []) (h1 : ∀ e ∈ ys, e.length = ti.size) (h2 : ∀ e ∈ zs, e.length = ti.size)
    (hs : 0 < ti.size) (hz : ti.zero.length = ti.size) (hb : (ys.length + zs.length) * ti.bytes ≤ 140737488355328) (hb0 : ys.length + zs.length ≤ 9223372036854775807) (hT : d + 1 ∈ T) :
    ∃ tk v, (∀ (S' : S) (y : LV), S'.tv = s.tv → y.asList = some zs → ∀ {l : List (Nat × List LV × LV)} {m : List (Nat × List LV × Lend)}, appendL (envOf l m) ti S' d (s.t t) y (s.o t) = some (S'.setTok tk v, .list (ys ++ zs), (tk, v))) ∧ tk ≠ 0 ∧ tk ∈ T := by
  have a2 : (zs.all fun e => e.length == ti.size) = true := by rw [List.all_eq_true]; intro e he; simpa using h2 e he
  have a1 : (ys.all fun e => e.length == ti.size) = true := by rw [List.all_eq_true]; intro e he; simpa using h1 e he
  rcases h with ⟨rfl, h⟩ | ⟨hny, h, hmT, ht, hv⟩
  · refine ⟨d + 1, s.tv (d + 1) + 1, fun S' y htv hy l m => ?_, Nat.succ_ne_zero d, hT⟩
    rw [h]
    unfold appendL
    simp only [List.length_nil, Nat.zero_add] at hb hb0
    simp only [nilV, asList_nil, hy, isEmptyL_ne hne, Bool.false_eq_true, false_and, if_false, a1, a2, hs, hz, hb, hb0, hne, ne_eq, not_false_eq_true, and_self, if_true, isV_v, List.length_nil, Nat.zero_add, List.nil_append, htv, envOf_rm, Bool.false_eq_true, if_false]
  · refine ⟨(s.o t).1, (s.o t).2 + 1, fun S' y htv hy l m => ?_, ht, hmT⟩
    rw [h]
    unfold appendL
    simp only [asList_list, hy, isEmptyL_ne hne, false_and, a1, a2, hs, hz, hb, hb0, hne, ne_eq, not_false_eq_true, and_self, if_true, isV_list, Bool.false_eq_true, if_false, ht, hv, htv]

theorem growsRet {s : S} {t : Nat} {ys : List (List LV)} (h : s.t t = seqV ys) : (s.t t).plain = true := by
  rw [h]; unfold seqV; split <;> rfl
theorem wrap64 {n : Int} (h0 : -9223372036854775808 ≤ n) (h1 : n ≤ 9223372036854775807) : IntKind.i64.wrap n = n := by
  rw [IntKind.wrap_i64]; omega

theorem wrap_succ {j : Nat} (h : j < 9223372036854775807) : IntKind.i64.wrap ((j : Int) + 1) = ((j + 1 : Nat) : Int) := by
  rw [wrap64 (by omega) (by omega)]; omega

section
variable {P : Program} {τ : Tab} {n : Nat} {R : Exit → S → Prop} {s s' : S} {l : List (Nat × List LV × LV)} {id : Nat} {ops : Array Oper}
/-- A region at the end. -/
theorem LW.r (hτ : TabOk P τ) (hf : Facts P l) (hn : dstsOk n ops = true) (hr : steps τ (envOf l) ops ops.toList s = some s') (h : R .normal s') : LW P n (.region id ops false) R s :=
  LW.region hτ (ofFacts_ok hf) hn hr h
theorem LW.d (hm : P.follows .mixedOrders = true) (hτ : TabOk P τ) (hf : Facts P l) (hn : dstsOk n ops = true) (hok : drawOk ops = true) (hr : stepsD τ (envOf l) ops ops.toList s = some s') (h : R .normal s') : LW P n (.region id ops true) R s :=
  LW.draw hm hτ (ofFacts_ok hf) hn hok hr h
/-- A region, and what comes behind it. -/
theorem LW.sr {y : Code} (hτ : TabOk P τ) (hf : Facts P l) (hn : dstsOk n ops = true) (hr : steps τ (envOf l) ops ops.toList s = some s') (h : LW P n y R s') : LW P n (.seq (.region id ops false) y) R s :=
  LW.seq (LW.region hτ (ofFacts_ok hf) hn hr h)
theorem LW.sd {y : Code} (hm : P.follows .mixedOrders = true) (hτ : TabOk P τ) (hf : Facts P l) (hn : dstsOk n ops = true) (hok : drawOk ops = true) (hr : stepsD τ (envOf l) ops ops.toList s = some s') (h : LW P n y R s') : LW P n (.seq (.region id ops true) y) R s :=
  LW.seq (LW.draw hm hτ (ofFacts_ok hf) hn hok hr h)
theorem LW.rl (rm : Nat → Bool) {m : List (Nat × List LV × Lend)} (hτ : TabOk P τ) (hf : Facts P l) (hm : LFacts P m) (hn : dstsOk n ops = true) (hr : steps τ (envOf l m rm) ops ops.toList s = some s') (h : R .normal s') : LW P n (.region id ops false) R s :=
  LW.region hτ (envOf_ok hf hm) hn hr h
theorem LW.srl (rm : Nat → Bool) {y : Code} {m : List (Nat × List LV × Lend)} (hτ : TabOk P τ) (hf : Facts P l) (hm : LFacts P m) (hn : dstsOk n ops = true) (hr : steps τ (envOf l m rm) ops ops.toList s = some s') (h : LW P n y R s') : LW P n (.seq (.region id ops false) y) R s :=
  LW.seq (LW.region hτ (envOf_ok hf hm) hn hr h)
theorem LW.ct {c : Operand} {x y : Code} (hc : s.eval c = .v (.bool true)) (h : LW P n x R s) : LW P n (.cond c x y) R s := LW.cond hc h
theorem LW.cf {c : Operand} {x y : Code} (hc : s.eval c = .v (.bool false)) (h : LW P n y R s) : LW P n (.cond c x y) R s := LW.cond hc h
end

/-- What is found is as K asks. -/
def okL (o : Option S) (K : S → Prop) : Prop := ∃ s, o = some s ∧ K s
@[simp] theorem okL_some (s : S) (K : S → Prop) : okL (some s) K = K s := by simp [okL]
@[simp] theorem okL_none (K : S → Prop) : okL none K = False := by simp [okL]
@[simp] theorem okL_ite (p : Prop) [Decidable p] (a b : Option S) (K : S → Prop) : okL (if p then a else b) K = if p then okL a K else okL b K := by split <;> rfl

section
variable {P : Program} {τ : Tab} {n : Nat} {R : Exit → S → Prop} {s s' : S} {l : List (Nat × List LV × LV)} {id : Nat} {ops : Array Oper}
/-- .. where the walk parts inside of a region. -/
theorem LW.rk (hτ : TabOk P τ) (hf : Facts P l) (hn : dstsOk n ops = true) (hr : okL (steps τ (envOf l) ops ops.toList s) (R .normal)) : LW P n (.region id ops false) R s := by
  obtain ⟨s', h1, h2⟩ := hr
  exact LW.r hτ hf hn h1 h2
theorem LW.srk {y : Code} (hτ : TabOk P τ) (hf : Facts P l) (hn : dstsOk n ops = true) (hr : okL (steps τ (envOf l) ops ops.toList s) (LW P n y R)) : LW P n (.seq (.region id ops false) y) R s := by
  obtain ⟨s', h1, h2⟩ := hr
  exact LW.sr hτ hf hn h1 h2
theorem LW.dk (hm : P.follows .mixedOrders = true) (hτ : TabOk P τ) (hf : Facts P l) (hn : dstsOk n ops = true) (hok : drawOk ops = true) (hr : okL (stepsD τ (envOf l) ops ops.toList s) (R .normal)) : LW P n (.region id ops true) R s := by
  obtain ⟨s', h1, h2⟩ := hr
  exact LW.d hm hτ hf hn hok h1 h2
theorem LW.sdk {y : Code} (hm : P.follows .mixedOrders = true) (hτ : TabOk P τ) (hf : Facts P l) (hn : dstsOk n ops = true) (hok : drawOk ops = true) (hr : okL (stepsD τ (envOf l) ops ops.toList s) (LW P n y R)) : LW P n (.seq (.region id ops true) y) R s := by
  obtain ⟨s', h1, h2⟩ := hr
  exact LW.sd hm hτ hf hn hok h1 h2
theorem LW.retk {results : Array ResultVar} {r : LV} (h : resL τ results s = some r) : LW P n .ret (retL τ results r) s := LW.ret h
end
end Go.LI
