/- Texts of a small semantics over the model and of specifications of functions, joined: LIDefs. -/
import Derived.Orders
import Derived.Below
import Derived.Laws.Append
import Derived.Laws.AppendOwn
set_option linter.unusedSimpArgs false
set_option linter.unusedVariables false
/- A second, smaller semantics: values as trees, local variables as boxes, slices as lists. Definitions. -/
namespace Go.LI
open Go Go.RowKit

inductive LV where
  | v (x : Value)
  | agg (cs : List LV)
  | list (xs : List (List LV))
  | ptr (d g off : Nat)
  | el (cs : List LV)
  | fn (f : Nat) (first caps : List LV)
  | tup (vs : List LV)
  | dead
  /-- A slice of a row of the frame's own: elements lo .. lo + n of the box (d, g), of sz cells each. -/
  | rs (d g lo n sz : Nat)
  /-- A slice of no elements; does it lead to memory? -/
  | emp (b : Bool)
  /-- A value of an interface. -/
  | ifc (t : Nat) (l : LV)
  /-- A closure that has captured variables of the frame's own. -/
  | clo (f : Nat) (caps : List LV)
  deriving Inhabited

abbrev Tag := Nat × Nat

inductive TD where
  | int (k : IntKind) | bool | str | slice (e : Nat) | struct (fs : List (Nat × Nat)) | arr (e n : Nat) | other

structure TI where
  d : TD
  size : Nat
  bytes : Nat
  zero : List Value
  /-- The types of its fields. -/
  ft : List Nat := []

abbrev Tab := Nat → Option TI

def TD.isAgg : TD → Bool
  | .struct _ => true
  | .arr _ _ => true
  | _ => false

def LV.cells : LV → List LV
  | .agg cs => cs
  | l => [l]

/-- One cell of memory may hold it. -/
def LV.one : LV → Bool
  | .v x => x.oneCell'
  | .list _ => true
  | .fn _ _ _ => true
  | .emp _ => true
  | .ifc _ _ => true
  | _ => false

/-- It leads to a box of the frame's own. -/
def LV.hot : LV → Bool
  | .ptr .. => true
  | .rs .. => true
  | .clo .. => true
  | _ => false

def LV.key1 : LV → List (Nat × Nat)
  | .ptr d g _ => [(d, g)]
  | _ => []

/-- The boxes to which it leads. -/
def LV.keys : LV → List (Nat × Nat)
  | .ptr d g _ => [(d, g)]
  | .rs d g _ _ _ => [(d, g)]
  | .clo _ caps => caps.flatMap LV.key1
  | _ => []

def LV.isPtr : LV → Bool
  | .ptr .. => true
  | _ => false

def isEmptyL : Option (List (List LV)) → Bool
  | some [] => true
  | _ => false

def LV.isRow : LV → Bool
  | .rs .. => true
  | _ => false

def LV.isV : LV → Bool
  | .v _ => true
  | _ => false

def nilV : LV := .v (.slice none 0 0)

def LV.asList : LV → Option (List (List LV))
  | .list xs => some xs
  | .v (.slice none 0 0) => some []
  | .emp _ => some []
  | _ => none

def ofConst : Value → LV
  | .agg cs => if cs.all (·.oneCell') then .agg (cs.toList.map .v) else .dead
  | .tuple vs => if vs.all (·.oneCell') then .tup (vs.toList.map .v) else .dead
  | x => .v x

structure S where
  t : Nat → LV
  o : Nat → Tag
  b : Nat → Nat → Option (List (LV × Tag))
  g : Nat → Nat
  tv : Nat → Nat
  /-- Boxes that may lie in memory that the frame was lent. -/
  mkd : Nat → Nat → Bool
  /-- Of an iterator: how many values it has given, and whether more are wanted. -/
  k : Nat := 0
  st : Bool := true
  /-- .. which program, which loop of its caller's, which values. -/
  yl : Option (Program × Nat × List (List LV)) := none

def upd {α : Type} (f : Nat → α) (d : Nat) (x : α) : Nat → α := fun i => if i = d then x else f i

@[simp] theorem upd_same {α : Type} (f : Nat → α) (d : Nat) (x : α) : upd f d x d = x := by simp [upd]
theorem upd_ne {α : Type} (f : Nat → α) {d i : Nat} (x : α) (h : i ≠ d) : upd f d x i = f i := by simp [upd, h]

def S.put (s : S) (dst : Option Nat) (l : LV) (tag : Tag := (0, 0)) : S :=
  match dst with
  | some d => { s with t := upd s.t d l, o := upd s.o d tag }
  | none => s

def S.eval (s : S) : Operand → LV
  | .tmp i => s.t i
  | .const v => ofConst v
  | .global g => .v (.pointer (some ⟨g, 0, none⟩))
  | .func f => .v (.func (.func f) #[] #[])

def S.tag (s : S) : Operand → Tag
  | .tmp i => s.o i
  | _ => (0, 0)

inductive MU where
  | none
  | box (d : Nat) (cells : List (LV × Tag))
  | store (d g off : Nat) (cells : List (LV × Tag))
  | tok (t ver : Nat)
  /-- The row (d, g) is no more; there is a new one at d'. -/
  | renew (d g d' : Nat) (cells : List (LV × Tag))
  /-- What a call has left in the boxes that it was lent; so many are new. -/
  | objs (us : List ((Nat × Nat) × Option (List LV))) (d cnt : Nat)

structure Upd where
  l : LV
  tag : Tag := (0, 0)
  m : MU := .none

/-- Cells written over others from a place on. -/
def over {α : Type} (off : Nat) (new old : List α) : List α := old.take off ++ new ++ old.drop (off + new.length)

/-- What is listed of a box. -/
def objAt : List ((Nat × Nat) × Option (List LV)) → Nat → Nat → Option (List (LV × Tag)) → Option (List (LV × Tag))
  | [], _, _, o => o
  | (k, c) :: r, x, y, o => if x = k.1 ∧ y = k.2 then c.map (fun l => l.map fun z => (z, (0, 0))) else objAt r x y o

def MU.apply (m : MU) (s : S) : S :=
  match m with
  | .none => s
  | .box d cells => { s with g := upd s.g d (s.g d + 1), b := fun x y => if x = d ∧ y = s.g d + 1 then some cells else s.b x y }
  | .store d g off cells => { s with b := fun x y => if x = d ∧ y = g then (s.b d g).map (over off cells) else s.b x y }
  | .tok t ver => { s with tv := upd s.tv t ver }
  | .renew d g d' cells => { s with g := upd s.g d' (s.g d' + 1), b := fun x y => if x = d' ∧ y = s.g d' + 1 then some cells else if x = d ∧ y = g then Option.none else s.b x y, mkd := fun x y => if x = d' ∧ y = s.g d' + 1 then s.mkd d g else s.mkd x y }
  | .objs us d cnt => { s with g := upd s.g d (s.g d + cnt), b := fun x y => objAt us x y (s.b x y), mkd := fun x y => if x = d ∧ s.g d < y ∧ y ≤ s.g d + cnt then us.any (fun k => s.mkd k.1.1 k.1.2 && k.2.isNone) else s.mkd x y }

def Upd.apply (u : Upd) (dst : Option Nat) (s : S) : S := (u.m.apply s).put dst u.l u.tag

/-! Operations on values. -/
def intOp (op : BinOp) (k : IntKind) (a b : Int) : Option Value :=
  match op with
  | .add => some (.int k (k.wrap (a + b)))
  | .sub => some (.int k (k.wrap (a - b)))
  | .mul => some (.int k (k.wrap (a * b)))
  | .quo => if b = 0 then none else some (.int k (k.wrap (a.tdiv b)))
  | .rem => if b = 0 then none else some (.int k (a.tmod b))
  | .eql => some (.bool (decide (a = b)))
  | .neq => some (.bool (!decide (a = b)))
  | .lss => some (.bool (decide (a < b)))
  | .leq => some (.bool (decide (a ≤ b)))
  | .gtr => some (.bool (decide (b < a)))
  | .geq => some (.bool (decide (b ≤ a)))
  | .and => some (.int k (k.wrap (BitVec.ofInt k.bits a &&& BitVec.ofInt k.bits b).toNat))
  | .or => some (.int k (k.wrap (BitVec.ofInt k.bits a ||| BitVec.ofInt k.bits b).toNat))
  | .xor => some (.int k (k.wrap (BitVec.ofInt k.bits a ^^^ BitVec.ofInt k.bits b).toNat))
  | .andNot => some (.int k (k.wrap (BitVec.ofInt k.bits a &&& ~~~(BitVec.ofInt k.bits b)).toNat))
  | _ => none

/-- All bits of a number turned. -/
def turned (k : IntKind) (a : Int) : Int := k.wrap (BitVec.ofInt k.bits (if k.signed then -1 else k.max) ^^^ BitVec.ofInt k.bits a).toNat

def binOpV (op : BinOp) : Value → Value → Option Value
  | .int k a, .int k' b =>
    match op with
    | .shl => if 0 ≤ b then some (.int k (k.wrap (a * 2 ^ (min b.toNat k.bits)))) else none
    | .shr => if 0 ≤ b then some (.int k (a.fdiv (2 ^ (min b.toNat k.bits)))) else none
    | op => if k = k' then intOp op k a b else none
  | .string a, .string b =>
    match op with
    | .eql => some (.bool (decide (a = b)))
    | .neq => some (.bool (!decide (a = b)))
    | .add => if a.size + b.size ≤ 9223372036854775807 then some (.string (a ++ b)) else none
    | _ => none
  | .bool a, .bool b =>
    match op with
    | .eql => some (.bool (a == b))
    | .neq => some (.bool (!(a == b)))
    | _ => none
  | _, _ => none

/-- Is a slice nil? -/
def nilEq : LV → Option Bool
  | .v (.slice none _ _) => some true
  | .list (_ :: _) => some false
  | .rs _ _ _ (_ + 1) _ => some false
  | .rs _ _ 0 _ _ => some false
  | .emp b => some (!b)
  | _ => none

def isNilV : LV → Bool
  | .v (.slice none _ _) => true
  | _ => false

def isSliceTy : Option TD → Bool
  | some (.slice _) => true
  | _ => false

/-- Parts are compared. -/
def eqLs : List LV → List LV → Option Bool
  | [], [] => some true
  | .v (.int k a) :: r, .v (.int k' b) :: r' => if k = k' then (eqLs r r').map fun z => decide (a = b) && z else none
  | _, _ => none

def aggOp (n : Nat) (op : BinOp) : LV → LV → Option LV
  | .agg xs, .agg ys =>
    if xs.length = n then
    match op with
    | .eql => (eqLs xs ys).map fun b => .v (.bool b)
    | .neq => (eqLs xs ys).map fun b => .v (.bool !b)
    | _ => none
    else none
  | _, _ => none

/-- Slices are compared with nil. -/
def sliceOp (op : BinOp) (x y : LV) : Option LV :=
  if isNilV y then
    match op with
    | .eql => (nilEq x).map fun b => .v (.bool b)
    | .neq => (nilEq x).map fun b => .v (.bool !b)
    | _ => none
  else none

def part (isAgg : Bool) (n : Nat) (cs : List LV) : Option LV :=
  if isAgg then (if n ≤ cs.length then some (.agg (cs.take n)) else none)
  else match cs with
    | c :: _ => if n = 1 then some c else none
    | [] => none

def fillL (places : Nat → Option (Nat × Nat)) (cells : List LV) : List (Nat × LV) → Option (List LV)
  | [] => some cells
  | (i, x) :: rest =>
    match places i with
    | none => none
    | some (off, size) => if x.cells.length = size ∧ off + size ≤ cells.length then fillL places (over off x.cells cells) rest else none

def lv0 : Value → LV := .v

/-- The first of the boxes that a call is lent. -/
def lentBase : Nat := 1000000

/-- A call that is lent boxes: which (ks), what they hold, as the called function names them; what it answers, and what they hold then (none: no more); those behind the first are new. -/
structure Lend where
  ks : List (Nat × Nat)
  objs : List (List LV)
  r : LV
  objs' : List (Option (List LV))

structure Env where
  call : Nat → List LV → Option LV
  lend : Nat → List LV → (Nat → Nat → Option (List LV)) → Option Lend
  /-- May rows of the frame's own grow? -/
  rows : Bool := true
  /-- The method of a type, by its name. -/
  meth : Nat → String → Option Nat := fun _ _ => none
  /-- Where an append to nil makes a row of the frame's own (not a list). -/
  rm : Nat → Bool := fun _ => false
  /-- Structs of a type that may be compared, part by part. -/
  eqs : Nat → Option Nat := fun _ => none

/-- No call is lent anything, no row of the frame's own grows. -/
def Env.own (Γ : Env) : Env := { Γ with lend := fun _ _ _ => none, rows := false, rm := fun _ => false }

variable (τ : Tab) (Γ : Env)

/-- All are values that may be handed on: nothing of this frame's own memory. -/
def LV.plain : LV → Bool
  | .ptr .. => false
  | .dead => false
  | .rs .. => false
  | .clo .. => false
  | _ => true

/-- The called function, and what it is handed. -/
def target : LV → List LV → Option (Nat × List LV)
  | .v (.func (.func f) first captured), args => if first = #[] ∧ captured = #[] then some (f, args) else none
  | .fn f first caps, args => some (f, first ++ args ++ caps)
  | .clo f caps, args => some (f, args ++ caps)
  | _, _ => none

def evalCall (f : LV) (args : List LV) : Option LV :=
  match target f args with
  | some (f, args) => if args.all LV.plain then Γ.call f args else none
  | none => none

/-- As the called function names what it is lent: told in the caller's names. -/
def LV.un1 (ks : List (Nat × Nat)) : LV → LV
  | .ptr d _ off => .ptr (ks.getD (d - lentBase) (0, 0)).1 (ks.getD (d - lentBase) (0, 0)).2 off
  | l => l
def LV.un (ks : List (Nat × Nat)) : LV → LV
  | .ptr d _ off => .ptr (ks.getD (d - lentBase) (0, 0)).1 (ks.getD (d - lentBase) (0, 0)).2 off
  | .rs d _ lo n sz => .rs (ks.getD (d - lentBase) (0, 0)).1 (ks.getD (d - lentBase) (0, 0)).2 lo n sz
  | .clo f caps => .clo f (caps.map (LV.un1 ks))
  | l => l

def newKeys (d g : Nat) (n : Nat) : List (Nat × Nat) := (List.range n).map fun i => (d, g + 1 + i)

def look (s : S) : Nat → Nat → Option (List LV) := fun x y => (s.b x y).map fun c => c.map (·.1)

/-- The call of f where it is lent boxes. -/
def lendCall (s : S) (dst : Option Nat) (f : LV) (args : List LV) : Option Upd :=
  match target f args with
  | some (f, args) =>
    match Γ.lend f args (look s) with
    | some x =>
      let d := dst.getD 0
      let ks' := x.ks ++ newKeys d (s.g d) (x.objs'.length - x.ks.length)
      if dst = none ∧ x.ks.length ≠ x.objs'.length then none
      else some { l := x.r.un ks', m := .objs (ks'.zip (x.objs'.map fun o => o.map fun c => c.map (LV.un ks'))) d (x.objs'.length - x.ks.length) }
    | none => none
  | none => none

def desc (t : Nat) : Option TD := (τ t).map fun ti => ti.d

/-- A truth is compared at a type of truths. -/
def boolOk (t : Nat) (v : Value) : Bool :=
  match v with
  | .bool _ => match desc τ t with
    | some .bool => true
    | _ => false
  | _ => true

def elemOf (t : Nat) : Option (Nat × TI) :=
  match τ t with
  | some { d := .slice e, .. } => (τ e).map fun ti => (e, ti)
  | _ => none

def arrOf (t : Nat) : Option (Nat × TI) :=
  match τ t with
  | some { d := .arr e n, .. } => (τ e).map fun ti => (n, ti)
  | _ => none

/-- An element's place in an array. -/
def idxArrL (x i : LV) : Option (Nat × TI) → Option LV
  | some (n, ti) =>
    match x, i with
    | .ptr d g off, .v (.int _ j) => if 0 ≤ j ∧ j < n then some (.ptr d g (off + j.toNat * ti.size)) else none
    | .el cs, .v (.int _ j) => if 0 ≤ j ∧ j < n then some (.el (cs.drop (j.toNat * ti.size))) else none
    | _, _ => none
  | none => none

/-- The least (the greatest) of numbers. -/
def minL (greatest : Bool) (k : IntKind) (x : Int) : List LV → Option LV
  | [] => some (.v (.int k x))
  | .v (.int k' y) :: r => if k = k' then minL greatest k (if greatest then (if y > x then y else x) else (if y < x then y else x)) r else none
  | _ => none

/-- What is copied out of a slice whose elements have one cell each. -/
def srcL (s : S) (x : Operand) : Option (List LV) :=
  match s.eval x with
  | .rs d g lo n sz => if sz = 1 then
      match s.b d g with
      | some c => if lo + n ≤ c.length then some (((c.drop lo).take n).map (·.1)) else none
      | none => none
    else none
  | l => match l.asList with
    | some ys => if (ys.all fun e => e.length == 1) then some ys.flatten else none
    | none => none

def copyL (s : S) (d g lo n : Nat) (src : List LV) : Option Upd :=
  match s.b d g, src.take n with
  | _, [] => some { l := .v (.int .i64 0) }
  | some cells, c :: r => if lo + n ≤ cells.length then some { l := .v (.int .i64 (r.length + 1)), m := .store d g lo ((c :: r).map fun c => (c, (0, 0))) } else none
  | none, _ => none

def clearL (s : S) (ti : TI) : LV → Option Upd
  | .rs d g lo n sz =>
    if n = 0 then some { l := .tup [] } else
    match s.b d g, ti.zero with
    | some cells, [z] => if sz = 1 ∧ ti.size = 1 ∧ ti.d.isAgg = false ∧ lo + n ≤ cells.length then some { l := .tup [], m := .store d g lo (List.replicate n (.v z, (0, 0))) } else none
    | _, _ => none
  | l => match l.asList with
    | some [] => some { l := .tup [] }
    | _ => none

def effCall (s : S) (dst : Option Nat) (c : Call) : Option Upd :=
  match c.callee with
  | .value f =>
    match evalCall Γ (s.eval f) (c.args.toList.map s.eval) with
    | some l => some { l }
    | none => lendCall Γ s dst (s.eval f) (c.args.toList.map s.eval)
  | .invoke recv name =>
    match s.eval recv with
    | .ifc t l =>
      match Γ.meth t name with
      | some f => if (l :: c.args.toList.map s.eval).all LV.plain then (Γ.call f (l :: c.args.toList.map s.eval)).map fun l => { l } else none
      | none => none
    | _ => none
  | .builtin .len =>
    match c.args.toList with
    | [x] =>
      if c.argTypes.size = 0 then none else
      match s.eval x, desc τ (c.argTypes.getD 0 0) with
      | .v (.string b), some .str => some { l := .v (.int .i64 b.size) }
      | .rs _ _ _ n _, some (.slice _) => some { l := .v (.int .i64 n) }
      | l, some (.slice _) => l.asList.map fun xs => { l := .v (.int .i64 xs.length) }
      | _, _ => none
    | _ => none
  | .builtin .append =>
    match c.args.toList, c.argTypes.toList, dst with
    | [sx, xx], [t, t'], some d =>
      if t = t' then
        if (elemOf τ t).isSome = true ∧ isEmptyL (s.eval xx).asList = true ∧ ((s.eval sx).asList.isSome || (s.eval sx).isRow) then some { l := s.eval sx, tag := s.tag sx } else
        match s.eval sx with
        | .rs d0 g0 lo n sz =>
          match elemOf τ t, (s.eval xx).asList, s.b d0 g0 with
          | some (_, ti), some ys, some cells =>
            if Γ.rows = true ∧ lo = 0 ∧ sz = ti.size ∧ cells.length = n * sz ∧ (ys.all fun e => e.length == ti.size) ∧ 0 < ti.size ∧ ti.zero.length = ti.size ∧ n + ys.length ≤ 9223372036854775807 ∧ (n + ys.length) * ti.bytes ≤ 140737488355328 ∧ ys ≠ [] then
              some { l := .rs d (s.g d + 1) 0 (n + ys.length) sz, m := .renew d0 g0 d (cells ++ ys.flatten.map fun c => (c, (0, 0))) }
            else none
          | _, _, _ => none
        | _ =>
        match elemOf τ t, (s.eval sx).asList, (s.eval xx).asList with
        | some (_, ti), some xs, some ys =>
          if (xs.all fun e => e.length == ti.size) ∧ (ys.all fun e => e.length == ti.size) ∧ 0 < ti.size ∧ ti.zero.length = ti.size ∧ xs.length + ys.length ≤ 9223372036854775807 ∧ (xs.length + ys.length) * ti.bytes ≤ 140737488355328 ∧ ys ≠ [] then
            if (s.eval sx).isV then
              if Γ.rm d = true then some { l := .rs d (s.g d + 1) 0 ys.length ti.size, m := .box d (ys.flatten.map fun c => (c, (0, 0))) }
              else some { l := .list (xs ++ ys), tag := (d + 1, s.tv (d + 1) + 1), m := .tok (d + 1) (s.tv (d + 1) + 1) }
            else if (s.tag sx).1 ≠ 0 ∧ (s.tag sx).2 = s.tv (s.tag sx).1 then some { l := .list (xs ++ ys), tag := ((s.tag sx).1, (s.tag sx).2 + 1), m := .tok (s.tag sx).1 ((s.tag sx).2 + 1) }
            else none
          else none
        | _, _, _ => none
      else none
    | _, _, _ => none
  | .builtin .min =>
    match (c.args.toList.map s.eval) with
    | .v (.int k x) :: r => (minL false k x r).map fun l => { l }
    | _ => none
  | .builtin .max =>
    match (c.args.toList.map s.eval) with
    | .v (.int k x) :: r => (minL true k x r).map fun l => { l }
    | _ => none
  | .builtin .copy =>
    match c.args.toList, c.argTypes.toList with
    | [dx, sx], [t, _] =>
      match s.eval dx, elemOf τ t, srcL s sx with
      | .rs d g lo n sz, some (_, ti), some src => if Γ.rows = true ∧ sz = 1 ∧ ti.size = 1 then copyL s d g lo n src else none
      | _, _, _ => none
    | _, _ => none
  | .builtin .clear =>
    match c.args.toList, c.argTypes.toList with
    | [x], [t] =>
      match elemOf τ t with
      | some (_, ti) => if Γ.rows = true then clearL s ti (s.eval x) else none
      | none => none
    | _, _ => none
  | _ => none

def eff (s : S) (o : Oper) : Option Upd :=
  match o.op with
  | .move x | .assign x => some { l := s.eval x, tag := s.tag x }
  | .pick c a b =>
    match s.eval c with
    | .v (.bool c) => some (if c then { l := s.eval a, tag := s.tag a } else { l := s.eval b, tag := s.tag b })
    | _ => none
  | .alloc elem =>
    match τ elem, o.dst with
    | some ti, some d => some { l := .ptr d (s.g d + 1) 0, m := .box d (ti.zero.map fun x => (.v x, (0, 0))) }
    | _, _ => none
  | .box elem x =>
    match τ elem, o.dst with
    | some ti, some d => if (s.eval x).cells.length = ti.size ∧ ((s.eval x).hot || (s.eval x).cells.all LV.one) then some { l := .ptr d (s.g d + 1) 0, m := .box d ((s.eval x).cells.map fun c => (c, (0, 0))) } else none
    | _, _ => none
  | .build t parts =>
    match τ t with
    | some { d := .struct fs, zero, .. } => if (parts.toList.all fun p => (s.eval p.2).cells.all LV.one) then (fillL (fs[·]?) (zero.map .v) (parts.toList.map fun p => (p.1, s.eval p.2))).bind (fun cs => if cs.all LV.one then some { l := .agg cs } else none) else none
    | some { d := .arr e _, zero, .. } =>
      match τ e with
      | some ti => if (parts.toList.all fun p => (s.eval p.2).cells.all LV.one) then (fillL (fun i => some (i * ti.size, ti.size)) (zero.map .v) (parts.toList.map fun p => (p.1, s.eval p.2))).bind (fun cs => if cs.all LV.one then some { l := .agg cs } else none) else none
      | none => none
    | _ => none
  | .buildSlice t len parts =>
    match elemOf τ t with
    | some (_, ti) =>
      if len = 0 then
        match o.dst with
        | some d => if 0 < ti.size ∧ parts.toList = [] then some { l := .rs d (s.g d + 1) 0 0 ti.size, m := .box d [] } else none
        | none => none
      else
      if len * ti.size ≤ 16777216 ∧ 0 < ti.size ∧ ti.zero.length = ti.size ∧ 0 < len ∧ (parts.toList.all fun p => (s.eval p.2).cells.all LV.one) then
        (fillL (fun i => some (i * ti.size, ti.size)) ((List.replicate len (ti.zero.map LV.v)).flatten) (parts.toList.map fun p => (p.1, s.eval p.2))).bind fun cs =>
          if cs.all LV.one then some { l := .list ((List.range len).map fun i => (cs.drop (i * ti.size)).take ti.size) } else none
      else none
    | _ => none
  | .load t a =>
    match τ t with
    | some ti =>
      match s.eval a with
      | .el cs => (part ti.d.isAgg ti.size cs).map fun l => { l }
      | .ptr d g off =>
        match s.b d g with
        | some cells => if ti.d.isAgg = true ∧ ((cells.drop off).take ti.size).all (fun c => c.1.plain) = false then none else (part ti.d.isAgg ti.size ((cells.drop off).map (·.1))).map fun l => { l, tag := if ti.d.isAgg then (0, 0) else ((cells[off]?).map (·.2)).getD (0, 0) }
        | none => none
      | _ => none
    | none => none
  | .store t a x =>
    match τ t, s.eval a with
    | some ti, .ptr d g off =>
      match s.b d g with
      | some cells =>
        if (s.eval x).cells.length = ti.size ∧ off + ti.size ≤ cells.length ∧ ((s.eval x).hot || (s.eval x).cells.all LV.one) then
          some { l := .dead, m := .store d g off (match s.eval x with | .agg cs => cs.map fun c => (c, (0, 0)) | l => [(l, s.tag x)]) }
        else none
      | none => none
    | _, _ => none
  | .nilCheck x =>
    match s.eval x with
    | .ptr d g off => some { l := .ptr d g off }
    | .el cs => some { l := .el cs }
    | _ => none
  | .binOp op t x y _ =>
    if isSliceTy (desc τ t) then (sliceOp op (s.eval x) (s.eval y)).map fun l => { l } else
    match Γ.eqs t with
    | some n => (aggOp n op (s.eval x) (s.eval y)).map fun l => { l }
    | none =>
    match s.eval x, s.eval y with
    | .v a, .v b => if boolOk τ t a then (binOpV op a b).map fun v => { l := .v v } else none
    | _, _ => none
  | .makeInterface t x =>
    match desc τ t with
    | some .other | none => none
    | some _ => if (s.eval x).plain then some { l := .ifc t (s.eval x) } else none
  | .typeAssert x _ t ok =>
    match s.eval x, τ t with
    | .ifc t' l, some ti =>
      match ti.d with
      | .other => none
      | _ => if t' = t then some { l := if ok then .tup [l, .v (.bool true)] else l }
        else if ok then some { l := .tup [if ti.d.isAgg then .agg (ti.zero.map .v) else .v (ti.zero.headD undef), .v (.bool false)] } else none
    | _, _ => none
  | .unOp op _ x =>
    match op, s.eval x with
    | .not, .v (.bool b) => some { l := .v (.bool (!b)) }
    | .neg, .v (.int k a) => some { l := .v (.int k (k.wrap (0 - a))) }
    | .xor, .v (.int k a) => some { l := .v (.int k (turned k a)) }
    | _, _ => none
  | .convert src dst x =>
    match desc τ src, desc τ dst, s.eval x with
    | some (.int _), some (.int k), .v (.int _ n) => some { l := .v (.int k (k.wrap n)) }
    | some .str, some .str, .v (.string b) => some { l := .v (.string b) }
    | _, _, _ => none
  | .makeFunc fn first captured =>
    match fn with
    | .func f =>
      if first.toList = [] ∧ captured.toList = [] then some { l := .v (.func (.func f) #[] #[]) }
      else if (first.toList.map s.eval).all LV.plain ∧ (captured.toList.map s.eval).all LV.plain then some { l := .fn f (first.toList.map s.eval) (captured.toList.map s.eval) }
      else if first.toList = [] ∧ (captured.toList.map s.eval).all (fun l => l.plain || l.isPtr) then some { l := .clo f (captured.toList.map s.eval) }
      else none
    | _ => none
  | .makeSlice t l c =>
    match elemOf τ t, s.eval l, s.eval c, o.dst with
    | some (_, ti), .v (.int _ n), .v (.int _ m), some d =>
      if n = m ∧ 0 ≤ n ∧ n ≤ 9223372036854775807 ∧ 0 < ti.size ∧ ti.zero.length = ti.size ∧ n * ti.bytes ≤ 140737488355328 then
        some { l := .rs d (s.g d + 1) 0 n.toNat ti.size, m := .box d (((List.replicate n.toNat (ti.zero.map LV.v)).flatten).map fun c => (c, (0, 0))) }
      else none
    | _, _, _, _ => none
  | .slice t x lo hi mx =>
    match mx.map s.eval, s.eval x, desc τ t with
    | none, .v (.string b), some .str =>
      let l := (lo.map s.eval).getD (.v (.int .i64 0))
      let h := (hi.map s.eval).getD (.v (.int .i64 b.size))
      match l, h with
      | .v (.int _ l), .v (.int _ h) => if 0 ≤ l ∧ l ≤ h ∧ h ≤ b.size then some { l := .v (.string (b.extract l.toNat h.toNat)) } else none
      | _, _ => none
    | none, .rs d g lo0 n sz, some (.slice _) =>
      match elemOf τ t with
      | some (_, ti) =>
        let l := (lo.map s.eval).getD (.v (.int .i64 0))
        let h := (hi.map s.eval).getD (.v (.int .i64 n))
        match l, h with
        | .v (.int _ l), .v (.int _ h) => if 0 ≤ l ∧ l ≤ h ∧ h ≤ n ∧ ti.size = sz then some { l := .rs d g (lo0 + l.toNat) (h - l).toNat sz } else none
        | _, _ => none
      | none => none
    | none, xv, some (.slice _) =>
      match xv.asList, elemOf τ t with
      | some xs, some (_, ti) =>
        let l := (lo.map s.eval).getD (.v (.int .i64 0))
        let h := (hi.map s.eval).getD (.v (.int .i64 xs.length))
        match l, h with
        | .v (.int _ l), .v (.int _ h) => if 0 ≤ l ∧ l ≤ h ∧ h ≤ xs.length ∧ (xs.all fun e => e.length == ti.size) then some { l := .list ((xs.take h.toNat).drop l.toNat) } else none
        | _, _ => none
      | _, _ => none
    | some mv, xv, some (.slice _) =>
      match xv.asList, elemOf τ t with
      | some xs, some (_, ti) =>
        let l := (lo.map s.eval).getD (.v (.int .i64 0))
        match l, hi.map s.eval, mv with
        | .v (.int _ l), some (.v (.int _ h)), .v (.int _ m) => if 0 ≤ l ∧ l ≤ h ∧ h ≤ m ∧ m ≤ xs.length ∧ (xs.all fun e => e.length == ti.size) then some { l := .list ((xs.take h.toNat).drop l.toNat) } else none
        | _, _, _ => none
      | _, _ => none
    | _, _, _ => none
  | .fieldAddr t x f =>
    match τ t with
    | some { d := .struct fs, .. } =>
      match fs[f]?, s.eval x with
      | some (off, sz), .ptr d g p => if 0 < sz then some { l := .ptr d g (p + off) } else none
      | some (off, sz), .el cs => if 0 < sz then some { l := .el (cs.drop off) } else none
      | _, _ => none
    | _ => none
  | .field t x f =>
    match τ t with
    | some { d := .struct fs, ft, .. } =>
      match fs[f]?, (ft[f]?).bind τ, s.eval x with
      | some (off, _), some fi, .agg cs => (part fi.d.isAgg fi.size (cs.drop off)).map fun l => { l }
      | _, _, _ => none
    | _ => none
  | .indexAddr t x i =>
    match elemOf τ t with
    | none => (idxArrL (s.eval x) (s.eval i) (arrOf τ t)).map fun l => { l }
    | some _ =>
    match s.eval x with
    | .rs d g lo n sz =>
      match elemOf τ t, s.eval i with
      | some (_, ti), .v (.int _ j) => if 0 ≤ j ∧ j < n ∧ ti.size = sz then some { l := .ptr d g ((lo + j.toNat) * sz) } else none
      | _, _ => none
    | _ =>
    match elemOf τ t, (s.eval x).asList, s.eval i with
    | some (_, ti), some xs, .v (.int _ n) =>
      if 0 ≤ n ∧ n < xs.length then (xs[n.toNat]?).bind fun e => if e.length = ti.size then some { l := .el e } else none else none
    | _, _, _ => none
  | .index t x i =>
    match desc τ t, s.eval x, s.eval i with
    | some .str, .v (.string b), .v (.int _ n) => if 0 ≤ n then (b[n.toNat]?).map fun c => { l := .v (.int .u8 c.toNat) } else none
    | some (.arr e len), .agg cs, .v (.int _ n) =>
      match τ e with
      | some ti => if 0 ≤ n ∧ n < len then (part ti.d.isAgg ti.size (cs.drop (n.toNat * ti.size))).map fun l => { l } else none
      | none => none
    | _, _, _ => none
  | .extract x i =>
    match s.eval x with
    | .tup vs => (vs[i]?).map fun l => { l }
    | _ => none
  | .call c => effCall τ Γ s o.dst c
  | _ => none

/-- Is the operation to be carried out? (none: it can't be told.) -/
def wantedL (ops : Array Oper) (s : S) (o : Oper) : Option Bool :=
  match o.guard with
  | none => some true
  | some (j, want) =>
    match (ops[j]?).bind (·.dst) with
    | some d => match s.t d with
      | .v (.bool b) => some (b == want)
      | .tup _ => some false
      | _ => none
    | none => none

def step (ops : Array Oper) (o : Oper) (s : S) : Option S :=
  match wantedL ops s o with
  | some true => (eff τ Γ s o).map fun u => u.apply o.dst s
  | some false => some (s.put o.dst (.tup []))
  | none => none

def steps (ops : Array Oper) : List Oper → S → Option S
  | [], s => some s
  | o :: r, s => (step τ Γ ops o s).bind (steps ops r)

/-! Regions whose order is drawn. -/
/-- Operations that hand on what they find (elsewhere than in a box of the frame's own). -/
def finds (s : S) : Op → Bool
  | .load _ a => !(s.eval a).isPtr
  | .field .. | .index .. | .extract .. | .call _ | .typeAssert .. => true
  | _ => false

def stepD (ops : Array Oper) (o : Oper) (s : S) : Option S :=
  match wantedL ops s o with
  | some true => (eff τ Γ.own s o).bind fun u => if finds s o.op && u.l.hot then none else some (u.apply o.dst s)
  | some false => some (s.put o.dst (.tup []))
  | none => none

def stepsD (ops : Array Oper) : List Oper → S → Option S
  | [], s => some s
  | o :: r, s => (stepD τ Γ ops o s).bind (stepsD ops r)

def isLoad : Op → Bool
  | .load .. => true
  | _ => false

def isStore : Op → Bool
  | .store .. => true
  | _ => false

def isAppend : Op → Bool
  | .call c => match c.callee with
    | .builtin .append => true
    | _ => false
  | _ => false

def indep (ops : Array Oper) (x y : Oper) : Bool :=
  x.apart ops y && !(isStore x.op && (isLoad y.op || isStore y.op)) && !(isStore y.op && (isLoad x.op || isStore x.op)) && !(isAppend x.op && isAppend y.op)

def reach (ops : Array Oper) : Nat → Nat → Nat → Bool
  | 0, _, _ => false
  | n + 1, j, x => match ops[j]? with
    | some o => o.after.toList.any fun e => Region.binds .any e && (e.on == x || reach ops n e.on x)
    | none => false

/-- Any two operations are ordered, or may change places; each waits for such alone as stand ahead of it. -/
def drawOk (ops : Array Oper) : Bool :=
  ((List.range ops.size).all fun j => (List.range j).all fun x => reach ops ops.size j x ||
    (match ops[x]?, ops[j]? with
     | some ox, some oj => indep ops ox oj
     | _, _ => false)) &&
  (List.range ops.size).all fun j => match ops[j]? with
    | some o => o.after.toList.all fun e => !Region.binds .any e || decide (e.on < j)
    | none => false

end Go.LI
