/- Texts of a small semantics over the model and of specifications of functions, joined: LISim, LIOps, LIOps2. -/
import Derived.Test.YtlnndndpaakjfaaGreatDoorP00
import Derived.RangeFuncSeq
import Derived.RangeFuncCalls
import Derived.Laws.IdiomCopy
import Derived.Laws.Rows
set_option linter.unusedSimpArgs false
set_option linter.unusedVariables false
namespace Go.LI
open Go Go.RowKit

/-- u reads as l in W, through cells of Pr alone. -/
inductive Rd (Pr : Nat → Nat → Prop) (W : World) : LV → Value → Prop
  | v (x : Value) (h : x.oneCell' = true) : Rd Pr W (.v x) x
  | agg {cs : List LV} {us : List Value} (hl : cs.length = us.length) (h1 : ∀ u ∈ us, u.oneCell' = true)
      (h : ∀ (i : Nat) l u, cs[i]? = some l → us[i]? = some u → Rd Pr W l u) : Rd Pr W (.agg cs) (.agg us.toArray)
  | list {xs : List (List LV)} {A : Option Addr} {c : Nat} (sz : Nat) (U : Nat → Nat → Value) (hc : xs.length ≤ c) (hm : xs.length ≤ 9223372036854775807) (hs : ∀ e ∈ xs, e.length = sz)
      (ha : 0 < xs.length → ∃ ad, A = some ad ∧ ∀ (j : Nat) e (i : Nat) l, xs[j]? = some e → e[i]? = some l →
        W.cell? (ad.add (j * sz + i)) = some (U j i) ∧ (U j i).oneCell' = true ∧ Pr (ad.add (j * sz + i)).block (ad.add (j * sz + i)).off)
      (h : ∀ (j : Nat) e (i : Nat) l, xs[j]? = some e → e[i]? = some l → Rd Pr W l (U j i)) : Rd Pr W (.list xs) (.slice A xs.length c)
  | el {cs : List LV} {a : Addr} (U : Nat → Value)
      (ha : ∀ (i : Nat) l, cs[i]? = some l → W.cell? (a.add i) = some (U i) ∧ (U i).oneCell' = true ∧ Pr (a.add i).block (a.add i).off)
      (h : ∀ (i : Nat) l, cs[i]? = some l → Rd Pr W l (U i)) : Rd Pr W (.el cs) (.pointer (some a))
  | fn {f : Nat} {first caps : List LV} {us ws : List Value} (hl : first.length = us.length) (h : ∀ (i : Nat) l u, first[i]? = some l → us[i]? = some u → Rd Pr W l u)
      (hl' : caps.length = ws.length) (h' : ∀ (i : Nat) l u, caps[i]? = some l → ws[i]? = some u → Rd Pr W l u) :
      Rd Pr W (.fn f first caps) (.func (.func f) us.toArray ws.toArray)
  | emp {A : Option Addr} {c : Nat} : Rd Pr W (.emp A.isSome) (.slice A 0 c)
  | ifc {t : Nat} {l : LV} {u : Value} (hp : l.plain = true) (h : Rd Pr W l u) : Rd Pr W (.ifc t l) (.iface t u)
  | tup {vs : List LV} {us : List Value} (hl : vs.length = us.length) (h : ∀ (i : Nat) l u, vs[i]? = some l → us[i]? = some u → Rd Pr W l u) :
      Rd Pr W (.tup vs) (.tuple us.toArray)

def Agree (Pr : Nat → Nat → Prop) (W W' : World) : Prop := ∀ a : Addr, Pr a.block a.off → W'.cell? a = W.cell? a

theorem Rd.move {Pr Pr' : Nat → Nat → Prop} {W W' : World} {l : LV} {u : Value} (h : Rd Pr W l u) (ha : Agree Pr W W') (hp : ∀ k o, Pr k o → Pr' k o) : Rd Pr' W' l u := by
  induction h with
  | v x h => exact .v x h
  | agg hl h1 _ ih => exact .agg hl h1 ih
  | list sz U hc hm hs hh _ ih =>
    refine .list sz U hc hm hs (fun hn => ?_) ih
    obtain ⟨ad, he, hx⟩ := hh hn
    refine ⟨ad, he, fun j e i l h1 h2 => ?_⟩
    obtain ⟨a1, a2, a3⟩ := hx j e i l h1 h2
    exact ⟨(ha _ a3).trans a1, a2, hp _ _ a3⟩
  | el U hh _ ih =>
    refine .el U (fun i l h1 => ?_) ih
    obtain ⟨a1, a2, a3⟩ := hh i l h1
    exact ⟨(ha _ a3).trans a1, a2, hp _ _ a3⟩
  | fn hl _ hl' _ ih ih' => exact .fn hl ih hl' ih'
  | emp => exact .emp
  | ifc hp _ ih => exact .ifc hp ih
  | tup hl _ ih => exact .tup hl ih

theorem Agree.refl (Pr : Nat → Nat → Prop) (W : World) : Agree Pr W W := fun _ _ => rfl
theorem Rd.mono {Pr Pr' : Nat → Nat → Prop} {W : World} {l : LV} {u : Value} (h : Rd Pr W l u) (hp : ∀ k o, Pr k o → Pr' k o) : Rd Pr' W l u := h.move (Agree.refl _ _) hp

theorem Rd.one {Pr : Nat → Nat → Prop} {W : World} {l : LV} {u : Value} (h : Rd Pr W l u) (hl : l.one = true) : u.oneCell' = true := by
  cases h with
  | v x h => exact h
  | agg => simp [LV.one] at hl
  | list => rfl
  | el => simp [LV.one] at hl
  | fn => rfl
  | emp => rfl
  | ifc => rfl
  | tup => simp [LV.one] at hl

/-- The nil slice reads as an empty list. -/
theorem Rd.asList {Pr : Nat → Nat → Prop} {W : World} {l : LV} {u : Value} {xs : List (List LV)} (h : Rd Pr W l u) (hl : l.asList = some xs) : Rd Pr W (.list xs) u := by
  unfold LV.asList at hl
  split at hl
  · simp only [Option.some.injEq] at hl; subst hl; exact h
  · simp only [Option.some.injEq] at hl; subst hl
    cases h with
    | v x h => exact .list (xs := []) 0 (fun _ _ => undef) (Nat.le_refl _) (by simp) (by simp) (fun h => absurd h (by simp)) (fun j e i l hj => by simp at hj)
  · simp only [Option.some.injEq] at hl; subst hl
    cases h with
    | emp => exact .list (xs := []) 0 (fun _ _ => undef) (Nat.zero_le _) (by simp) (by simp) (fun h => absurd h (by simp)) (fun j e i l hj => by simp at hj)
  · cases hl

structure Ctx where
  base : Nat
  W0 : World
  Pr0 : Nat → Nat → Prop
  n : Nat
  /-- The blocks that the frame was lent. -/
  X : Nat → Prop := fun _ => False
  /-- What was there at the start, as the frame first names it: up to which numbers, where, and what was no more. -/
  g0 : Nat → Nat := fun _ => 0
  β0 : Nat → Nat → Nat := fun _ _ => 0
  rc0 : Nat → Nat → Nat := fun _ _ => 0
  rz0 : Nat → Nat → Nat := fun _ _ => 0
  D0 : Nat → Nat → Prop := fun _ _ => False
  /-- From where on memory may be frozen. -/
  mb : Nat := base
  /-- Of an iterator: what its caller's world is asked for, so many values having been given. -/
  J : Nat → Bool → (Nat → Prop) → (Nat → Nat → Prop) → World → Prop := fun _ _ _ _ _ => True
  yld : Option (Program × Nat × List (List LV)) := none
  /-- The round in which the code runs. -/
  rnd : Option Nat := none

/-- Nothing of O has turned; elsewhere blocks of cells stay as long as they are. -/
structure Out (O : Nat → Prop) (w w' : World) : Prop where
  os : w'.os = w.os
  tape : w'.tape = w.tape
  output : w'.output = w.output
  size : w.heap.size ≤ w'.heap.size
  same : ∀ b, O b → b < w.heap.size → w'.heap[b]? = w.heap[b]?
  kept : ∀ (b : Nat) (cur : Array Value) (e : Nat), w.heap[b]? = some (Obj.cells cur e (0, 0)) → ∃ cur' : Array Value, w'.heap[b]? = some (.cells cur' e (0, 0)) ∧ cur'.size = cur.size
  drawn : w.drawn ≤ w'.drawn

theorem Out.refl (O : Nat → Prop) (w : World) : Out O w w := ⟨rfl, rfl, rfl, Nat.le_refl _, fun _ _ _ => rfl, fun _ cur _ h => ⟨cur, h, rfl⟩, Nat.le_refl _⟩

theorem Out.trans {O : Nat → Prop} {a b c : World} (h : Out O a b) (k : Out O b c) : Out O a c :=
  ⟨k.os.trans h.os, k.tape.trans h.tape, k.output.trans h.output, Nat.le_trans h.size k.size, fun i hi hl => (k.same i hi (Nat.lt_of_lt_of_le hl h.size)).trans (h.same i hi hl), fun i cur e hc => by
    obtain ⟨c1, h1, h2⟩ := h.kept i cur e hc
    obtain ⟨c2, h3, h4⟩ := k.kept i c1 e h1
    exact ⟨c2, h3, h4.trans h2⟩, Nat.le_trans h.drawn k.drawn⟩

/-- Below block number B the world w' is as w was; no draw has been undone. -/
structure Below (B : Nat) (w w' : World) : Prop where
  os : w'.os = w.os
  tape : w'.tape = w.tape
  output : w'.output = w.output
  size : w.heap.size ≤ w'.heap.size
  block : ∀ k, k < B → w'.heap[k]? = w.heap[k]?
  drawn : w.drawn ≤ w'.drawn

theorem Below.refl (B : Nat) (w : World) : Below B w w := ⟨rfl, rfl, rfl, Nat.le_refl _, fun _ _ => rfl, Nat.le_refl _⟩
theorem Below.trans {B : Nat} {a b c : World} (h : Below B a b) (k : Below B b c) : Below B a c :=
  ⟨k.os.trans h.os, k.tape.trans h.tape, k.output.trans h.output, Nat.le_trans h.size k.size, fun i hi => (k.block i hi).trans (h.block i hi), Nat.le_trans h.drawn k.drawn⟩
theorem Below.mono {B B' : Nat} {w w' : World} (h : Below B w w') (hB : B' ≤ B) : Below B' w w' := ⟨h.os, h.tape, h.output, h.size, fun k hk => h.block k (Nat.lt_of_lt_of_le hk hB), h.drawn⟩
theorem Below.to {B : Nat} {w w' : World} (h : Below B w w') : Go.RowKit.Below B w w' := ⟨h.os, h.tape, h.output, h.size, h.block⟩
theorem Below.alloc {B : Nat} {a w : World} (h : Below B a w) (hB : B ≤ w.heap.size) (o : Obj) : Below B a (w.alloc o) :=
  h.trans ⟨rfl, rfl, rfl, by simp, fun k hk => Go.RowKit.Below.heap_alloc _ _ _ (by omega), Nat.le_refl _⟩

theorem Out.of_below {O : Nat → Prop} {w w' : World} (h : Below w.heap.size w w') : Out O w w' :=
  ⟨h.os, h.tape, h.output, h.size, fun b _ hl => h.block b hl, fun b cur _ hc => ⟨cur, (h.block b (Array.getElem?_eq_some_iff.1 hc).1).trans hc, rfl⟩, h.drawn⟩

/-- Every function is let in; where a round is walked, in that round. -/
def fenceOf (rnd : Option Nat) : Fence := { Fence.wide with round := rnd }

/-- What a round of the caller's loop keeps. -/
structure RFrame (O : Nat → Prop) (Pr : Nat → Nat → Prop) (w w' : World) : Prop where
  os : w'.os = w.os
  tape : w'.tape = w.tape
  output : w'.output = w.output
  size : w.heap.size ≤ w'.heap.size
  other : ∀ b, b < w.heap.size → ¬ O b → w'.heap[b]? = w.heap[b]?
  agree : Agree Pr w w'
  drawn : w.drawn ≤ w'.drawn

/-- Whenever an iterator hands on its next value, the caller's round runs. -/
def RoundOk (P : Program) (l : Nat) (ys : List (List LV)) (J : Nat → Bool → (Nat → Prop) → (Nat → Nat → Prop) → World → Prop) (Pr0 : Nat → Nat → Prop) (B : Nat) : Prop :=
  ∀ (k : Nat) lv, ys[k]? = some lv → ∀ (m : Nat) (O : Nat → Prop) (W : World) (us : List Value) (Pr : Nat → Nat → Prop), J k true O Pr W → (∀ b o, Pr b o → b < W.heap.size ∧ (O b → Pr0 b o) ∧ (Pr0 b o ∨ B ≤ b)) → lv.length = us.length →
    (∀ (i : Nat) l u, lv[i]? = some l → us[i]? = some u → Rd Pr W l u) →
    YieldAt (fenceOf none) m P l us.toArray W fun e W' => ∃ b, e = .returned (.bool b) ∧ RFrame O Pr W W' ∧ J (k + 1) b (fun x => O x ∨ (W.heap.size ≤ x ∧ x < W'.heap.size)) Pr W'

/-- What is asked of a frame's surroundings, once for all. -/
structure Ctx.Ok (C : Ctx) : Prop where
  jab : ∀ k st O PS PS' W W', C.J k st O PS W → Out O W W' → Agree PS W W' → (∀ k o, PS k o → PS' k o) → C.J k st O PS' W'
  rounds : ∀ P l ys, C.yld = some (P, l, ys) → C.rnd = none ∧ RoundOk P l ys C.J C.Pr0 C.mb
  mb : C.mb ≤ C.base

structure Own where
  g : Nat
  cap : Nat
  n : Nat
  size : Nat
  e : Nat

structure Gh where
  β : Nat → Nat → Nat
  Pr : Nat → Nat → Prop
  ow : Nat → Option Own
  /-- Of a row: how many elements it has room for, and their cells (0: it is no row). -/
  rc : Nat → Nat → Nat
  rz : Nat → Nat → Nat
  /-- Blocks that are another's. -/
  O : Nat → Prop := fun _ => False

/-- What a closure has captured. -/
def Rep1 (G : Gh) (W : World) (l : LV) (u : Value) : Prop :=
  match l with
  | .ptr d g off => u = .pointer (some ⟨G.β d g, off, none⟩)
  | l => Rd G.Pr W l u

def RepT (G : Gh) (W : World) (l : LV) (u : Value) : Prop :=
  match l with
  | .ptr d g off => u = .pointer (some ⟨G.β d g, off, none⟩)
  | .dead => True
  | .rs d g lo n sz => G.rz d g = sz ∧ 0 < sz ∧ lo + n ≤ G.rc d g ∧ ∃ A c, u = .slice A n c ∧ n ≤ c ∧ (0 < n ∨ lo = 0 → A = some ⟨G.β d g, lo * sz, none⟩ ∧ c + lo = G.rc d g)
  | .clo f caps => ∃ us : List Value, u = .func (.func f) #[] us.toArray ∧ caps.length = us.length ∧ ∀ (i : Nat) l v, caps[i]? = some l → us[i]? = some v → Rep1 G W l v
  | l => Rd G.Pr W l u

/-- Nothing ahead of B has turned but what lies in X; and there blocks stay as long as they are. -/
structure BelowX (X : Nat → Prop) (B : Nat) (w w' : World) : Prop where
  os : w'.os = w.os
  tape : w'.tape = w.tape
  output : w'.output = w.output
  size : w.heap.size ≤ w'.heap.size
  block : ∀ k, k < B → ¬ X k → w'.heap[k]? = w.heap[k]?
  kept : ∀ k, k < B → ∀ cur e, X k → w.heap[k]? = some (.cells cur e (0, 0)) → ∃ cur', w'.heap[k]? = some (.cells cur' e (0, 0)) ∧ cur'.size = cur.size
  drawn : w.drawn ≤ w'.drawn

theorem BelowX.refl (X : Nat → Prop) (B : Nat) (w : World) : BelowX X B w w := ⟨rfl, rfl, rfl, Nat.le_refl _, fun _ _ _ => rfl, fun _ _ cur _ _ h => ⟨cur, h, rfl⟩, Nat.le_refl _⟩

theorem BelowX.trans {X : Nat → Prop} {B : Nat} {a b c : World} (h : BelowX X B a b) (k : BelowX X B b c) : BelowX X B a c :=
  ⟨k.os.trans h.os, k.tape.trans h.tape, k.output.trans h.output, Nat.le_trans h.size k.size, fun i hi hx => (k.block i hi hx).trans (h.block i hi hx), fun i hi cur e hx hc => by
    obtain ⟨cur1, h1, h2⟩ := h.kept i hi cur e hx hc
    obtain ⟨cur2, h3, h4⟩ := k.kept i hi cur1 e hx h1
    exact ⟨cur2, h3, h4.trans h2⟩, Nat.le_trans h.drawn k.drawn⟩

theorem belowX {X : Nat → Prop} {B : Nat} {w w' : World} (h : Below B w w') : BelowX X B w w' :=
  ⟨h.os, h.tape, h.output, h.size, fun k hk _ => h.block k hk, fun k hk cur _ _ hc => ⟨cur, (h.block k hk).trans hc, rfl⟩, h.drawn⟩

theorem BelowX.below {B : Nat} {w w' : World} (h : BelowX (fun _ => False) B w w') : Below B w w' :=
  ⟨h.os, h.tape, h.output, h.size, fun k hk => h.block k hk id, h.drawn⟩

def TagOK (G : Gh) (s : S) (tg : Tag) (l : LV) (u : Value) : Prop :=
  tg.2 ≤ s.tv tg.1 ∧ (tg.1 ≠ 0 → tg.2 = s.tv tg.1 → ∃ w xs, G.ow tg.1 = some w ∧ u = .slice (some ⟨w.g, 0, none⟩) w.n w.cap ∧ l = .list xs ∧ xs.length = w.n ∧ 0 < w.n ∧ ∀ e ∈ xs, e.length = w.size)

def mark (D : Nat) : Deferred := { target := .collected D, args := #[] }

/-- What stands beside the values. -/
structure Extra (C : Ctx) (G : Gh) (s : S) (ds : List Deferred) (W : World) : Prop where
  ctx : C.Ok
  marks : ∀ d ∈ ds, ∃ D, d = mark D ∧ C.base ≤ D ∧ W.heap[D]? = some (.deferred (some [])) ∧ ¬ G.O D
  rnd : ∀ l, C.rnd = some l → ∃ r, W.heap[l]? = some (.loop r)
  nd : ds.Nodup
  agr : Agree C.Pr0 C.W0 W
  l0 : ∀ x y, y ≤ C.g0 x → G.β x y = C.β0 x y ∧ G.rc x y = C.rc0 x y ∧ G.rz x y = C.rz0 x y
  gle : ∀ x, C.g0 x ≤ s.g x
  dd : ∀ x y, y ≤ C.g0 x → C.D0 x y → s.b x y = none
  yj : C.J s.k s.st G.O G.Pr W
  yl : s.yl = C.yld
  yo4 : ∀ b o, G.Pr b o → G.O b → C.Pr0 b o
  yo1 : ∀ b, G.O b → b < W.heap.size
  yo2 : ∀ d g, (s.b d g).isSome → ¬ G.O (G.β d g)
  yo3 : ∀ tok w, G.ow tok = some w → ¬ G.O w.g

theorem Extra.step {C : Ctx} {G G' : Gh} {s s' : S} {ds : List Deferred} {W W' : World} (h : Extra C G s ds W) (hout : Out G.O W W') (hm : ∀ (D : Nat) o, W.heap[D]? = some o → (∀ cur e f, o ≠ Obj.cells cur e f) → W'.heap[D]? = some o)
    (hp0 : ∀ k o, C.Pr0 k o → G.Pr k o) (hag : Agree G.Pr W W') (hg : ∀ x, s.g x ≤ s'.g x) (hβ : ∀ x y, y ≤ s.g x → G'.β x y = G.β x y ∧ G'.rc x y = G.rc x y ∧ G'.rz x y = G.rz x y)
    (hd : ∀ x y, y ≤ s.g x → s.b x y = none → s'.b x y = none) (hO : G'.O = G.O) (hb : ∀ x y, (s'.b x y).isSome → ¬ G.O (G'.β x y)) (how : ∀ tok w, G'.ow tok = some w → ¬ G.O w.g) (hgh : s'.k = s.k ∧ s'.st = s.st ∧ s'.yl = s.yl) (hpm : ∀ k o, G.Pr k o → G'.Pr k o) (hp4 : ∀ b o, G'.Pr b o → G.Pr b o ∨ W.heap.size ≤ b ∨ ¬ G.O b) : Extra C G' s' ds W' := by
  refine ⟨h.ctx, fun d hd' => ?_, fun l hl => ?_, h.nd, fun x hx => (hag x (hp0 _ _ hx)).trans (h.agr x hx), fun x y hy => ?_, fun x => Nat.le_trans (h.gle x) (hg x), fun x y hy hD => hd x y (Nat.le_trans hy (h.gle x)) (h.dd x y hy hD), ?_, hgh.2.2.trans h.yl, fun b o hp hO' => ?_, fun b hb' => ?_, fun x y hxy => ?_, fun tok w hw => ?_⟩
  · obtain ⟨D, h1, h2, h3, h4⟩ := h.marks d hd'
    exact ⟨D, h1, h2, hm D _ h3 (fun _ _ _ e => by cases e), by rw [hO]; exact h4⟩
  · obtain ⟨r, hr⟩ := h.rnd l hl
    exact ⟨r, hm l _ hr (fun _ _ _ e => by cases e)⟩
  · obtain ⟨e1, e2, e3⟩ := hβ x y (Nat.le_trans hy (h.gle x))
    rw [e1, e2, e3]
    exact h.l0 x y hy
  · rw [hgh.1, hgh.2.1, hO]
    exact h.ctx.jab _ _ _ _ _ _ _ h.yj hout hag hpm
  · rw [hO] at hO'
    rcases hp4 b o hp with h1 | h1 | h1
    · exact h.yo4 b o h1 hO'
    · have := h.yo1 b hO'; omega
    · exact absurd hO' h1
  · rw [hO] at hb'
    exact Nat.lt_of_lt_of_le (h.yo1 b hb') hout.size
  · rw [hO]; exact hb x y hxy
  · rw [hO]; exact how tok w hw

/-- Where a block's cells alone have turned, a block that is none of a frame's stays. -/
theorem keep_old {w w' : World} (h : ∀ k, k < w.heap.size → w'.heap[k]? = w.heap[k]?) : ∀ (D : Nat) o, w.heap[D]? = some o → (∀ cur e f, o ≠ Obj.cells cur e f) → w'.heap[D]? = some o :=
  fun D _ hD _ => (h D (Array.getElem?_eq_some_iff.1 hD).1).trans hD

structure SimG (C : Ctx) (G : Gh) (s : S) (a : Act) (W : World) : Prop where
  ex : Extra C G s a.defers W
  size : a.tmps.size = C.n
  below : C.yld = none → BelowX C.X C.base C.W0 W
  mkd : ∀ d g, (s.b d g).isSome → s.mkd d g = false → C.mb ≤ G.β d g
  base_le : C.base ≤ W.heap.size
  prb : ∀ k o, C.Pr0 k o → k < C.base
  pr0 : ∀ k o, C.Pr0 k o → G.Pr k o
  pr : ∀ k o, G.Pr k o → C.Pr0 k o ∨ (C.mb ≤ k ∧ k < W.heap.size)
  temp : ∀ i, RepT G W (s.t i) (a.tmps.getD i undef)
  tag : ∀ i, TagOK G s (s.o i) (s.t i) (a.tmps.getD i undef)
  box : ∀ d g cells, s.b d g = some cells → (C.base ≤ G.β d g ∨ C.X (G.β d g)) ∧ (∃ cur e, W.heap[G.β d g]? = some (.cells cur e (0, 0)) ∧ cells.length ≤ cur.size ∧ (0 < G.rz d g → cur.size = G.rc d g * G.rz d g ∧ G.rc d g ≤ maxLen) ∧
    ∀ (j : Nat) l tg u, cells[j]? = some (l, tg) → cur[j]? = some u → RepT G W l u ∧ u.oneCell' = true ∧ TagOK G s tg l u ∧ ∀ k ∈ l.keys, k.2 ≤ s.g k.1) ∧ ∀ o, ¬ G.Pr (G.β d g) o
  inj : ∀ d g d' g', (s.b d g).isSome → (s.b d' g').isSome → G.β d g = G.β d' g' → d = d' ∧ g = g'
  gen : ∀ d g, (s.b d g).isSome → g ≤ s.g d
  wf : ∀ i, ∀ k ∈ (s.t i).keys, k.2 ≤ s.g k.1
  own : ∀ tok w, G.ow tok = some w → C.base ≤ w.g ∧ (∃ cur, W.heap[w.g]? = some (.cells cur w.e (0, 0)) ∧ cur.size = w.cap * w.size) ∧ w.n ≤ w.cap ∧ w.cap ≤ maxLen ∧ 0 < w.size ∧
    (∀ o, G.Pr w.g o → o < w.n * w.size) ∧ ∀ d g, (s.b d g).isSome → G.β d g ≠ w.g
  ownne : ∀ tok tok' w w', G.ow tok = some w → G.ow tok' = some w' → tok ≠ tok' → w.g ≠ w'.g
  prx : ∀ k o, G.Pr k o → C.Pr0 k o ∨ C.base ≤ k ∨ C.X k

def Sim (C : Ctx) (s : S) (a : Act) (W : World) : Prop := ∃ G, SimG C G s a W

theorem RepT.of_rd {G : Gh} {W : World} {l : LV} {u : Value} (h : Rd G.Pr W l u) : RepT G W l u := by
  cases h <;> first | exact .v _ ‹_› | exact .agg ‹_› ‹_› ‹_› | exact .list _ _ ‹_› ‹_› ‹_› ‹_› ‹_› | exact .el _ ‹_› ‹_› | exact .fn ‹_› ‹_› ‹_› ‹_› | exact .emp | exact .ifc ‹_› ‹_› | exact .tup ‹_› ‹_›

theorem RepT.rd {G : Gh} {W : World} {l : LV} {u : Value} (h : RepT G W l u) (hl : l.plain = true) : Rd G.Pr W l u := by
  cases l <;> first | exact h | simp [LV.plain] at hl

/-- The tag (0, 0) asks nothing. -/
theorem TagOK.zero {G : Gh} {s : S} {l : LV} {u : Value} : TagOK G s (0, 0) l u := ⟨Nat.zero_le _, fun h => absurd rfl h⟩

theorem S.put_some (s : S) (d : Nat) (l : LV) (tag : Tag) : s.put (some d) l tag = { s with t := upd s.t d l, o := upd s.o d tag } := rfl

section
variable {C : Ctx} {G : Gh} {s : S} {a : Act} {W : World}

theorem SimG.eval_const (v : Value) : RepT G W (ofConst v) v := by
  unfold ofConst
  split
  · split
    · rename_i cs h
      have h' : ∀ u ∈ cs.toList, u.oneCell' = true := fun u hu => Array.all_eq_true_iff_forall_mem.1 h u (by simpa using hu)
      refine RepT.of_rd (.agg (us := cs.toList) (by simp) h' fun i l u hl hu => ?_)
      rw [List.getElem?_map, hu] at hl
      simp only [Option.map_some, Option.some.injEq] at hl
      subst hl
      exact .v u (h' u (List.mem_of_getElem? hu))
    · exact trivial
  · split
    · rename_i cs h
      have h' : ∀ u ∈ cs.toList, u.oneCell' = true := fun u hu => Array.all_eq_true_iff_forall_mem.1 h u (by simpa using hu)
      refine RepT.of_rd (.tup (us := cs.toList) (by simp) fun i l u hl hu => ?_)
      rw [List.getElem?_map, hu] at hl
      simp only [Option.map_some, Option.some.injEq] at hl
      subst hl
      exact .v u (h' u (List.mem_of_getElem? hu))
    · exact trivial
  · rename_i h1 h2
    exact RepT.of_rd (.v v (by cases v <;> first | rfl | exact absurd rfl (h1 _) | exact absurd rfl (h2 _)))

theorem SimG.eval (h : SimG C G s a W) (x : Operand) : RepT G W (s.eval x) (a.eval x) := by
  cases x with
  | tmp t => exact h.temp t
  | const v => exact SimG.eval_const v
  | global g => exact .v _ rfl
  | func f => exact .v _ rfl

theorem SimG.tagE (h : SimG C G s a W) (x : Operand) : TagOK G s (s.tag x) (s.eval x) (a.eval x) := by
  cases x with
  | tmp t => exact h.tag t
  | const v => exact .zero
  | global g => exact .zero
  | func f => exact .zero

theorem ofConst_keys (v : Value) : (ofConst v).keys = [] := by
  unfold ofConst
  split <;> (try split) <;> rfl

theorem SimG.wfE (h : SimG C G s a W) (x : Operand) : ∀ k ∈ (s.eval x).keys, k.2 ≤ s.g k.1 := by
  cases x with
  | tmp t => exact h.wf t
  | const v => intro k hk; rw [show s.eval (.const v) = ofConst v from rfl, ofConst_keys] at hk; cases hk
  | global g => intro k hk; cases hk
  | func f => intro k hk; cases hk

theorem getD_put (a : Act) (d : Nat) (u : Value) (hd : d < a.tmps.size) (i : Nat) : (a.put (some d) u).tmps.getD i undef = if i = d then u else a.tmps.getD i undef := by
  simp only [Act.put, Array.getD_eq_getD_getElem?, Array.getElem?_setIfInBounds]
  by_cases h : d = i
  · subst h; simp [hd]
  · simp [h, Ne.symm h]

/-- Nothing but a temporary is written. -/
theorem SimG.put (h : SimG C G s a W) {d : Nat} {l : LV} {tag : Tag} {u : Value} (hd : d < C.n) (hr : RepT G W l u) (ht : TagOK G s tag l u) (hw : ∀ k ∈ l.keys, k.2 ≤ s.g k.1) :
    SimG C G (s.put (some d) l tag) (a.put (some d) u) W := by
  rw [S.put_some]
  have hd' : d < a.tmps.size := by rw [h.size]; exact hd
  refine { h with ex := h.ex.step (.refl _ _) (fun _ _ h _ => h) h.pr0 (.refl _ _) (fun _ => Nat.le_refl _) (fun _ _ _ => ⟨rfl, rfl, rfl⟩) (fun _ _ _ => id) rfl h.ex.yo2 h.ex.yo3 ⟨rfl, rfl, rfl⟩ (fun _ _ => id) (fun _ _ => .inl), size := ?_, temp := fun i => ?_, tag := fun i => ?_, wf := fun i k hk => ?_, box := h.box }
  · simp [Act.put, h.size]
  · rw [getD_put a d u hd']
    by_cases hi : i = d
    · simp only [upd, hi, if_true]; exact hr
    · simp only [upd, hi, if_false]; exact h.temp i
  · rw [getD_put a d u hd']
    by_cases hi : i = d
    · simp only [upd, hi, if_true]; exact ht
    · simp only [upd, hi, if_false]; exact h.tag i
  · by_cases hi : i = d
    · simp only [upd, hi, if_true] at hk; exact hw _ hk
    · simp only [upd, hi, if_false] at hk; exact h.wf i k hk

theorem SimG.putNone (h : SimG C G s a W) {l : LV} {tag : Tag} {u : Value} : SimG C G (s.put none l tag) (a.put none u) W := h

theorem SimG.put' (h : SimG C G s a W) {dst : Option Nat} {l : LV} {tag : Tag} {u : Value} (hd : ∀ d, dst = some d → d < C.n) (hr : RepT G W l u) (ht : TagOK G s tag l u) (hw : ∀ k ∈ l.keys, k.2 ≤ s.g k.1) :
    SimG C G (s.put dst l tag) (a.put dst u) W := by
  cases dst with
  | none => exact h
  | some d => exact h.put (hd d rfl) hr ht hw
end
end Go.LI
namespace Go.LI
open Go Go.RowKit

/-- A whole's zero is a whole. -/
def zeroKind (z : Value) (agg : Bool) : Bool := match z with
  | .agg _ => agg
  | .tuple _ => false
  | _ => !agg

/-- What the small table tells of a type is so. -/
structure TOk (P : Program) (t : Nat) (ti : TI) (i : TypeInfo) : Prop where
  info : P.info? t = some i
  size : i.size = ti.size
  bytes : i.bytes = ti.bytes
  zero : ∃ z, i.zero = some z ∧ z.cells.toList = ti.zero
  zone : ∀ z ∈ ti.zero, z.oneCell' = true
  zk : ∀ z, i.zero = some z → zeroKind z ti.d.isAgg = true
  ft : ∀ fields, P.underlying t = some (.struct fields) → ∀ (f : Nat) fd x, fields[f]? = some fd → ti.ft[f]? = some x → fd.type = x
  d : match ti.d with
    | .int k => P.underlying t = some (.int k)
    | .bool => P.underlying t = some .bool
    | .str => P.underlying t = some .string
    | .slice e => P.underlying t = some (.slice e)
    | .struct fs => ∃ fields : Array Field, P.underlying t = some (.struct fields) ∧ fields.toList.mapM (fun f => (P.info? f.type).map fun i => (f.offset, i.size)) = some fs
    | .arr e n => P.underlying t = some (.array n e)
    | .other => ∃ d, P.underlying t = some d ∧ (match d with | .struct _ | .array _ _ => false | _ => true) = true

def TabOk (P : Program) (τ : Tab) : Prop := ∀ t ti, τ t = some ti → ∃ i, TOk P t ti i

def EnterSpec (P : Program) (f : Nat) (args : List LV) (r : LV) : Prop :=
  (∀ (us : Array Value) (w : World), (callFunc f us).run P w = .ok (.enter f us) w) ∧
  ∀ (Pr : Nat → Nat → Prop) (W : World) (us : List Value), (∀ k o, Pr k o → k < W.heap.size) → args.length = us.length → (∀ (i : Nat) l u, args[i]? = some l → us[i]? = some u → Rd Pr W l u) →
    Calls P f us.toArray W fun e W' => ∃ u, e = .returned u ∧ Below W.heap.size W W' ∧ Rd (fun k o => Pr k o ∨ (W.heap.size ≤ k ∧ k < W'.heap.size)) W' r u

/-- .. of a function of the runtime's own. -/
def ExtSpec (P : Program) (f : Nat) (args : List LV) (r : LV) : Prop :=
  ∀ (Pr : Nat → Nat → Prop) (W : World) (us : List Value), args.length = us.length → (∀ (i : Nat) l u, args[i]? = some l → us[i]? = some u → Rd Pr W l u) →
    ∃ u, (callFunc f us.toArray).run P W = .ok (.value u) W ∧ Rd Pr W r u

def CallSpec (P : Program) (f : Nat) (args : List LV) (r : LV) : Prop := EnterSpec P f args r ∨ ExtSpec P f args r

/-- All boxes to which it leads are among the first n that were lent. -/
def KeysIn (n : Nat) (l : LV) : Prop := ∀ k ∈ l.keys, ∃ i, i < n ∧ k = (lentBase + i, 0)

/-- The boxes that were lent, as they lie. -/
def ObjsAt (G : Gh) (W : World) (objs : List (Option (List LV))) : Prop :=
  (∀ (i : Nat) cells, objs[i]? = some (some cells) → (∃ cur e, W.heap[G.β (lentBase + i) 0]? = some (.cells cur e (0, 0)) ∧ cells.length ≤ cur.size ∧ (0 < G.rz (lentBase + i) 0 → cur.size = G.rc (lentBase + i) 0 * G.rz (lentBase + i) 0 ∧ G.rc (lentBase + i) 0 ≤ maxLen) ∧
    ∀ (j : Nat) l u, cells[j]? = some l → cur[j]? = some u → RepT G W l u ∧ u.oneCell' = true) ∧ ∀ o, ¬ G.Pr (G.β (lentBase + i) 0) o) ∧
  ∀ (i j : Nat) c c', objs[i]? = some (some c) → objs[j]? = some (some c') → G.β (lentBase + i) 0 = G.β (lentBase + j) 0 → i = j

/-- f, called with such arguments and lent boxes that hold such: it returns, and they hold that. -/
def LendSpec (P : Program) (f : Nat) (args : List LV) (objs : List (List LV)) (r : LV) (objs' : List (Option (List LV))) : Prop :=
  (∀ (us : Array Value) (w : World), (callFunc f us).run P w = .ok (.enter f us) w) ∧
  objs.length ≤ objs'.length ∧ (∀ l ∈ args, KeysIn objs.length l) ∧ (∀ o ∈ objs, ∀ l ∈ o, KeysIn objs.length l) ∧ KeysIn objs'.length r ∧ (∀ o, some o ∈ objs' → ∀ l ∈ o, KeysIn objs'.length l) ∧
  ∀ (G : Gh) (W : World) (us : List Value), (∀ k o, G.Pr k o → k < W.heap.size) → ObjsAt G W (objs.map some) → args.length = us.length → (∀ (i : Nat) l u, args[i]? = some l → us[i]? = some u → RepT G W l u) →
    Calls P f us.toArray W fun e W' => ∃ u G', e = .returned u ∧ BelowX (fun k => ∃ i, i < objs.length ∧ k = G.β (lentBase + i) 0) W.heap.size W W' ∧
      (∀ i, i < objs.length → G'.β (lentBase + i) 0 = G.β (lentBase + i) 0 ∧ G'.rc (lentBase + i) 0 = G.rc (lentBase + i) 0 ∧ G'.rz (lentBase + i) 0 = G.rz (lentBase + i) 0) ∧
      (∀ k o, G.Pr k o → G'.Pr k o) ∧ (∀ k o, G'.Pr k o → G.Pr k o ∨ (W.heap.size ≤ k ∧ k < W'.heap.size)) ∧
      ObjsAt G' W' objs' ∧ (∀ (i : Nat) c, objs'[i]? = some (some c) → W.heap.size ≤ G'.β (lentBase + i) 0 ∨ ∃ j, j < objs.length ∧ G'.β (lentBase + i) 0 = G.β (lentBase + j) 0) ∧
      RepT G' W' r u

/-- A method with a receiver that is a value. -/
def MethOk (P : Program) (t : Nat) (name : String) (f : Nat) : Prop := ∀ (v : Value) (W : World), (method (P.types.size + Made.depth) t v name).run P W = .ok (f, v) W

/-- Structs of a type are compared part by part. -/
def EqOk (P : Program) (t n : Nat) : Prop :=
  P.eqGuardType P.depth t = false ∧ ∀ (Pr : Nat → Nat → Prop) (W : World) (xs ys : List LV) (u v : Value) (b : Bool), xs.length = n → eqLs xs ys = some b → Rd Pr W (.agg xs) u → Rd Pr W (.agg ys) v → (Op.equal t u v).run P W = .ok b W

def EnvOk (P : Program) (Γ : Env) : Prop :=
  (∀ f args r, Γ.call f args = some r → CallSpec P f args r) ∧ ((∀ t name f, Γ.meth t name = some f → MethOk P t name f) ∧ ∀ t n, Γ.eqs t = some n → EqOk P t n) ∧
  ∀ f args look x, Γ.lend f args look = some x → x.ks.length = x.objs.length ∧ x.ks.Nodup ∧ (∀ (i : Nat) k o, x.ks[i]? = some k → x.objs[i]? = some o → look k.1 k.2 = some (o.map (LV.un x.ks))) ∧
    ∃ args', args = args'.map (LV.un x.ks) ∧ LendSpec P f args' x.objs x.r x.objs'

theorem EnvOk.own {P : Program} {Γ : Env} (h : EnvOk P Γ) : EnvOk P Γ.own := ⟨h.1, h.2.1, fun _ _ _ _ hx => by cases hx⟩

theorem Rep1.move {G G' : Gh} {W W' : World} {l : LV} {u : Value} (h : Rep1 G W l u) (ha : Agree G.Pr W W') (hp : ∀ k o, G.Pr k o → G'.Pr k o) (hβ : ∀ k ∈ l.key1, G'.β k.1 k.2 = G.β k.1 k.2) : Rep1 G' W' l u := by
  cases l
  case ptr d g off =>
    have := hβ (d, g) (by simp [LV.key1])
    simp only [Rep1] at h ⊢
    rw [h, this]
  all_goals exact Rd.move h ha hp

/-- A reading holds on where what it reads is as it was. -/
theorem RepT.move' {G G' : Gh} {W W' : World} {l : LV} {u : Value} (h : RepT G W l u) (ha : Agree G.Pr W W') (hp : ∀ k o, G.Pr k o → G'.Pr k o)
    (hβ : ∀ k ∈ l.keys, G'.β k.1 k.2 = G.β k.1 k.2 ∧ G'.rc k.1 k.2 = G.rc k.1 k.2 ∧ G'.rz k.1 k.2 = G.rz k.1 k.2) : RepT G' W' l u := by
  cases l
  case ptr d g off =>
    have := (hβ (d, g) (by simp [LV.keys])).1
    simp only [RepT] at h ⊢
    rw [h, this]
  case dead => trivial
  case rs d g lo n sz =>
    obtain ⟨h1, h2, h3⟩ := hβ (d, g) (by simp [LV.keys])
    simp only [RepT] at h ⊢
    rw [h1, h2, h3]
    exact h
  case clo f caps =>
    obtain ⟨us, h1, h2, h3⟩ := h
    refine ⟨us, h1, h2, fun i l v hl hv => (h3 i l v hl hv).move ha hp fun k hk => (hβ k ?_).1⟩
    simp only [LV.keys, List.mem_flatMap]
    exact ⟨l, List.mem_of_getElem? hl, hk⟩
  all_goals exact Rd.move h ha hp

theorem RepT.move {G G' : Gh} {W W' : World} {l : LV} {u : Value} (h : RepT G W l u) (ha : Agree G.Pr W W') (hp : ∀ k o, G.Pr k o → G'.Pr k o) (hβ : G'.β = G.β) (hc : G'.rc = G.rc) (hz : G'.rz = G.rz) : RepT G' W' l u :=
  h.move' ha hp fun k _ => by rw [hβ, hc, hz]; exact ⟨rfl, rfl, rfl⟩

theorem agree_of_below {Pr : Nat → Nat → Prop} {W W' : World} (hb : Below W.heap.size W W') (hp : ∀ k o, Pr k o → k < W.heap.size) : Agree Pr W W' :=
  fun a ha => World.cell?_of_block (w := W) (hb.block a.block (hp _ _ ha))

section
variable {C : Ctx} {G : Gh} {s : S} {a : Act} {W : World}

theorem keys_of_rd {Pr : Nat → Nat → Prop} {l : LV} {u : Value} (h : Rd Pr W l u) : l.keys = [] := by cases h <;> rfl

theorem SimG.prlt (h : SimG C G s a W) : ∀ k o, G.Pr k o → k < W.heap.size := fun k o hk => by
  rcases h.pr k o hk with h1 | h1
  · exact Nat.lt_of_lt_of_le (h.prb k o h1) h.base_le
  · exact h1.2

/-- New memory beside; nothing that was there has turned. -/
theorem SimG.grow (h : SimG C G s a W) {W' : World} (hb : Below W.heap.size W W') :
    SimG C { G with Pr := fun k o => G.Pr k o ∨ (W.heap.size ≤ k ∧ k < W'.heap.size) } s a W' := by
  have hag := agree_of_below hb h.prlt
  have hlt : ∀ k, (∃ cur e, W.heap[k]? = some (Obj.cells cur e (0, 0))) → k < W.heap.size := fun k ⟨cur, e, hk⟩ => (Array.getElem?_eq_some_iff.1 hk).1
  refine ⟨h.ex.step (.of_below hb) (keep_old hb.block) h.pr0 hag (fun _ => Nat.le_refl _) (fun _ _ _ => ⟨rfl, rfl, rfl⟩) (fun _ _ _ => id) rfl h.ex.yo2 h.ex.yo3 ⟨rfl, rfl, rfl⟩ (fun _ _ => .inl) (fun b o hp => hp.imp id (fun h => .inl h.1)), h.size, fun hy => (h.below hy).trans (belowX (hb.mono h.base_le)), h.mkd, Nat.le_trans h.base_le hb.size, h.prb, fun k o hk => .inl (h.pr0 k o hk), ?_, ?_, h.tag, ?_, h.inj, h.gen, h.wf, ?_, h.ownne, fun k o hk => hk.elim (h.prx k o) (fun h1 => .inr (.inl (Nat.le_trans h.base_le h1.1)))⟩
  · intro k o hk
    rcases hk with hk | hk
    · exact (h.pr k o hk).imp id (fun h1 => ⟨h1.1, Nat.lt_of_lt_of_le h1.2 hb.size⟩)
    · exact .inr ⟨Nat.le_trans h.ex.ctx.mb (Nat.le_trans h.base_le hk.1), hk.2⟩
  · intro i
    exact (h.temp i).move hag (fun _ _ => .inl) rfl rfl rfl
  · intro d g cells hd
    obtain ⟨h1, ⟨cur, e, hh, hsz, hcz, hr⟩, h3⟩ := h.box d g cells hd
    have hl := (Array.getElem?_eq_some_iff.1 hh).1
    refine ⟨h1, ⟨cur, e, (hb.block _ hl).trans hh, hsz, hcz, fun j l tg u h4 h5 => ?_⟩, fun o ho => ?_⟩
    · obtain ⟨a1, a2, a3, a4⟩ := hr j l tg u h4 h5
      exact ⟨a1.move hag (fun _ _ => .inl) rfl rfl rfl, a2, a3, a4⟩
    · rcases ho with ho | ho
      · exact h3 o ho
      · exact absurd hl (by have := ho.1; simp only at this ⊢; omega)
  · intro tok w hw
    obtain ⟨h1, ⟨cur, hh, hsz⟩, h2, h3, h4, h5, h6⟩ := h.own tok w hw
    have hl := (Array.getElem?_eq_some_iff.1 hh).1
    refine ⟨h1, ⟨cur, (hb.block _ hl).trans hh, hsz⟩, h2, h3, h4, fun o ho => ?_, h6⟩
    rcases ho with ho | ho
    · exact h5 o ho
    · exact absurd hl (by omega)

variable {P : Program} {τ : Tab} {Γ : Env} {K : Act → World → Prop} {Q : Exit → Act → World → Prop}

/-- An operation that only yields a value. -/
theorem wp_value {o : Oper} {u : Value} (hr : (execOp a.eval o).run P W = .ok (.value u) W) (hk : K (a.put o.dst u) W) : o.wp P a W K Q := by
  unfold Oper.wp
  rw [hr]
  exact hk

def DstOk (C : Ctx) (o : Oper) : Prop := ∀ d, o.dst = some d → d < C.n

theorem ptr_of_asList {G : Gh} {W : World} {l : LV} {u : Value} {xs : List (List LV)} (h : RepT G W l u) (hl : l.asList = some xs) : Rd G.Pr W (.list xs) u := by
  cases l <;> first | exact Rd.asList h hl | simp [LV.asList] at hl

theorem sim_move (h : SimG C G s a W) {o : Oper} {x : Operand} (ho : o.op = .move x ∨ o.op = .assign x) (hd : DstOk C o)
    (hk : ∀ a' W', Sim C (s.put o.dst (s.eval x) (s.tag x)) a' W' → K a' W') : o.wp P a W K Q := by
  refine wp_value (u := a.eval x) ?_ (hk _ _ ⟨G, h.put' hd (h.eval x) (h.tagE x) (h.wfE x)⟩)
  rcases ho with ho | ho <;> simp [execOp, ho]

theorem rd_v {G : Gh} {W : World} {x u : Value} (h : RepT G W (.v x) u) : u = x := by cases (show Rd G.Pr W (.v x) u from h); rfl

theorem sim_pick (h : SimG C G s a W) {o : Oper} {c x y : Operand} {b : Bool} (ho : o.op = .pick c x y) (hd : DstOk C o) (hc : s.eval c = .v (.bool b))
    (hk : ∀ a' W', Sim C (s.put o.dst (if b then s.eval x else s.eval y) (if b then s.tag x else s.tag y)) a' W' → K a' W') : o.wp P a W K Q := by
  have hcv : a.eval c = .bool b := rd_v (by rw [← hc]; exact h.eval c)
  refine wp_value (u := if b then a.eval x else a.eval y) ?_ (hk _ _ ⟨G, h.put' hd ?_ ?_ ?_⟩)
  · cases b <;> simp [execOp, ho, hcv, asBool]
  · cases b
    · exact h.eval y
    · exact h.eval x
  · cases b
    · exact h.tagE y
    · exact h.tagE x
  · cases b
    · exact h.wfE y
    · exact h.wfE x

/-- A value that is memory-free, and its own. -/
theorem sim_val (h : SimG C G s a W) {o : Oper} {v : Value} (hr : (execOp a.eval o).run P W = .ok (.value v) W) (hv : v.oneCell' = true) (hd : DstOk C o)
    (hk : ∀ a' W', Sim C (s.put o.dst (.v v)) a' W' → K a' W') : o.wp P a W K Q :=
  wp_value hr (hk _ _ ⟨G, h.put' hd (RepT.of_rd (.v v hv)) .zero (fun _ hk => by cases hk)⟩)

/-- Any value that reads so. -/
theorem sim_rd (h : SimG C G s a W) {o : Oper} {l : LV} {v : Value} (hr : (execOp a.eval o).run P W = .ok (.value v) W) (hv : Rd G.Pr W l v) (hd : DstOk C o)
    (hk : ∀ a' W', Sim C (s.put o.dst l) a' W' → K a' W') : o.wp P a W K Q :=
  wp_value hr (hk _ _ ⟨G, h.put' hd (RepT.of_rd hv) .zero (fun k hk => by rw [keys_of_rd hv] at hk; cases hk)⟩)
end
end Go.LI
namespace Go.LI
open Go Go.RowKit

section
variable {C : Ctx} {G : Gh} {s : S} {a : Act} {W : World}
variable {P : Program} {τ : Tab} {Γ : Env} {K : Act → World → Prop} {Q : Exit → Act → World → Prop}

theorem TOk.run_isAgg {t : Nat} {ti : TI} {i : TypeInfo} (h : TOk P t ti i) : (isAgg t).run P W = .ok ti.d.isAgg W := by
  have hd := h.d
  cases htd : ti.d <;> simp only [htd] at hd
  case struct fs =>
    obtain ⟨fields, hf, _⟩ := hd
    simp [isAgg, underlying, hf, TD.isAgg]
  case other =>
    obtain ⟨d, hf, h2⟩ := hd
    cases d <;> simp_all [isAgg, underlying, TD.isAgg]
  all_goals simp [isAgg, underlying, hd, TD.isAgg]

theorem TOk.run_sizeOf {t : Nat} {ti : TI} {i : TypeInfo} (h : TOk P t ti i) : (sizeOf t).run P W = .ok ti.size W := by
  simp [sizeOf, typeInfo, h.info, h.size]

theorem Addr.add_zero'' (x : Addr) : x.add 0 = x := by simp [Addr.add]

theorem run_loadAt {t : Nat} {ti : TI} {i : TypeInfo} (h : TOk P t ti i) (x : Addr) (U : Nat → Value) (hc : ∀ j, j < ti.size → W.cell? (x.add j) = some (U j)) (h1 : ti.d.isAgg = false → ti.size = 1) :
    (Instr.loadAt t (.pointer (some x))).run P W = .ok (if ti.d.isAgg then .agg ((List.range ti.size).map U).toArray else U 0) W := by
  cases hg : ti.d.isAgg with
  | true => simp [Instr.loadAt, Instr.sureAddr, loadVar, h.run_isAgg, h.run_sizeOf, hg, run_loadCells W x ti.size U hc]
  | false =>
    have hc0 := hc 0 (by rw [h1 hg]; omega)
    rw [Addr.add_zero''] at hc0
    simp [Instr.loadAt, Instr.sureAddr, loadVar, h.run_isAgg, hg, hc0]

/-- What 'part' takes of cells, and what the machine loads there. -/
theorem part_rd {Pr : Nat → Nat → Prop} {ti : TI} {cs : List LV} {l : LV} {U : Nat → Value} (hp : part ti.d.isAgg ti.size cs = some l)
    (h1 : ∀ (i : Nat) l, cs[i]? = some l → (U i).oneCell' = true) (h : ∀ (i : Nat) l, cs[i]? = some l → Rd Pr W l (U i)) :
    Rd Pr W l (if ti.d.isAgg then .agg ((List.range ti.size).map U).toArray else U 0) ∧ ti.size ≤ cs.length ∧ (ti.d.isAgg = false → ti.size = 1) := by
  unfold part at hp
  cases hg : ti.d.isAgg with
  | true =>
    simp only [hg, if_true] at hp ⊢
    split at hp
    · rename_i hle
      simp only [Option.some.injEq] at hp
      subst hp
      refine ⟨.agg (by simp; omega) (fun u hu => ?_) (fun i l u hl hu => ?_), hle, by simp⟩
      · obtain ⟨j, hj, rfl⟩ := List.mem_map.1 hu
        have hj' : j < cs.length := by have := List.mem_range.1 hj; omega
        exact h1 j _ (List.getElem?_eq_getElem hj')
      · rw [List.getElem?_take] at hl
        split at hl
        · rename_i hi
          rw [List.getElem?_map, List.getElem?_range hi] at hu
          simp only [Option.map_some, Option.some.injEq] at hu
          subst hu
          exact h i l hl
        · cases hl
    · cases hp
  | false =>
    simp only [hg, Bool.false_eq_true, if_false] at hp ⊢
    split at hp
    · rename_i c r
      split at hp
      · rename_i hn
        simp only [Option.some.injEq] at hp
        subst hp
        exact ⟨h 0 c rfl, by simp [hn], fun _ => hn⟩
      · cases hp
    · cases hp

theorem sim_load_el (h : SimG C G s a W) {o : Oper} {t : Nat} {x : Operand} {ti : TI} {i : TypeInfo} {cs : List LV} {l : LV} (hT : TOk P t ti i) (ho : o.op = .load t x) (hd : DstOk C o) (hx : s.eval x = .el cs)
    (hp : part ti.d.isAgg ti.size cs = some l) (hk : ∀ a' W', Sim C (s.put o.dst l) a' W' → K a' W') : o.wp P a W K Q := by
  have hr : Rd G.Pr W (.el cs) (a.eval x) := by have := h.eval x; rw [hx] at this; exact this
  generalize hax : a.eval x = ax at hr
  cases hr with
  | el U ha hh =>
    rename_i ad
    obtain ⟨h2, h3, h4⟩ := part_rd (W := W) hp (fun i l hi => (ha i l hi).2.1) hh
    refine sim_rd h (v := _) ?_ h2 hd hk
    have hrun := run_loadAt (W := W) hT ad U (fun j hj => (ha j _ (List.getElem?_eq_getElem (by omega))).1) h4
    simp [execOp, ho, hax, hrun]

theorem add_lit (g p k : Nat) : (⟨g, p, none⟩ : Addr).add k = ⟨g, p + k, none⟩ := by unfold Addr.add; split <;> simp_all

theorem cell_box {g : Nat} {cur : Array Value} {e : Nat} (hh : W.heap[g]? = some (.cells cur e (0, 0))) (k : Nat) : W.cell? ⟨g, k, none⟩ = cur[k]? := by simp [World.cell?, hh]

/-- What lies in a box from a place on. -/
theorem SimG.boxAt (h : SimG C G s a W) {d g : Nat} {cells : List (LV × Tag)} (hb : s.b d g = some cells) : ∃ cur e, W.heap[G.β d g]? = some (.cells cur e (0, 0)) ∧ cells.length ≤ cur.size ∧
    ∀ (j : Nat) q, cells[j]? = some q → cur[j]? = some (cur.getD j undef) ∧ RepT G W q.1 (cur.getD j undef) ∧ (cur.getD j undef).oneCell' = true ∧ TagOK G s q.2 q.1 (cur.getD j undef) ∧ ∀ k ∈ q.1.keys, k.2 ≤ s.g k.1 := by
  obtain ⟨_, ⟨cur, e, hh, hsz, _, hcell⟩, _⟩ := h.box d g cells hb
  refine ⟨cur, e, hh, hsz, fun j q hq => ?_⟩
  have h2 : j < cur.size := Nat.lt_of_lt_of_le (List.getElem?_eq_some_iff.1 hq).1 hsz
  have h3 : cur[j]? = some (cur.getD j undef) := by simp [h2]
  exact ⟨h3, hcell j q.1 q.2 _ hq h3⟩

/-- A whole that is taken of cells, all plain. -/
theorem SimG.loadPart (h : SimG C G s a W) {d g off : Nat} {ti : TI} {cells : List (LV × Tag)} {l : LV} (hb : s.b d g = some cells) (hp : part ti.d.isAgg ti.size ((cells.drop off).map (·.1)) = some l)
    (hpl : ¬ (ti.d.isAgg = true ∧ ((cells.drop off).take ti.size).all (fun c => c.1.plain) = false)) :
    ∃ cur e, W.heap[G.β d g]? = some (.cells cur e (0, 0)) ∧ (∀ j, j < ti.size → cur[off + j]? = some (cur.getD (off + j) undef)) ∧ (ti.d.isAgg = false → ti.size = 1) ∧
      RepT G W l (if ti.d.isAgg then .agg ((List.range ti.size).map fun j => cur.getD (off + j) undef).toArray else cur.getD (off + 0) undef) ∧ (∀ k ∈ l.keys, k.2 ≤ s.g k.1) ∧
      TagOK G s (if ti.d.isAgg then (0, 0) else ((cells[off]?).map (·.2)).getD (0, 0)) l (if ti.d.isAgg then .agg ((List.range ti.size).map fun j => cur.getD (off + j) undef).toArray else cur.getD (off + 0) undef) := by
  obtain ⟨cur, e, hh, hsz, hat⟩ := h.boxAt hb
  refine ⟨cur, e, hh, ?_⟩
  cases hg : ti.d.isAgg with
  | true =>
    rw [hg] at hp hpl
    unfold part at hp
    simp only [if_true] at hp
    split at hp
    · rename_i hle
      simp only [Option.some.injEq] at hp
      subst hp
      rw [List.length_map, List.length_drop] at hle
      have hall : ((cells.drop off).take ti.size).all (fun c => c.1.plain) = true := by
        cases hb : ((cells.drop off).take ti.size).all (fun c => c.1.plain) with
        | true => rfl
        | false => exact absurd ⟨rfl, hb⟩ hpl
      have hget : ∀ j, j < ti.size → ∃ q, cells[off + j]? = some q ∧ ((cells.drop off).take ti.size)[j]? = some q := by
        intro j hj
        have hlt : off + j < cells.length := by omega
        refine ⟨cells[off + j], List.getElem?_eq_getElem hlt, ?_⟩
        rw [List.getElem?_take, if_pos hj, List.getElem?_drop]
        exact List.getElem?_eq_getElem hlt
      have hrd : ∀ j q, j < ti.size → cells[off + j]? = some q → Rd G.Pr W q.1 (cur.getD (off + j) undef) ∧ (cur.getD (off + j) undef).oneCell' = true ∧ cur[off + j]? = some (cur.getD (off + j) undef) := by
        intro j q hj hq
        obtain ⟨q', h1, h2⟩ := hget j hj
        rw [hq] at h1
        obtain rfl : q = q' := by injection h1
        obtain ⟨b1, b2, b3, _⟩ := hat _ q hq
        exact ⟨RepT.rd b2 (List.all_eq_true.1 hall q (List.mem_of_getElem? h2)), b3, b1⟩
      refine ⟨fun j hj => ?_, by simp, ?_, ?_, ?_⟩
      · obtain ⟨q, hq, _⟩ := hget j hj
        exact (hrd j q hj hq).2.2
      · simp only [if_true]
        refine RepT.of_rd (.agg (by simp; omega) (fun u hu => ?_) (fun i l u hl hu => ?_))
        · obtain ⟨j, hj, rfl⟩ := List.mem_map.1 hu
          obtain ⟨q, hq, _⟩ := hget j (List.mem_range.1 hj)
          exact (hrd j q (List.mem_range.1 hj) hq).2.1
        · rw [List.getElem?_take] at hl
          split at hl
          · rename_i hi
            rw [List.getElem?_map, List.getElem?_range hi] at hu
            simp only [Option.map_some, Option.some.injEq] at hu
            subst hu
            obtain ⟨q, hq, _⟩ := hget i hi
            rw [List.getElem?_map, List.getElem?_drop, hq] at hl
            simp only [Option.map_some, Option.some.injEq] at hl
            subst hl
            exact (hrd i q hi hq).1
          · cases hl
      · intro k hk; cases hk
      · exact .zero
    · cases hp
  | false =>
    rw [hg] at hp
    unfold part at hp
    simp only [Bool.false_eq_true, if_false] at hp
    split at hp
    · rename_i c r hcr
      split at hp
      · rename_i hn
        simp only [Option.some.injEq] at hp
        subst hp
        have hc0 : ((cells.drop off).map (·.1))[0]? = some c := by rw [hcr]; rfl
        rw [List.getElem?_map, List.getElem?_drop, Nat.add_zero] at hc0
        obtain ⟨q, hq, hqc⟩ := Option.map_eq_some_iff.1 hc0
        subst hqc
        obtain ⟨b1, b2, b3, b4, b5⟩ := hat off q hq
        simp only [Bool.false_eq_true, if_false, Nat.add_zero, hq, Option.map_some, Option.getD_some]
        exact ⟨fun j hj => by rw [show j = 0 by omega, Nat.add_zero]; exact b1, fun _ => hn, b2, b5, b4⟩
      · cases hp
    · cases hp

theorem sim_load_ptr (h : SimG C G s a W) {o : Oper} {t : Nat} {x : Operand} {ti : TI} {i : TypeInfo} {d g off : Nat} {cells : List (LV × Tag)} {l : LV} (hT : TOk P t ti i) (ho : o.op = .load t x) (hd : DstOk C o) (hx : s.eval x = .ptr d g off)
    (hb : s.b d g = some cells) (hpl : ¬ (ti.d.isAgg = true ∧ ((cells.drop off).take ti.size).all (fun c => c.1.plain) = false)) (hp : part ti.d.isAgg ti.size ((cells.drop off).map (·.1)) = some l)
    (hk : ∀ a' W', Sim C (s.put o.dst l (if ti.d.isAgg then (0, 0) else ((cells[off]?).map (·.2)).getD (0, 0))) a' W' → K a' W') : o.wp P a W K Q := by
  have hr : a.eval x = .pointer (some ⟨G.β d g, off, none⟩) := by have := h.eval x; rw [hx] at this; exact this
  obtain ⟨cur, e, hh, hc, h1, h2, h3, h4⟩ := h.loadPart hb hp hpl
  have hrun := run_loadAt (W := W) hT ⟨G.β d g, off, none⟩ (fun j => cur.getD (off + j) undef) (fun j hj => by
    rw [add_lit, cell_box hh]
    exact hc j hj) h1
  exact wp_value (u := _) (by simp only [execOp, ho, hr, Sem.run_bind, hrun]; rfl) (hk _ _ ⟨G, h.put' hd h2 h4 h3⟩)
end
end Go.LI
