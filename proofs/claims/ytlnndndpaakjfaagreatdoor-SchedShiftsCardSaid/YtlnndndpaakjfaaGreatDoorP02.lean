/- Texts of a small semantics over the model and of specifications of functions, joined: LIOps3. -/
import Derived.Test.YtlnndndpaakjfaaGreatDoorP01
import Derived.Laws.Strings
import Derived.Laws.CopyRow
set_option linter.unusedSimpArgs false
set_option linter.unusedVariables false
namespace Go.LI
open Go Go.RowKit

section
variable {C : Ctx} {G : Gh} {s : S} {a : Act} {W : World}
variable {P : Program} {τ : Tab} {Γ : Env} {K : Act → World → Prop} {Q : Exit → Act → World → Prop}

/-! ### arithmetic -/
theorem bytes_beq (x y : ByteArray) : (x.toList == y.toList) = decide (x = y) := by
  rw [ByteArray.toList_eq, ByteArray.toList_eq, Bool.eq_iff_iff]
  simp only [beq_iff_eq, decide_eq_true_eq]
  constructor
  · intro h
    have : x.data = y.data := Array.ext' h
    cases x; cases y; simp_all
  · rintro rfl; rfl

theorem guard_none {op : BinOp} {t : TypeId} {x y : Operand} {u v : Value} (h : ∀ cs cs', ¬ (u = .agg cs ∧ v = .agg cs')) (h2 : ¬ (u = .nilIface ∧ v = .nilIface)) : (eqGuard op t x y u v).run P W = .ok () W := by
  unfold eqGuard
  cases op <;> simp <;> (cases u <;> cases v <;> simp_all)

theorem run_equalIn_bool {t : TypeId} (hu : P.underlying t = some .bool) (d : Nat) (x y : Bool) : (Op.equalIn (d + 1) t (.bool x) (.bool y)).run P W = .ok (x == y) W := by
  simp [Op.equalIn, run_underlying hu]

theorem run_binOp {op : BinOp} {t : TypeId} {u v r : Value} (h : binOpV op u v = some r)
    (hb : ∀ b, u = .bool b → P.underlying t = some .bool) : (binOp op t u v).run P W = .ok r W ∧ r.oneCell' = true := by
  unfold binOpV at h
  split at h
  · rename_i k n k' m
    split at h
    · split at h
      · rename_i h0
        simp only [Option.some.injEq] at h
        subst h
        have : ¬ m < 0 := by omega
        simp [binOp, Op.shift, this, Value.oneCell']
      · cases h
    · split at h
      · rename_i h0
        simp only [Option.some.injEq] at h
        subst h
        have : ¬ m < 0 := by omega
        simp [binOp, Op.shift, this, Value.oneCell']
      · cases h
    rename_i hnl hnr
    split at h
    · rename_i hk
      subst hk
      unfold intOp at h
      cases op <;> simp only at h
      case quo =>
        split at h
        · cases h
        · rename_i hm
          simp only [Option.some.injEq] at h
          subst h
          simp [binOp, Op.intDiv, hm, Value.oneCell']
      case rem =>
        split at h
        · cases h
        · rename_i hm
          simp only [Option.some.injEq] at h
          subst h
          simp [binOp, Op.intDiv, hm, Value.oneCell']
      all_goals first
        | (cases h; done)
        | (simp only [Option.some.injEq] at h; subst h; simp [binOp, Op.intArith, Op.intCmp, Op.intBits, Value.oneCell', bne, Int.beq_eq_decide_eq]; done)
        | (simp only [Option.some.injEq] at h; subst h; refine ⟨?_, rfl⟩; simp only [binOp, Op.intCmp, ne_eq, not_true_eq_false, if_false, Sem.run_pure]; try rfl)
    · cases h
  · rename_i x y
    cases op <;> simp only at h
    case add =>
      split at h
      · rename_i hs
        simp only [Option.some.injEq] at h
        subst h
        refine ⟨?_, rfl⟩
        have hi : ¬ ((x.size + y.size : Nat) : Int) > IntKind.i64.max := by
          have : IntKind.i64.max = 9223372036854775807 := by rfl
          rw [this]; omega
        simp only [binOp, Op.stringOp, hi, if_false, Sem.run_pure]
      · cases h
    all_goals first
      | (cases h; done)
      | (simp only [Option.some.injEq] at h; subst h; simp [binOp, Op.stringOp, bytes_beq, Value.oneCell'])
  · rename_i x y
    have hu := hb x rfl
    cases op <;> simp only at h
    all_goals first
      | (cases h; done)
      | (simp only [Option.some.injEq] at h; subst h; refine ⟨?_, rfl⟩; simp only [binOp]; simp [Op.equal, Op.maxDepth, run_equalIn_bool hu])
  · cases h

theorem rd_vv (h : SimG C G s a W) {x : Operand} {u : Value} (hx : s.eval x = .v u) : a.eval x = u := rd_v (by rw [← hx]; exact h.eval x)

theorem not_agg_of (h : SimG C G s a W) {x : Operand} {u : Value} (hx : s.eval x = .v u) : u.oneCell' = true := by
  have := h.eval x
  rw [hx] at this
  cases (show Rd G.Pr W (.v u) (a.eval x) from this)
  assumption

theorem sim_binOp (h : SimG C G s a W) {o : Oper} {op : BinOp} {t t' : TypeId} {x y : Operand} {u v r : Value} (ho : o.op = .binOp op t x y t') (hd : DstOk C o) (hx : s.eval x = .v u) (hy : s.eval y = .v v)
    (hr : binOpV op u v = some r) (hb : ∀ b, u = .bool b → P.underlying t = some .bool) (hk : ∀ a' W', Sim C (s.put o.dst (.v r)) a' W' → K a' W') : o.wp P a W K Q := by
  obtain ⟨h1, h2⟩ := run_binOp (W := W) hr hb
  refine sim_val h (v := r) ?_ h2 hd hk
  have hg : (eqGuard op t x y u v).run P W = .ok () W := guard_none (fun cs cs' => by rintro ⟨rfl, _⟩; simp [binOpV] at hr) (by rintro ⟨rfl, _⟩; simp [binOpV] at hr)
  simp [execOp, ho, rd_vv h hx, rd_vv h hy, hg, h1]

theorem sim_not (h : SimG C G s a W) {o : Oper} {t : TypeId} {x : Operand} {b : Bool} (ho : o.op = .unOp .not t x) (hd : DstOk C o) (hx : s.eval x = .v (.bool b)) (hk : ∀ a' W', Sim C (s.put o.dst (.v (.bool (!b)))) a' W' → K a' W') : o.wp P a W K Q :=
  sim_val h (v := .bool (!b)) (by simp [execOp, ho, rd_vv h hx, Op.unary]) rfl hd hk

theorem sim_neg (h : SimG C G s a W) {o : Oper} {t : TypeId} {x : Operand} {k : IntKind} {n : Int} (ho : o.op = .unOp .neg t x) (hd : DstOk C o) (hx : s.eval x = .v (.int k n)) (hk : ∀ a' W', Sim C (s.put o.dst (.v (.int k (k.wrap (0 - n))))) a' W' → K a' W') : o.wp P a W K Q :=
  sim_val h (v := .int k (k.wrap (0 - n))) (by simp [execOp, ho, rd_vv h hx, Op.unary, Op.intArith]) rfl hd hk

theorem sim_turn (h : SimG C G s a W) {o : Oper} {t : TypeId} {x : Operand} {k : IntKind} {n : Int} (ho : o.op = .unOp .xor t x) (hd : DstOk C o) (hx : s.eval x = .v (.int k n)) (hk : ∀ a' W', Sim C (s.put o.dst (.v (.int k (turned k n)))) a' W' → K a' W') : o.wp P a W K Q :=
  sim_val h (v := .int k (turned k n)) (by simp [execOp, ho, rd_vv h hx, Op.unary, Op.intBits, turned]) rfl hd hk

theorem sim_convInt (h : SimG C G s a W) {o : Oper} {src dst : TypeId} {x : Operand} {k k' : IntKind} {n : Int} {d0 : TypeDesc} (ho : o.op = .convert src dst x) (hd : DstOk C o) (hx : s.eval x = .v (.int k n)) (h1 : P.underlying src = some d0) (h2 : P.underlying dst = some (.int k'))
    (hk : ∀ a' W', Sim C (s.put o.dst (.v (.int k' (k'.wrap n)))) a' W' → K a' W') : o.wp P a W K Q :=
  sim_val h (v := .int k' (k'.wrap n)) (by simp [execOp, ho, rd_vv h hx, convert, run_underlying h1, run_underlying h2, Conv.intToInt]) rfl hd hk

theorem sim_convStr (h : SimG C G s a W) {o : Oper} {src dst : TypeId} {x : Operand} {b : ByteArray} (ho : o.op = .convert src dst x) (hd : DstOk C o) (hx : s.eval x = .v (.string b)) (h1 : P.underlying src = some .string) (h2 : P.underlying dst = some .string)
    (hk : ∀ a' W', Sim C (s.put o.dst (.v (.string b))) a' W' → K a' W') : o.wp P a W K Q :=
  sim_val h (v := .string b) (by simp [execOp, ho, rd_vv h hx, convert, run_underlying h1, run_underlying h2]) rfl hd hk

/-! ### addresses -/
theorem sim_fieldAddr_ptr (h : SimG C G s a W) {o : Oper} {t f : Nat} {x : Operand} {fields : Array Field} {fd : Field} {j : TypeInfo} {d g p : Nat} (ho : o.op = .fieldAddr t x f) (hd : DstOk C o) (hu : P.underlying t = some (.struct fields)) (hf : fields[f]? = some fd)
    (hj : P.info? fd.type = some j) (hs : 0 < j.size) (hx : s.eval x = .ptr d g p) (hk : ∀ a' W', Sim C (s.put o.dst (.ptr d g (p + fd.offset))) a' W' → K a' W') : o.wp P a W K Q := by
  have hr : a.eval x = .pointer (some ⟨G.β d g, p, none⟩) := by have := h.eval x; rw [hx] at this; exact this
  have hne : ¬ j.size = 0 := by omega
  refine wp_value (u := .pointer (some ⟨G.β d g, p + fd.offset, none⟩)) ?_ (hk _ _ ⟨G, h.put' hd rfl .zero (fun k hk => by have := h.wfE x; rw [hx] at this; exact this k (by simpa [LV.keys] using hk))⟩)
  simp [execOp, ho, hr, Instr.fieldAt, run_underlying hu, hf, Instr.sureAddr, fieldPlace, sizeOf, typeInfo, hj, hne, add_lit]

theorem addr_add_add (x : Addr) (i j : Nat) : (x.add i).add j = x.add (i + j) := by
  unfold Addr.add
  by_cases hi : i = 0 <;> by_cases hj : j = 0 <;> simp [hi, hj, Nat.add_assoc]

theorem rd_el_drop {Pr : Nat → Nat → Prop} {cs : List LV} {ad : Addr} (h : Rd Pr W (.el cs) (.pointer (some ad))) (k : Nat) : Rd Pr W (.el (cs.drop k)) (.pointer (some (ad.add k))) := by
  cases h with
  | el U ha hh =>
    refine .el (fun i => U (k + i)) (fun i l hi => ?_) (fun i l hi => ?_)
    · rw [List.getElem?_drop] at hi
      rw [addr_add_add]
      exact ha _ _ hi
    · rw [List.getElem?_drop] at hi
      exact hh _ _ hi

theorem sim_fieldAddr_el (h : SimG C G s a W) {o : Oper} {t f : Nat} {x : Operand} {fields : Array Field} {fd : Field} {j : TypeInfo} {cs : List LV} (ho : o.op = .fieldAddr t x f) (hd : DstOk C o) (hu : P.underlying t = some (.struct fields)) (hf : fields[f]? = some fd)
    (hj : P.info? fd.type = some j) (hs : 0 < j.size) (hx : s.eval x = .el cs) (hk : ∀ a' W', Sim C (s.put o.dst (.el (cs.drop fd.offset))) a' W' → K a' W') : o.wp P a W K Q := by
  have hr : Rd G.Pr W (.el cs) (a.eval x) := by have := h.eval x; rw [hx] at this; exact this
  have hne : ¬ j.size = 0 := by omega
  obtain ⟨ad, he⟩ : ∃ ad, a.eval x = .pointer (some ad) := by generalize hax : a.eval x = ax at hr; cases hr; exact ⟨_, rfl⟩
  rw [he] at hr
  refine sim_rd h (v := .pointer (some (ad.add fd.offset))) ?_ (rd_el_drop hr _) hd hk
  simp [execOp, ho, he, Instr.fieldAt, run_underlying hu, hf, Instr.sureAddr, fieldPlace, sizeOf, typeInfo, hj, hne]

theorem run_part {t : Nat} {ti : TI} {i : TypeInfo} (hT : TOk P t ti i) {Pr : Nat → Nat → Prop} {cs : List LV} {us : List Value} {l : LV} {off : Nat} (hlen : cs.length = us.length) (h1 : ∀ u ∈ us, u.oneCell' = true)
    (hh : ∀ (i : Nat) l u, cs[i]? = some l → us[i]? = some u → Rd Pr W l u) (hl : part ti.d.isAgg ti.size (cs.drop off) = some l) : ∃ u, (Go.part t us.toArray off).run P W = .ok u W ∧ Rd Pr W l u := by
  obtain ⟨hr, hle, hn1⟩ := part_rd (Pr := Pr) (W := W) (U := fun i => us.getD (off + i) undef) hl (fun i l hl => by
    rw [List.getElem?_drop] at hl
    have hlt : off + i < us.length := by rw [← hlen]; exact (List.getElem?_eq_some_iff.1 hl).1
    simp only [List.getD, List.getElem?_eq_getElem hlt, Option.getD_some]
    exact h1 _ (List.getElem_mem hlt)) (fun i l hl => by
    rw [List.getElem?_drop] at hl
    have hlt : off + i < us.length := by rw [← hlen]; exact (List.getElem?_eq_some_iff.1 hl).1
    simp only [List.getD, List.getElem?_eq_getElem hlt, Option.getD_some]
    exact hh _ _ _ hl (List.getElem?_eq_getElem hlt))
  refine ⟨_, ?_, hr⟩
  rw [List.length_drop] at hle
  cases hg : ti.d.isAgg with
  | true =>
    simp only [Go.part, Sem.run_bind, hT.run_isAgg, Result.andThen_ok, hg, if_true, hT.run_sizeOf, Sem.run_pure]
    congr 2
    refine Array.ext (by simp; omega) (fun j h1 h2 => ?_)
    have hj : j < ti.size := by simpa using h2
    have hlt : off + j < us.length := by omega
    simp [List.getD, hlt]
  | false =>
    have hs1 := hn1 hg
    have hlt : off < us.length := by omega
    simp [Go.part, hT.run_isAgg, hg, List.getD, hlt]

theorem sim_field (h : SimG C G s a W) {o : Oper} {t f : Nat} {x : Operand} {fields : Array Field} {fd : Field} {fi : TI} {j : TypeInfo} {cs : List LV} {l : LV} (ho : o.op = .field t x f) (hd : DstOk C o) (hu : P.underlying t = some (.struct fields)) (hf : fields[f]? = some fd)
    (hT : TOk P fd.type fi j) (hx : s.eval x = .agg cs) (hl : part fi.d.isAgg fi.size (cs.drop fd.offset) = some l) (hk : ∀ a' W', Sim C (s.put o.dst l) a' W' → K a' W') : o.wp P a W K Q := by
  have hr : Rd G.Pr W (.agg cs) (a.eval x) := by have := h.eval x; rw [hx] at this; exact this
  generalize hax : a.eval x = ax at hr
  cases hr with
  | agg hlen h1 hh =>
    obtain ⟨u, hru, hrd⟩ := run_part (W := W) hT hlen h1 hh hl
    refine sim_rd h (v := u) ?_ hrd hd hk
    simp [execOp, ho, hax, Instr.field, run_underlying hu, hf, asAgg, hru]

theorem sim_index_arr (h : SimG C G s a W) {o : Oper} {t e len : Nat} {x y : Operand} {ti : TI} {i : TypeInfo} {cs : List LV} {k : IntKind} {n : Int} {l : LV} (ho : o.op = .index t x y) (hd : DstOk C o) (hu : P.underlying t = some (.array len e)) (hT : TOk P e ti i)
    (hx : s.eval x = .agg cs) (hy : s.eval y = .v (.int k n)) (h0 : 0 ≤ n) (hn : n < len) (hl : part ti.d.isAgg ti.size (cs.drop (n.toNat * ti.size)) = some l) (hk : ∀ a' W', Sim C (s.put o.dst l) a' W' → K a' W') : o.wp P a W K Q := by
  have hr : Rd G.Pr W (.agg cs) (a.eval x) := by have := h.eval x; rw [hx] at this; exact this
  generalize hax : a.eval x = ax at hr
  cases hr with
  | agg hlen h1 hh =>
    obtain ⟨u, hru, hrd⟩ := run_part (W := W) hT hlen h1 hh hl
    refine sim_rd h (v := u) ?_ hrd hd hk
    simp [execOp, ho, hax, rd_vv h hy, Instr.index, asIntOf, run_underlying hu, h0, hn, hT.run_sizeOf, hru]

theorem sim_indexAddr (h : SimG C G s a W) {o : Oper} {t e : Nat} {x y : Operand} {ti : TI} {i : TypeInfo} {xs : List (List LV)} {k : IntKind} {n : Int} {el : List LV} (ho : o.op = .indexAddr t x y) (hd : DstOk C o) (hu : P.underlying t = some (.slice e)) (hT : TOk P e ti i)
    (hx : (s.eval x).asList = some xs) (hy : s.eval y = .v (.int k n)) (h0 : 0 ≤ n) (h1 : n < xs.length) (he : xs[n.toNat]? = some el) (hl : el.length = ti.size)
    (hk : ∀ a' W', Sim C (s.put o.dst (.el el)) a' W' → K a' W') : o.wp P a W K Q := by
  have hr := ptr_of_asList (h.eval x) hx
  generalize hax : a.eval x = ax at hr
  cases hr with
  | list sz U hc hm hsz ha hh =>
    rename_i A c
    obtain ⟨ad, rfl, hcell⟩ := ha (by omega)
    have hszl : sz = ti.size := by rw [← hl]; exact (hsz _ (List.mem_of_getElem? he)).symm
    subst hszl
    refine sim_rd h (v := .pointer (some (ad.add (n.toNat * ti.size)))) ?_ (.el (fun j => U n.toNat j) (fun j l hj => ?_) (fun j l hj => hh _ _ _ _ he hj)) hd hk
    · simp [execOp, ho, hax, rd_vv h hy, Instr.indexAt, asIntOf, run_underlying hu, h0, h1, hT.run_sizeOf]
    · rw [addr_add_add]
      exact hcell _ _ _ _ he hj

theorem sim_index_str (h : SimG C G s a W) {o : Oper} {t : Nat} {x y : Operand} {b : ByteArray} {k : IntKind} {n : Int} {c : UInt8} (ho : o.op = .index t x y) (hd : DstOk C o) (hu : P.underlying t = some .string)
    (hx : s.eval x = .v (.string b)) (hy : s.eval y = .v (.int k n)) (h0 : 0 ≤ n) (hc : b[n.toNat]? = some c) (hk : ∀ a' W', Sim C (s.put o.dst (.v (.int .u8 c.toNat))) a' W' → K a' W') : o.wp P a W K Q :=
  sim_val h (v := .int .u8 c.toNat) (by simp [execOp, ho, rd_vv h hx, rd_vv h hy, Instr.index, asIntOf, run_underlying hu, h0, hc]) rfl hd hk

theorem sim_extract (h : SimG C G s a W) {o : Oper} {x : Operand} {vs : List LV} {k : Nat} {l : LV} (ho : o.op = .extract x k) (hd : DstOk C o) (hx : s.eval x = .tup vs) (hl : vs[k]? = some l) (hk : ∀ a' W', Sim C (s.put o.dst l) a' W' → K a' W') : o.wp P a W K Q := by
  have hr : Rd G.Pr W (.tup vs) (a.eval x) := by have := h.eval x; rw [hx] at this; exact this
  generalize hax : a.eval x = ax at hr
  cases hr with
  | tup hlen hh =>
    rename_i us
    have hlt : k < us.length := by rw [← hlen]; exact (List.getElem?_eq_some_iff.1 hl).1
    refine sim_rd h (v := us[k]) ?_ (hh _ _ _ hl (List.getElem?_eq_getElem hlt)) hd hk
    simp [execOp, ho, hax, Instr.extract, hlt]

theorem sim_nilCheck_ptr (h : SimG C G s a W) {o : Oper} {x : Operand} {d g p : Nat} (ho : o.op = .nilCheck x) (hd : DstOk C o) (hx : s.eval x = .ptr d g p) (hk : ∀ a' W', Sim C (s.put o.dst (.ptr d g p)) a' W' → K a' W') : o.wp P a W K Q := by
  have hr : a.eval x = .pointer (some ⟨G.β d g, p, none⟩) := by have := h.eval x; rw [hx] at this; exact this
  exact wp_value (u := a.eval x) (by simp [execOp, ho, hr]) (hk _ _ ⟨G, h.put' hd (by rw [hr]; rfl) .zero (fun k hk => by have := h.wfE x; rw [hx] at this; exact this k (by simpa [LV.keys] using hk))⟩)

theorem sim_makeFunc0 (h : SimG C G s a W) {o : Oper} {f : Nat} {first captured : Array Operand} (ho : o.op = .makeFunc (.func f) first captured) (hd : DstOk C o) (h1 : first.toList = []) (h2 : captured.toList = [])
    (hk : ∀ a' W', Sim C (s.put o.dst (.v (.func (.func f) #[] #[]))) a' W' → K a' W') : o.wp P a W K Q := by
  have e1 : first = #[] := by simpa using h1
  have e2 : captured = #[] := by simpa using h2
  exact sim_val h (v := .func (.func f) #[] #[]) (by simp [execOp, ho, Instr.makeFunc, e1, e2]) rfl hd hk

theorem evals_rd (h : SimG C G s a W) {xs : List Operand} (hp : (xs.map s.eval).all LV.plain = true) : ∀ (i : Nat) l u, (xs.map s.eval)[i]? = some l → (xs.map a.eval)[i]? = some u → Rd G.Pr W l u := by
  intro i l u hl hu
  rw [List.getElem?_map] at hl hu
  cases hx : xs[i]? with
  | none => rw [hx] at hl; cases hl
  | some x =>
    rw [hx] at hl hu
    simp only [Option.map_some, Option.some.injEq] at hl hu
    subst hl; subst hu
    exact RepT.rd (h.eval x) (List.all_eq_true.1 hp _ (List.mem_map.2 ⟨x, List.mem_of_getElem? hx, rfl⟩))

theorem sim_makeFunc (h : SimG C G s a W) {o : Oper} {f : Nat} {first captured : Array Operand} (ho : o.op = .makeFunc (.func f) first captured) (hd : DstOk C o) (hp : (first.toList.map s.eval).all LV.plain = true) (h2 : (captured.toList.map s.eval).all LV.plain = true)
    (hk : ∀ a' W', Sim C (s.put o.dst (.fn f (first.toList.map s.eval) (captured.toList.map s.eval))) a' W' → K a' W') : o.wp P a W K Q := by
  refine sim_rd h (v := .func (.func f) (first.toList.map a.eval).toArray (captured.toList.map a.eval).toArray) ?_ (.fn (by simp) (evals_rd h hp) (by simp) (evals_rd h h2)) hd hk
  have e3 : ∀ xs : Array Operand, (xs.toList.map a.eval).toArray = xs.map a.eval := fun xs => by rw [← Array.toList_map]
  simp only [execOp, ho, Instr.makeFunc, e3]
  simp

theorem Rep1.of_T {l : LV} {u : Value} (h : RepT G W l u) (hp : l.plain = true ∨ l.isPtr = true) : Rep1 G W l u := by
  cases l <;> first | exact h | (simp [LV.plain, LV.isPtr] at hp)

theorem key1_sub (l : LV) : ∀ k ∈ l.key1, k ∈ l.keys := by
  intro k hk
  cases l <;> first | exact hk | cases hk

theorem sim_makeClo (h : SimG C G s a W) {o : Oper} {f : Nat} {first captured : Array Operand} (ho : o.op = .makeFunc (.func f) first captured) (hd : DstOk C o) (h1 : first.toList = []) (h2 : (captured.toList.map s.eval).all (fun l => l.plain || l.isPtr) = true)
    (hk : ∀ a' W', Sim C (s.put o.dst (.clo f (captured.toList.map s.eval))) a' W' → K a' W') : o.wp P a W K Q := by
  have e1 : first = #[] := by simpa using h1
  have e3 : (captured.toList.map a.eval).toArray = captured.map a.eval := by rw [← Array.toList_map]
  have e4 : Array.map a.eval #[] = #[] := by simp
  refine wp_value (u := .func (.func f) #[] (captured.toList.map a.eval).toArray) (by simp only [execOp, ho, Instr.makeFunc, e1, e3, e4]; simp) (hk _ _ ⟨G, h.put' hd ⟨_, rfl, by simp, fun i l v hl hv => ?_⟩ .zero (fun k hk => ?_)⟩)
  · rw [List.getElem?_map] at hl hv
    cases hx : captured.toList[i]? with
    | none => rw [hx] at hl; cases hl
    | some x =>
      rw [hx] at hl hv
      simp only [Option.map_some, Option.some.injEq] at hl hv
      subst hl; subst hv
      have := List.all_eq_true.1 h2 _ (List.mem_map.2 ⟨x, List.mem_of_getElem? hx, rfl⟩)
      exact Rep1.of_T (h.eval x) (by simpa using this)
  · simp only [LV.keys, List.mem_flatMap, List.mem_map] at hk
    obtain ⟨_, ⟨x, _, rfl⟩, hk⟩ := hk
    exact h.wfE x k (key1_sub _ k hk)

/-! ### rows of the frame's own -/
theorem rs_of (h : SimG C G s a W) {x : Operand} {d g lo n sz : Nat} (hx : s.eval x = .rs d g lo n sz) : G.rz d g = sz ∧ 0 < sz ∧ lo + n ≤ G.rc d g ∧ ∃ A c, a.eval x = .slice A n c ∧ n ≤ c ∧ (0 < n ∨ lo = 0 → A = some ⟨G.β d g, lo * sz, none⟩ ∧ c + lo = G.rc d g) := by
  have := h.eval x
  rw [hx] at this
  exact this

theorem sim_indexAddr_row (h : SimG C G s a W) {o : Oper} {t e : Nat} {x y : Operand} {ti : TI} {i : TypeInfo} {d g lo n sz : Nat} {k : IntKind} {j : Int} (ho : o.op = .indexAddr t x y) (hd : DstOk C o) (hu : P.underlying t = some (.slice e)) (hT : TOk P e ti i)
    (hx : s.eval x = .rs d g lo n sz) (hy : s.eval y = .v (.int k j)) (h0 : 0 ≤ j) (h1 : j < n) (hs : ti.size = sz)
    (hk : ∀ a' W', Sim C (s.put o.dst (.ptr d g ((lo + j.toNat) * sz))) a' W' → K a' W') : o.wp P a W K Q := by
  obtain ⟨_, hsz, _, A, c, hax, _, hA⟩ := rs_of h hx
  obtain ⟨rfl, _⟩ := hA (.inl (by omega))
  refine wp_value (u := .pointer (some ⟨G.β d g, (lo + j.toNat) * sz, none⟩)) ?_ (hk _ _ ⟨G, h.put' hd rfl .zero (fun q hq => ?_)⟩)
  · simp [execOp, ho, hax, rd_vv h hy, Instr.indexAt, asIntOf, run_underlying hu, h0, h1, hT.run_sizeOf, add_lit, hs, Nat.add_mul]
  · have := h.wfE x
    rw [hx] at this
    exact this q (by simpa [LV.keys] using hq)

/-! ### places in arrays -/
theorem sim_indexAddr_arr (h : SimG C G s a W) {o : Oper} {t e n : Nat} {x y : Operand} {ti : TI} {i : TypeInfo} {l : LV} (ho : o.op = .indexAddr t x y) (hd : DstOk C o) (hu : P.underlying t = some (.array n e)) (hT : TOk P e ti i)
    (hl : idxArrL (s.eval x) (s.eval y) (some (n, ti)) = some l) (hk : ∀ a' W', Sim C (s.put o.dst l) a' W' → K a' W') : o.wp P a W K Q := by
  unfold idxArrL at hl
  simp only at hl
  split at hl
  · rename_i d g off k j hx hy
    split at hl
    · rename_i hb
      cases hl
      have hr : a.eval x = .pointer (some ⟨G.β d g, off, none⟩) := by have := h.eval x; rw [hx] at this; exact this
      refine wp_value (u := .pointer (some ⟨G.β d g, off + j.toNat * ti.size, none⟩)) ?_ (hk _ _ ⟨G, h.put' hd rfl .zero (fun q hq => ?_)⟩)
      · simp [execOp, ho, hr, rd_vv h hy, Instr.indexAt, Instr.sureAddr, asIntOf, run_underlying hu, hb.1, hb.2, hT.run_sizeOf, add_lit]
      · have := h.wfE x
        rw [hx] at this
        exact this q (by simpa [LV.keys] using hq)
    · cases hl
  · rename_i cs k j hx hy
    split at hl
    · rename_i hb
      cases hl
      have hr : Rd G.Pr W (.el cs) (a.eval x) := by have := h.eval x; rw [hx] at this; exact this
      generalize hax : a.eval x = ax at hr
      cases hr with
      | el U h1 h2 =>
        rename_i ad
        refine sim_rd h (v := .pointer (some (ad.add (j.toNat * ti.size)))) ?_ (.el (fun q => U (j.toNat * ti.size + q)) (fun q l hq => ?_) (fun q l hq => ?_)) hd hk
        · simp [execOp, ho, hax, rd_vv h hy, Instr.indexAt, Instr.sureAddr, asIntOf, run_underlying hu, hb.1, hb.2, hT.run_sizeOf]
        · rw [addr_add_add]
          rw [List.getElem?_drop] at hq
          exact h1 _ _ hq
        · rw [List.getElem?_drop] at hq
          exact h2 _ _ hq
    · cases hl
  · cases hl

/-! ### slices held against nil -/
theorem nilEq_rep {l : LV} {u : Value} {b : Bool} (h : RepT G W l u) (hb : nilEq l = some b) : ∃ A n c, u = .slice A n c ∧ b = A.isNone := by
  cases l <;> simp only [nilEq] at hb <;> try (cases hb; done)
  case v x =>
    cases x <;> first | (cases hb; done) | skip
    rename_i A n c
    cases A with
    | none => cases hb; exact ⟨none, _, _, rd_v h, rfl⟩
    | some => cases hb
  case list xs =>
    cases xs with
    | nil => cases hb
    | cons x xs =>
      cases hb
      have hr : Rd G.Pr W (.list (x :: xs)) u := h
      cases hr with
      | list sz U hc hm hs ha hh =>
        obtain ⟨ad, rfl, _⟩ := ha (by simp)
        exact ⟨_, _, _, rfl, rfl⟩
  case rs d g lo n sz =>
    obtain ⟨_, _, _, A, c, rfl, _, hA⟩ := h
    have hb' : b = false := by
      cases n <;> cases lo <;> simp only [nilEq] at hb <;> first | (cases hb; rfl) | cases hb
    have hA' : 0 < n ∨ lo = 0 := by
      cases n <;> cases lo <;> simp only [nilEq] at hb <;> first | (right; rfl) | (left; omega) | cases hb
    obtain ⟨rfl, _⟩ := hA hA'
    exact ⟨_, _, _, rfl, hb'⟩
  case emp b' =>
    cases hb
    have hr : Rd G.Pr W (.emp b') u := h
    cases hr with
    | emp => exact ⟨_, _, _, rfl, by rename_i A c; cases A <;> rfl⟩

theorem run_equalIn_nil {t e : Nat} (hu : P.underlying t = some (.slice e)) (d : Nat) (A : Option Addr) (n c n' c' : Nat) : (Op.equalIn (d + 1) t (.slice A n c) (.slice none n' c')).run P W = .ok A.isNone W := by
  cases A <;> simp [Op.equalIn, run_underlying hu]

theorem run_eqNil {t e : Nat} (hu : P.underlying t = some (.slice e)) (A : Option Addr) (n c n' c' : Nat) : (binOp .eql t (.slice A n c) (.slice none n' c')).run P W = .ok (.bool A.isNone) W := by
  simp only [binOp]
  simp [Op.equal, Op.maxDepth, run_equalIn_nil hu]

theorem run_neNil {t e : Nat} (hu : P.underlying t = some (.slice e)) (A : Option Addr) (n c n' c' : Nat) : (binOp .neq t (.slice A n c) (.slice none n' c')).run P W = .ok (.bool !A.isNone) W := by
  simp only [binOp]
  simp [Op.equal, Op.maxDepth, run_equalIn_nil hu]

theorem sim_sliceOp (h : SimG C G s a W) {o : Oper} {op : BinOp} {t t' : TypeId} {e : Nat} {x y : Operand} {l : LV} (hu : P.underlying t = some (.slice e)) (ho : o.op = .binOp op t x y t') (hd : DstOk C o) (hl : sliceOp op (s.eval x) (s.eval y) = some l)
    (hk : ∀ a' W', Sim C (s.put o.dst l) a' W' → K a' W') : o.wp P a W K Q := by
  unfold sliceOp at hl
  split at hl
  · rename_i hny
    have hry := h.eval y
    obtain ⟨n, c, hy⟩ : ∃ n c, a.eval y = .slice none n c := by
      generalize s.eval y = ly at hny hry
      unfold isNilV at hny
      split at hny
      · exact ⟨_, _, rd_v hry⟩
      · cases hny
    have key : ∀ b, nilEq (s.eval x) = some b → ∃ A n c, a.eval x = .slice A n c ∧ b = A.isNone := fun b hb => nilEq_rep (h.eval x) hb
    cases op <;> simp only at hl <;> try (cases hl; done)
    case eql =>
      obtain ⟨b, hb, rfl⟩ := Option.map_eq_some_iff.1 hl
      obtain ⟨A, n', c', hx, rfl⟩ := key b hb
      refine sim_val h (v := .bool A.isNone) ?_ rfl hd hk
      have hg : (eqGuard .eql t x y (.slice A n' c') (.slice none n c)).run P W = .ok () W := guard_none (by simp) (by simp)
      simp only [execOp, ho, hx, hy, Sem.run_bind, hg, run_eqNil hu, Result.andThen_ok, Sem.run_pure]
    case neq =>
      obtain ⟨b, hb, rfl⟩ := Option.map_eq_some_iff.1 hl
      obtain ⟨A, n', c', hx, rfl⟩ := key b hb
      refine sim_val h (v := .bool !A.isNone) ?_ rfl hd hk
      have hg : (eqGuard .neq t x y (.slice A n' c') (.slice none n c)).run P W = .ok () W := guard_none (by simp) (by simp)
      simp only [execOp, ho, hx, hy, Sem.run_bind, hg, run_neNil hu, Result.andThen_ok, Sem.run_pure]
  · cases hl

/-! ### interfaces -/
theorem TOk.notIface {t : Nat} {ti : TI} {i : TypeInfo} (h : TOk P t ti i) (hd : ∀ _ : ti.d = .other, False) : ∃ d, P.underlying t = some d ∧ ∀ ms, d ≠ .interface ms := by
  have h1 := h.d
  cases htd : ti.d with
  | struct fs => rw [htd] at h1; obtain ⟨fields, hf, _⟩ := h1; exact ⟨_, hf, fun ms e => by cases e⟩
  | other => exact (hd htd).elim
  | int k => rw [htd] at h1; exact ⟨_, h1, fun ms e => by cases e⟩
  | bool => rw [htd] at h1; exact ⟨_, h1, fun ms e => by cases e⟩
  | str => rw [htd] at h1; exact ⟨_, h1, fun ms e => by cases e⟩
  | slice e => rw [htd] at h1; exact ⟨_, h1, fun ms e => by cases e⟩
  | arr e n => rw [htd] at h1; exact ⟨_, h1, fun ms e => by cases e⟩

theorem sim_makeInterface (h : SimG C G s a W) {o : Oper} {t : Nat} {x : Operand} {d : TypeDesc} (hu : P.underlying t = some d) (hni : ∀ ms, d ≠ .interface ms) (ho : o.op = .makeInterface t x) (hd : DstOk C o) (hp : (s.eval x).plain = true)
    (hk : ∀ a' W', Sim C (s.put o.dst (.ifc t (s.eval x))) a' W' → K a' W') : o.wp P a W K Q := by
  refine sim_rd h (v := .iface t (a.eval x)) ?_ (.ifc hp (RepT.rd (h.eval x) hp)) hd hk
  cases d <;> first | exact absurd rfl (hni _) | simp [execOp, ho, Instr.makeInterface, run_underlying hu]

theorem sim_typeAssert (h : SimG C G s a W) {o : Oper} {t t' t0 : Nat} {x : Operand} {ok : Bool} {ti : TI} {i : TypeInfo} {l r : LV} (hT : TOk P t ti i) (hno : ∀ _ : ti.d = .other, False) (ho : o.op = .typeAssert x t0 t ok) (hd : DstOk C o) (hx : s.eval x = .ifc t' l)
    (hr : (if t' = t then some (if ok then LV.tup [l, .v (.bool true)] else l) else if ok then some (LV.tup [if ti.d.isAgg then .agg (ti.zero.map .v) else .v (ti.zero.headD undef), .v (.bool false)]) else none) = some r) 
    (hk : ∀ a' W', Sim C (s.put o.dst r) a' W' → K a' W') : o.wp P a W K Q := by
  obtain ⟨d, hu, hni⟩ := hT.notIface hno
  have hrx : Rd G.Pr W (.ifc t' l) (a.eval x) := by have := h.eval x; rw [hx] at this; exact this
  generalize hax : a.eval x = ax at hrx
  cases hrx with
  | @ifc _ _ u hp hl =>
    have tup2 : ∀ {l1 : LV} {u1 : Value} (b : Bool), Rd G.Pr W l1 u1 → Rd G.Pr W (.tup [l1, .v (.bool b)]) (.tuple #[u1, .bool b]) := by
      intro l1 u1 b h1
      refine .tup (us := [u1, .bool b]) rfl (fun i l u hl hu => ?_)
      match i, hl, hu with
      | 0, hl, hu => simp at hl hu; subst hl; subst hu; exact h1
      | 1, hl, hu => simp at hl hu; subst hl; subst hu; exact .v _ rfl
    split at hr
    · rename_i htt
      subst htt
      simp only [Option.some.injEq] at hr
      cases ok with
      | true =>
        simp only [if_true] at hr
        subst hr
        refine sim_rd h (v := .tuple #[u, .bool true]) ?_ (tup2 true hl) hd hk
        cases d <;> first | exact absurd rfl (hni _) | simp [execOp, ho, hax, Instr.typeAssert, run_underlying hu]
      | false =>
        simp only [Bool.false_eq_true, if_false] at hr
        subst hr
        refine sim_rd h (v := u) ?_ hl hd hk
        cases d <;> first | exact absurd rfl (hni _) | simp [execOp, ho, hax, Instr.typeAssert, run_underlying hu]
    · rename_i htt
      split at hr
      · rename_i hok
        subst hok
        simp only [Option.some.injEq] at hr
        subst hr
        obtain ⟨z, hz, hzc⟩ := hT.zero
        have hzr : Rd G.Pr W (if ti.d.isAgg then .agg (ti.zero.map .v) else .v (ti.zero.headD undef)) z := by
          have hzk := hT.zk z hz
          cases z
          case agg B =>
            simp only [zeroKind] at hzk
            rw [hzk, if_pos rfl]
            have hB : B.toList = ti.zero := hzc
            have hone : ∀ u ∈ B.toList, u.oneCell' = true := fun u hu => hT.zone u (by rw [← hB]; exact hu)
            have := Rd.agg (Pr := G.Pr) (W := W) (cs := ti.zero.map .v) (us := B.toList) (by rw [List.length_map, hB]) hone (fun i l u hl hu => by
              rw [← hB, List.getElem?_map, hu] at hl
              simp only [Option.map_some, Option.some.injEq] at hl
              subst hl
              exact .v u (hone u (List.mem_of_getElem? hu)))
            simpa using this
          case tuple B => simp [zeroKind] at hzk
          all_goals
            simp only [zeroKind, Bool.not_eq_true'] at hzk
            rw [hzk, if_neg (by simp)]
            rw [← hzc]
            simp only [Value.cells, List.headD_cons]
            exact .v _ rfl
        refine sim_rd h (v := .tuple #[z, .bool false]) ?_ (tup2 false hzr) hd hk
        cases d <;> first | exact absurd rfl (hni _) | simp [execOp, ho, hax, Instr.typeAssert, run_underlying hu, htt, zeroValue, typeInfo, hT.info, hz]
      · cases hr
end
end Go.LI
