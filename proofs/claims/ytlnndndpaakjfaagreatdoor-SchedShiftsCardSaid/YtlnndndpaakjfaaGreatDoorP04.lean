/- Texts of a small semantics over the model and of specifications of functions, joined: LIOps6. -/
import Derived.Test.YtlnndndpaakjfaaGreatDoorP03
set_option linter.unusedSimpArgs false
set_option linter.unusedVariables false
namespace Go.LI
open Go Go.RowKit

section
variable {C : Ctx} {G : Gh} {s : S} {a : Act} {W : World}
variable {P : Program} {τ : Tab} {Γ : Env} {K : Act → World → Prop} {Q : Exit → Act → World → Prop}

/-- New memory, and a value that reads in it. -/
theorem sim_new (h : SimG C G s a W) {o : Oper} {l : LV} {v : Value} {W' : World} (hr : (execOp a.eval o).run P W = .ok (.value v) W') (hb : Below W.heap.size W W')
    (hv : Rd (fun k o => G.Pr k o ∨ (W.heap.size ≤ k ∧ k < W'.heap.size)) W' l v) (hd : DstOk C o) (hk : ∀ a' W', Sim C (s.put o.dst l) a' W' → K a' W') : o.wp P a W K Q := by
  unfold Oper.wp
  rw [hr]
  refine hk _ _ ⟨_, (h.grow hb).put' hd (RepT.of_rd hv) .zero (fun k hk => ?_)⟩
  rw [keys_of_rd hv] at hk
  cases hk

/-- A row of cells at the head of a new block. -/
theorem rd_newRow {Pr : Nat → Nat → Prop} {cs : List LV} {B : Array Value} {e len sz : Nat} (h : RdL Pr W cs B.toList) (h1 : cs.all LV.one = true) (hl : cs.length = len * sz) (hm : len ≤ 9223372036854775807) (hp : ∀ k o, Pr k o → k < W.heap.size) :
    Rd (fun k o => Pr k o ∨ (W.heap.size ≤ k ∧ k < (W.alloc (.cells B e)).heap.size)) (W.alloc (.cells B e)) (.list ((List.range len).map fun i => (cs.drop (i * sz)).take sz)) (.slice (some ⟨W.heap.size, 0, none⟩) len len) := by
  have hb := below_alloc W (.cells B e)
  have hag := agree_of_below hb hp
  have hlen : ((List.range len).map fun i => (cs.drop (i * sz)).take sz).length = len := by simp
  have hget : ∀ (j : Nat) el (i : Nat) l, ((List.range len).map fun i => (cs.drop (i * sz)).take sz)[j]? = some el → el[i]? = some l → cs[j * sz + i]? = some l ∧ j * sz + i < B.size := by
    intro j el i l hj hi
    rw [List.getElem?_map] at hj
    by_cases hjl : j < len
    · rw [List.getElem?_range hjl] at hj
      simp only [Option.map_some, Option.some.injEq] at hj
      subst hj
      rw [List.getElem?_take] at hi
      split at hi
      · rw [List.getElem?_drop] at hi
        refine ⟨hi, ?_⟩
        have := (List.getElem?_eq_some_iff.1 hi).1
        have h2 := h.1
        simp at h2
        omega
      · cases hi
    · rw [List.getElem?_eq_none (by simp; omega)] at hj
      cases hj
  have hval : ∀ (j : Nat) el (i : Nat) l, ((List.range len).map fun i => (cs.drop (i * sz)).take sz)[j]? = some el → el[i]? = some l → Rd Pr W l (B.getD (j * sz + i) undef) ∧ l.one = true := by
    intro j el i l hj hi
    obtain ⟨h2, h3⟩ := hget j el i l hj hi
    have ho := List.all_eq_true.1 h1 l (List.mem_of_getElem? h2)
    exact ⟨h.2 _ l _ h2 (by simp [h3]) ho, ho⟩
  have := Rd.list (Pr := fun k o => Pr k o ∨ (W.heap.size ≤ k ∧ k < (W.alloc (.cells B e)).heap.size)) (W := W.alloc (.cells B e)) (xs := (List.range len).map fun i => (cs.drop (i * sz)).take sz) (A := some ⟨W.heap.size, 0, none⟩) (c := len) sz
    (fun j i => B.getD (j * sz + i) undef) (by rw [hlen]; exact Nat.le_refl _) (by rw [hlen]; exact hm)
    (fun el hel => by
      obtain ⟨j, hj, rfl⟩ := List.mem_map.1 hel
      have hj' := List.mem_range.1 hj
      have : (j + 1) * sz ≤ len * sz := Nat.mul_le_mul_right _ hj'
      rw [Nat.add_mul, Nat.one_mul] at this
      rw [List.length_take, List.length_drop, Nat.min_eq_left (by omega)])
    (fun _ => ⟨_, rfl, fun j el i l hj hi => by
      obtain ⟨h2, h3⟩ := hget j el i l hj hi
      obtain ⟨h4, h5⟩ := hval j el i l hj hi
      rw [add_lit, Nat.zero_add]
      refine ⟨?_, h4.one h5, .inr ⟨Nat.le_refl _, by simp⟩⟩
      rw [cell_box (heap_alloc_new W (.cells B e))]
      simp [h3]⟩)
    (fun j el i l hj hi => (hval j el i l hj hi).1.move hag (fun _ _ => .inl))
  rwa [hlen] at this

theorem flatten_replicate_get {α : Type} (z : List α) : ∀ (n j : Nat), j < n * z.length → ((List.replicate n z).flatten)[j]? = z[j % z.length]?
  | 0, j, h => by simp at h
  | n + 1, j, h => by
    rw [List.replicate_succ, List.flatten_cons]
    by_cases hj : j < z.length
    · rw [List.getElem?_append_left hj, Nat.mod_eq_of_lt hj]
    · rw [List.getElem?_append_right (by omega), flatten_replicate_get z n _ (by rw [Nat.succ_mul] at h; omega)]
      congr 1
      exact (Nat.mod_eq_sub_mod (by omega)).symm

theorem flatten_replicate_length {α : Type} (z : List α) (n : Nat) : ((List.replicate n z).flatten).length = n * z.length := by simp

theorem zeros_rdL {t : Nat} {ti : TI} {i : TypeInfo} (hT : TOk P t ti i) {z : Value} (hz : z.cells.toList = ti.zero) (n : Nat) (hs : 0 < ti.size) (hzl : ti.zero.length = ti.size) :
    RdL G.Pr W ((List.replicate n (ti.zero.map LV.v)).flatten) ((Array.range (n * ti.size)).map (z.cells[· % z.cells.size]!)).toList := by
  have hcs : z.cells.size = ti.size := by rw [← Array.length_toList, hz, hzl]
  refine ⟨by simp [hzl], fun j l u hl hu _ => ?_⟩
  have hj : j < n * ti.size := by
    have := (List.getElem?_eq_some_iff.1 hl).1
    simpa [hzl] using this
  rw [flatten_replicate_get _ n j (by simpa [hzl] using hj), List.length_map, hzl, List.getElem?_map] at hl
  rw [Array.toList_map, List.getElem?_map, Array.toList_range, List.getElem?_range hj] at hu
  simp only [Option.map_some, Option.some.injEq] at hu
  have hm : j % ti.size < ti.size := Nat.mod_lt _ hs
  have hzj : ti.zero[j % ti.size]? = some u := by
    rw [← hz, ← hu, hcs]
    have : j % ti.size < z.cells.size := by omega
    simp [this]
  rw [hzj] at hl
  simp only [Option.map_some, Option.some.injEq] at hl
  subst hl
  exact .v u (hT.zone u (List.mem_of_getElem? hzj))

theorem fillL_length {place : Nat → Option (Nat × Nat)} : ∀ (parts : List (Nat × LV)) (cells out : List LV), fillL place cells parts = some out → out.length = cells.length
  | [], cells, out, h => by simp only [fillL, Option.some.injEq] at h; rw [h]
  | (i, x) :: parts, cells, out, h => by
    unfold fillL at h
    split at h
    · cases h
    · split at h
      · rename_i hc
        rw [fillL_length parts _ out h, over_length (by omega)]
      · cases h

theorem sim_buildSlice (h : SimG C G s a W) {o : Oper} {t e len : Nat} {parts : Array (Nat × Operand)} {ti : TI} {i : TypeInfo} {cs : List LV} (hu : P.underlying t = some (.slice e)) (hT : TOk P e ti i) (ho : o.op = .buildSlice t len parts) (hd : DstOk C o)
    (hsm : len * ti.size ≤ 16777216) (hs : 0 < ti.size) (hzl : ti.zero.length = ti.size) (hlen : 0 < len)
    (hp : (parts.toList.all fun p => (s.eval p.2).cells.all LV.one) = true) (hf : fillL (fun i => some (i * ti.size, ti.size)) ((List.replicate len (ti.zero.map LV.v)).flatten) (parts.toList.map fun p => (p.1, s.eval p.2)) = some cs) (h1 : cs.all LV.one = true)
    (hk : ∀ a' W', Sim C (s.put o.dst (.list ((List.range len).map fun i => (cs.drop (i * ti.size)).take ti.size))) a' W' → K a' W') : o.wp P a W K Q := by
  obtain ⟨z, hz, hzc⟩ := hT.zero
  obtain ⟨B, hB, hBr⟩ := fill_toList (G := G) (W := W) (parts.toList.map fun p => (p.1, s.eval p.2)) (parts.map fun (i, x) => (i, a.eval x)).toList _ _ cs hf (by simp)
    (fun k p q hp' hq => parts_rd h parts k p q hp' hq (by
      rw [List.getElem?_map] at hp'
      cases hx : parts.toList[k]? with
      | none => rw [hx] at hp'; cases hp'
      | some x =>
        rw [hx] at hp'
        simp only [Option.map_some, Option.some.injEq] at hp'
        subst hp'
        exact List.all_eq_true.1 hp x (List.mem_of_getElem? hx))) (zeros_rdL hT hzc len hs hzl)
  have hcl : cs.length = len * ti.size := by rw [fillL_length _ _ _ hf]; simp [hzl]
  refine sim_new h (v := .slice (some ⟨W.heap.size, 0, none⟩) len len) (W' := W.alloc (.cells B e)) ?_ (below_alloc _ _) (rd_newRow hBr h1 hcl (by have : len ≤ len * ti.size := Nat.le_mul_of_pos_right _ hs; omega) h.prlt) hd hk
  have hn0 : ¬ len * ti.size = 0 := by
    have := Nat.mul_pos hlen hs
    omega
  have hn1 : ¬ 16777216 < len * ti.size := by omega
  have hB' : Instr.fill (fun i => some (i * ti.size, ti.size)) (Array.map (fun x => z.cells[x % z.cells.size]!) (Array.range (len * ti.size))) (List.map (fun x => (x.fst, a.eval x.snd)) parts.toList) = some B := by
    rw [← hB]; simp
  simp only [execOp, ho]
  simp [Instr.buildSlice, run_underlying hu, hT.run_sizeOf, hn0, hn1, zeroValue, typeInfo, hT.info, hz, hB', newRow]

/-! ### a piece of a list -/
theorem rd_piece {Pr : Nat → Nat → Prop} {xs : List (List LV)} {A : Option Addr} {c sz l m : Nat} (hr : Rd Pr W (.list xs) (.slice A xs.length c)) (hz : ∀ e ∈ xs, e.length = sz) (hlm : l ≤ m) (hm : m ≤ xs.length) :
    Rd Pr W (.list ((xs.take m).drop l)) (.slice (if c = l then A else A.map (·.add (l * sz))) (m - l) (c - l)) := by
  generalize hv : Value.slice A xs.length c = v at hr
  cases hr with
  | list sz' U hc hmx hs ha hh =>
    injection hv with h1 h2 h3
    subst h1; subst h3
    have hlen : ((xs.take m).drop l).length = m - l := by rw [List.length_drop, List.length_take, Nat.min_eq_left hm]
    have hget : ∀ (j : Nat) e, ((xs.take m).drop l)[j]? = some e → xs[l + j]? = some e := by
      intro j e hj
      rw [List.getElem?_drop, List.getElem?_take] at hj
      split at hj
      · exact hj
      · cases hj
    have := Rd.list (Pr := Pr) (W := W) (xs := (xs.take m).drop l) (A := if c = l then A else A.map (·.add (l * sz))) (c := c - l) sz (fun j i => U (l + j) i) (by omega) (by omega)
      (fun e he => hz e (List.mem_of_mem_take (List.mem_of_mem_drop he)))
      (fun hn => by
        rw [hlen] at hn
        obtain ⟨ad, rfl, hcell⟩ := ha (by omega)
        refine ⟨ad.add (l * sz), ?_, fun j e i x hj hi => ?_⟩
        · rw [if_neg (by omega)]; rfl
        · have hx := hcell (l + j) e i x (hget j e hj) hi
          have hsz : sz' = sz := by rw [← hs e (List.mem_of_getElem? (hget j e hj)), hz e (List.mem_of_getElem? (hget j e hj))]
          subst hsz
          rw [addr_add_add, show l * sz' + (j * sz' + i) = (l + j) * sz' + i by rw [Nat.add_mul, Nat.add_assoc]]
          exact hx)
      (fun j e i x hj hi => hh (l + j) e i x (hget j e hj) hi)
    rwa [hlen] at this

theorem run_sliceBounds (isSlice : Bool) (len cap : Nat) (lo hi : Option Value) (l m : Nat) (hlm : l ≤ m) (hmc : m ≤ cap)
    (hl : (lo = none ∧ l = 0) ∨ ∃ k, lo = some (.int k l)) (hh : (hi = none ∧ m = len) ∨ ∃ k, hi = some (.int k m)) : (Instr.sliceBounds isSlice len cap lo hi none).run P W = .ok (l, m, cap) W := by
  rcases hl with ⟨rfl, rfl⟩ | ⟨k, rfl⟩ <;> rcases hh with ⟨rfl, rfl⟩ | ⟨k', rfl⟩ <;> simp [Instr.sliceBounds, Instr.sliceBound, asIntOf, hlm, hmc]

/-- The bounds of a slice expression, as numbers. -/
def BoundIs (x : Option LV) (n dflt : Nat) : Prop := (x = none ∧ n = dflt) ∨ ∃ k, x = some (.v (.int k n))

theorem bound_real (h : SimG C G s a W) {x : Option Operand} {n dflt : Nat} (hb : BoundIs (x.map s.eval) n dflt) : (x.map a.eval = none ∧ n = dflt) ∨ ∃ k, x.map a.eval = some (.int k n) := by
  rcases hb with ⟨h1, h2⟩ | ⟨k, hk⟩
  · cases x with
    | none => exact .inl ⟨rfl, h2⟩
    | some x => cases h1
  · cases x with
    | none => cases hk
    | some x =>
      simp only [Option.map_some, Option.some.injEq] at hk
      exact .inr ⟨k, by rw [Option.map_some, rd_vv h hk]⟩

theorem sim_slice_list (h : SimG C G s a W) {o : Oper} {t e l m : Nat} {x : Operand} {lo hi : Option Operand} {ti : TI} {i : TypeInfo} {xs : List (List LV)} (hu : P.underlying t = some (.slice e)) (hT : TOk P e ti i) (ho : o.op = .slice t x lo hi none) (hd : DstOk C o)
    (hx : (s.eval x).asList = some xs) (hl : BoundIs (lo.map s.eval) l 0) (hh : BoundIs (hi.map s.eval) m xs.length) (hlm : l ≤ m) (hm : m ≤ xs.length) (hz : ∀ e ∈ xs, e.length = ti.size)
    (hk : ∀ a' W', Sim C (s.put o.dst (.list ((xs.take m).drop l))) a' W' → K a' W') : o.wp P a W K Q := by
  have hr := ptr_of_asList (h.eval x) hx
  obtain ⟨A, c, hax, hc⟩ : ∃ A c, a.eval x = .slice A xs.length c ∧ xs.length ≤ c := by
    generalize hax : a.eval x = ax at hr
    cases hr with
    | list sz U hc hm hs ha hh => exact ⟨_, _, rfl, hc⟩
  rw [hax] at hr
  refine sim_rd h (v := .slice (if c = l then A else A.map (·.add (l * ti.size))) (m - l) (c - l)) ?_ (rd_piece hr hz hlm hm) hd hk
  have hb := run_sliceBounds (P := P) (W := W) true xs.length c (lo.map a.eval) (hi.map a.eval) l m hlm (by omega) (bound_real h hl) (bound_real h hh)
  simp [execOp, ho, hax, Instr.sliceAt, Instr.slice, run_underlying hu, hb, hT.run_sizeOf]

theorem sim_slice_str (h : SimG C G s a W) {o : Oper} {t l m : Nat} {x : Operand} {lo hi : Option Operand} {b : ByteArray} (hu : P.underlying t = some .string) (ho : o.op = .slice t x lo hi none) (hd : DstOk C o)
    (hx : s.eval x = .v (.string b)) (hl : BoundIs (lo.map s.eval) l 0) (hh : BoundIs (hi.map s.eval) m b.size) (hlm : l ≤ m) (hm : m ≤ b.size)
    (hk : ∀ a' W', Sim C (s.put o.dst (.v (.string (b.extract l m)))) a' W' → K a' W') : o.wp P a W K Q := by
  have hb := run_sliceBounds (P := P) (W := W) false b.size b.size (lo.map a.eval) (hi.map a.eval) l m hlm hm (bound_real h hl) (bound_real h hh)
  exact sim_val h (v := .string (b.extract l m)) (by simp [execOp, ho, rd_vv h hx, Instr.sliceAt, Instr.slice, run_underlying hu, hb]) rfl hd hk

/-! ### len -/
theorem sim_len_list (h : SimG C G s a W) {o : Oper} {t e : Nat} {x : Operand} {c : Call} {xs : List (List LV)} (hu : P.underlying t = some (.slice e)) (ho : o.op = .call c) (hc : c.callee = .builtin .len) (ha : c.args = #[x]) (ht : c.argTypes.getD 0 0 = t) (htt : 0 < c.argTypes.size) (hd : DstOk C o)
    (hx : (s.eval x).asList = some xs) (hk : ∀ a' W', Sim C (s.put o.dst (.v (.int .i64 xs.length))) a' W' → K a' W') : o.wp P a W K Q := by
  have hr := ptr_of_asList (h.eval x) hx
  obtain ⟨A, c', hax⟩ : ∃ A c, a.eval x = .slice A xs.length c := by
    generalize hax : a.eval x = ax at hr
    cases hr with
    | list sz U hc hm hs ha hh => exact ⟨_, _, rfl⟩
  have ht' : c.argTypes[0]? = some t := by
    rw [← ht]; simp [htt]
  refine sim_val h (v := .int .i64 xs.length) ?_ rfl hd hk
  simp [execOp, ho, resolve, hc, ha, invoke, builtin, Builtin.len_, ht', hax, run_underlying hu, goInt]

theorem sim_len_str (h : SimG C G s a W) {o : Oper} {t : Nat} {x : Operand} {c : Call} {b : ByteArray} (hu : P.underlying t = some .string) (ho : o.op = .call c) (hc : c.callee = .builtin .len) (ha : c.args = #[x]) (ht : c.argTypes.getD 0 0 = t) (htt : 0 < c.argTypes.size) (hd : DstOk C o)
    (hx : s.eval x = .v (.string b)) (hk : ∀ a' W', Sim C (s.put o.dst (.v (.int .i64 b.size))) a' W' → K a' W') : o.wp P a W K Q := by
  have ht' : c.argTypes[0]? = some t := by
    rw [← ht]; simp [htt]
  refine sim_val h (v := .int .i64 b.size) ?_ rfl hd hk
  simp [execOp, ho, resolve, hc, ha, invoke, builtin, Builtin.len_, ht', rd_vv h hx, run_underlying hu, goInt]

/-! ### rows of the frame's own -/
theorem sim_len_row (h : SimG C G s a W) {o : Oper} {t e : Nat} {x : Operand} {c : Call} {d g lo n sz : Nat} (hu : P.underlying t = some (.slice e)) (ho : o.op = .call c) (hc : c.callee = .builtin .len) (ha : c.args = #[x]) (ht : c.argTypes.getD 0 0 = t) (htt : 0 < c.argTypes.size) (hd : DstOk C o)
    (hx : s.eval x = .rs d g lo n sz) (hk : ∀ a' W', Sim C (s.put o.dst (.v (.int .i64 n))) a' W' → K a' W') : o.wp P a W K Q := by
  obtain ⟨_, _, _, A, c', hax, _⟩ := rs_of h hx
  have ht' : c.argTypes[0]? = some t := by
    rw [← ht]; simp [htt]
  refine sim_val h (v := .int .i64 n) ?_ rfl hd hk
  simp [execOp, ho, resolve, hc, ha, invoke, builtin, Builtin.len_, ht', hax, run_underlying hu, goInt]

theorem sim_slice_row (h : SimG C G s a W) {o : Oper} {t e l m d g lo0 n sz : Nat} {x : Operand} {lo hi : Option Operand} {ti : TI} {i : TypeInfo} (hu : P.underlying t = some (.slice e)) (hT : TOk P e ti i) (ho : o.op = .slice t x lo hi none) (hd : DstOk C o)
    (hx : s.eval x = .rs d g lo0 n sz) (hl : BoundIs (lo.map s.eval) l 0) (hh : BoundIs (hi.map s.eval) m n) (hlm : l ≤ m) (hm : m ≤ n) (hz : ti.size = sz)
    (hk : ∀ a' W', Sim C (s.put o.dst (.rs d g (lo0 + l) (m - l) sz)) a' W' → K a' W') : o.wp P a W K Q := by
  obtain ⟨h1, h2, h3, A, c, hax, hnc, hA⟩ := rs_of h hx
  have hb := run_sliceBounds (P := P) (W := W) true n c (lo.map a.eval) (hi.map a.eval) l m hlm (by omega) (bound_real h hl) (bound_real h hh)
  refine wp_value (u := .slice (if c = l then A else A.map (·.add (l * ti.size))) (m - l) (c - l)) ?_ (hk _ _ ⟨G, h.put' hd ⟨h1, h2, by omega, _, _, rfl, by omega, fun hn => ?_⟩ .zero (fun q hq => ?_)⟩)
  · simp [execOp, ho, hax, Instr.sliceAt, Instr.slice, run_underlying hu, hb, hT.run_sizeOf]
  · obtain ⟨rfl, hc⟩ := hA (by omega)
    by_cases hcl : c = l
    · have h0 : l = 0 := by omega
      subst h0
      rw [if_pos hcl]
      exact ⟨by simp, by omega⟩
    · rw [if_neg hcl, Option.map_some, add_lit, hz, ← Nat.add_mul]
      exact ⟨rfl, by omega⟩
  · have := h.wfE x
    rw [hx] at this
    exact this q (by simpa [LV.keys] using hq)

theorem sim_makeSlice (h : SimG C G s a W) {o : Oper} {t e d n : Nat} {x y : Operand} {k k' : IntKind} {ti : TI} {i : TypeInfo} (hu : P.underlying t = some (.slice e)) (hT : TOk P e ti i) (ho : o.op = .makeSlice t x y) (hdst : o.dst = some d) (hd : DstOk C o)
    (hx : s.eval x = .v (.int k n)) (hy : s.eval y = .v (.int k' n)) (hn : n ≤ 9223372036854775807) (hs : 0 < ti.size) (hzl : ti.zero.length = ti.size) (hby : n * ti.bytes ≤ 140737488355328)
    (hk : ∀ a' W', Sim C (((MU.box d (((List.replicate n (ti.zero.map LV.v)).flatten).map fun c => (c, (0, 0)))).apply s).put (some d) (.rs d (s.g d + 1) 0 n ti.size)) a' W' → K a' W') : o.wp P a W K Q := by
  obtain ⟨z, hz, hzc⟩ := hT.zero
  have hzr := zeros_rdL (G := G) (W := W) hT hzc n hs hzl
  have hw : IntKind.i64.wrap (n : Int) = n := by rw [IntKind.wrap_i64]; omega
  have hbb : i.bytes = ti.bytes := hT.bytes
  have hmax : n ≤ maxLen := by simp only [maxLen]; omega
  have hb1 : ¬ (281474976710656 < (ti.bytes : Int) * n) := by
    have h3 : ((ti.bytes * n : Nat) : Int) ≤ 140737488355328 := by rw [Nat.mul_comm]; exact Int.ofNat_le.2 hby
    rw [Int.natCast_mul] at h3
    omega
  have hneg : ¬ ((n : Int) < 0) := by omega
  have hrun : (execOp a.eval o).run P W = .ok (.value (.slice (some ⟨W.heap.size, 0, none⟩) n n)) (W.alloc (.cells ((Array.range (n * ti.size)).map (z.cells[· % z.cells.size]!)) e)) := by
    simp only [execOp, ho, rd_vv h hx, rd_vv h hy]
    rcases Nat.eq_zero_or_pos n with h0 | h0
    · subst h0
      simp [Instr.makeSlice, run_underlying hu, asInt, asIntOf, typeInfo, hT.info, hbb, hT.run_sizeOf, newRow, askRoom, IntKind.wrap_i64]
      have h00 : ∀ f : Nat → Value, Array.map f (Array.range 0) = #[] := fun f => by apply Array.eq_empty_of_size_eq_zero; simp
      rw [h00, h00]
    · have hz0 : ¬ n * ti.size = 0 := by have := Nat.mul_pos h0 hs; omega
      simp [Instr.makeSlice, run_underlying hu, asInt, asIntOf, typeInfo, hT.info, hbb, hw, hb1, hneg, hT.run_sizeOf, hz0, zeroValue, hz, newRow, askRoom]
  unfold Oper.wp
  rw [hrun]
  show K (a.put o.dst _) _
  rw [hdst]
  refine hk _ _ ⟨_, (h.newObj (W' := W.alloc _) (cap := n) (sz := ti.size) ?_ (fun _ => ⟨by simp, hmax⟩) (fun j l tg u h1 h2 => ?_) rfl rfl rfl rfl).put (hd d hdst) ?_ .zero ?_⟩
  · simp [hzl]
  · rw [List.getElem?_map] at h1
    cases hc : ((List.replicate n (ti.zero.map LV.v)).flatten)[j]? with
    | none => rw [hc] at h1; cases h1
    | some c =>
      rw [hc] at h1
      simp only [Option.map_some, Option.some.injEq, Prod.mk.injEq] at h1
      obtain ⟨rfl, rfl⟩ := h1
      obtain ⟨q, hq, hqc⟩ : ∃ q, q ∈ ti.zero ∧ LV.v q = c := by
        have := List.mem_of_getElem? hc
        rw [List.mem_flatten] at this
        obtain ⟨l, hl, hcl⟩ := this
        rw [(List.mem_replicate.1 hl).2] at hcl
        obtain ⟨q, h3, h4⟩ := List.mem_map.1 hcl
        exact ⟨q, h3, h4⟩
      have hone : c.one = true := by rw [← hqc]; exact hT.zone q hq
      have hrd := hzr.2 j c u hc (by rw [Array.getElem?_toList]; exact h2) hone
      exact ⟨RepT.of_rd hrd, hrd.one hone, .zero, fun k hk => by rw [keys_of_rd hrd] at hk; cases hk⟩
  · refine ⟨by simp [Gh.newKey], hs, by simp [Gh.newKey], _, _, rfl, Nat.le_refl _, fun _ => ⟨by simp [Gh.newKey], by simp [Gh.newKey]⟩⟩
  · intro k hk
    simp only [LV.keys, List.mem_singleton] at hk
    subst hk
    simp [MU.apply]

/-! ### calls -/
/-- What is called, and what it is handed, as the machine has it. -/
theorem target_rep (h : SimG C G s a W) {x : Operand} {xs : List Operand} {f : Nat} {ls : List LV} (ht : target (s.eval x) (xs.map s.eval) = some (f, ls)) :
    ∃ fus cus : List Value, a.eval x = .func (.func f) fus.toArray cus.toArray ∧ ls.length = (fus ++ xs.map a.eval ++ cus).length ∧ ∀ (i : Nat) l u, ls[i]? = some l → (fus ++ xs.map a.eval ++ cus)[i]? = some u → RepT G W l u ∧ (l.plain = true → Rd G.Pr W l u) ∧ ∀ k ∈ l.keys, k.2 ≤ s.g k.1 := by
  have hxs : ∀ (i : Nat) l u, (xs.map s.eval)[i]? = some l → (xs.map a.eval)[i]? = some u → RepT G W l u ∧ (l.plain = true → Rd G.Pr W l u) ∧ ∀ k ∈ l.keys, k.2 ≤ s.g k.1 := by
    intro i l u hl hu
    rw [List.getElem?_map] at hl hu
    cases hx : xs[i]? with
    | none => rw [hx] at hl; cases hl
    | some y =>
      rw [hx] at hl hu
      simp only [Option.map_some, Option.some.injEq] at hl hu
      subst hl; subst hu
      exact ⟨h.eval y, fun hp => RepT.rd (h.eval y) hp, h.wfE y⟩
  have three : ∀ (A B D : List LV) (A' B' D' : List Value), A.length = A'.length → B.length = B'.length → (∀ (i : Nat) l u, A[i]? = some l → A'[i]? = some u → RepT G W l u ∧ (l.plain = true → Rd G.Pr W l u) ∧ ∀ k ∈ l.keys, k.2 ≤ s.g k.1) →
      (∀ (i : Nat) l u, B[i]? = some l → B'[i]? = some u → RepT G W l u ∧ (l.plain = true → Rd G.Pr W l u) ∧ ∀ k ∈ l.keys, k.2 ≤ s.g k.1) → (∀ (i : Nat) l u, D[i]? = some l → D'[i]? = some u → RepT G W l u ∧ (l.plain = true → Rd G.Pr W l u) ∧ ∀ k ∈ l.keys, k.2 ≤ s.g k.1) →
      ∀ (i : Nat) l u, (A ++ B ++ D)[i]? = some l → (A' ++ B' ++ D')[i]? = some u → RepT G W l u ∧ (l.plain = true → Rd G.Pr W l u) ∧ ∀ k ∈ l.keys, k.2 ≤ s.g k.1 := by
    intro A B D A' B' D' e1 e2 hA hB hD i l u hl hu
    by_cases i1 : i < A.length
    · rw [List.append_assoc, List.getElem?_append_left i1] at hl
      rw [List.append_assoc, List.getElem?_append_left (by omega)] at hu
      exact hA i l u hl hu
    · by_cases i2 : i < A.length + B.length
      · rw [List.append_assoc, List.getElem?_append_right (by omega), List.getElem?_append_left (by omega)] at hl
        rw [List.append_assoc, List.getElem?_append_right (by omega), List.getElem?_append_left (by omega), ← e1] at hu
        exact hB _ l u hl hu
      · rw [List.append_assoc, List.getElem?_append_right (by omega), List.getElem?_append_right (by omega)] at hl
        rw [List.append_assoc, List.getElem?_append_right (by omega), List.getElem?_append_right (by omega), ← e1, ← e2] at hu
        exact hD _ l u hl hu
  have hrx := h.eval x
  have hwx := h.wfE x
  cases hx : s.eval x <;> rw [hx] at ht hrx hwx <;> simp only [target] at ht <;> try (cases ht; done)
  case v val =>
    cases val with
    | func fv first captured =>
      cases fv with
      | func f' =>
        simp only at ht
        split at ht
        · rename_i hcc
          obtain ⟨rfl, rfl⟩ := hcc
          simp only [Option.some.injEq, Prod.mk.injEq] at ht
          obtain ⟨rfl, rfl⟩ := ht
          refine ⟨[], [], rd_vv h hx, by simp, fun i l u hl hu => hxs i l u hl (by simpa using hu)⟩
        · cases ht
      | _ => simp at ht
    | _ => simp at ht
  case fn f' first caps =>
    simp only [Option.some.injEq, Prod.mk.injEq] at ht
    obtain ⟨rfl, rfl⟩ := ht
    have hrx' : Rd G.Pr W (.fn f' first caps) (a.eval x) := hrx
    generalize hax : a.eval x = ax at hrx'
    cases hrx' with
    | @fn _ _ _ us ws hl1 hh1 hl2 hh2 =>
      refine ⟨us, ws, rfl, by simp [hl1, hl2], three _ _ _ _ _ _ hl1 (by simp) (fun i l u hl hu => ?_) hxs (fun i l u hl hu => ?_)⟩
      · have := hh1 i l u hl hu
        exact ⟨RepT.of_rd this, fun _ => this, fun k hk => by rw [keys_of_rd this] at hk; cases hk⟩
      · have := hh2 i l u hl hu
        exact ⟨RepT.of_rd this, fun _ => this, fun k hk => by rw [keys_of_rd this] at hk; cases hk⟩
  case clo f' caps =>
    simp only [Option.some.injEq, Prod.mk.injEq] at ht
    obtain ⟨rfl, rfl⟩ := ht
    obtain ⟨us, hax, hl2, hh2⟩ := hrx
    refine ⟨[], us, hax, by simp [hl2], ?_⟩
    have := three [] (xs.map s.eval) caps [] (xs.map a.eval) us rfl (by simp) (by simp) hxs (fun i l u hl hu => by
      have h1 := hh2 i l u hl hu
      refine ⟨?_, fun hp => ?_, fun k hk => ?_⟩
      · cases l <;> first | exact h1 | (cases (show Rd G.Pr W _ u from h1))
      · cases l <;> first | exact h1 | (simp [LV.plain] at hp)
      · refine hwx k ?_
        simp only [LV.keys, List.mem_flatMap]
        refine ⟨l, List.mem_of_getElem? hl, ?_⟩
        cases l <;> first | exact hk | (cases hk; done) | (cases (show Rd G.Pr W _ u from h1)))
    simpa using this

theorem run_callV {o : Oper} {c : Call} {f : Nat} {x : Operand} {fus cus : List Value} (ho : o.op = .call c) (hc : c.callee = .value x) (hf : a.eval x = .func (.func f) fus.toArray cus.toArray)
    (hs : ∀ (us : Array Value) (w : World), (callFunc f us).run P w = .ok (.enter f us) w) : (execOp a.eval o).run P W = .ok (.enter f (fus ++ c.args.toList.map a.eval ++ cus).toArray) W := by
  have hargs : c.args.map a.eval = (c.args.toList.map a.eval).toArray := by rw [← Array.toList_map]
  simp [execOp, ho, resolve, hc, hf, hargs, Deferred.ofValue, invoke, hs]

theorem run_callV' {o : Oper} {c : Call} {f : Nat} {x : Operand} {fus cus : List Value} (ho : o.op = .call c) (hc : c.callee = .value x) (hf : a.eval x = .func (.func f) fus.toArray cus.toArray) :
    (execOp a.eval o).run P W = (callFunc f (fus ++ c.args.toList.map a.eval ++ cus).toArray).run P W := by
  have hargs : c.args.map a.eval = (c.args.toList.map a.eval).toArray := by rw [← Array.toList_map]
  simp [execOp, ho, resolve, hc, hf, hargs, Deferred.ofValue, invoke]

theorem sim_call (h : SimG C G s a W) {o : Oper} {c : Call} {f : Nat} {x : Operand} {ls : List LV} {r : LV} (ho : o.op = .call c) (hc : c.callee = .value x) (hd : DstOk C o)
    (ht : target (s.eval x) (c.args.toList.map s.eval) = some (f, ls)) (hp : ls.all LV.plain = true) (hs : CallSpec P f ls r)
    (hk : ∀ a' W', Sim C (s.put o.dst r) a' W' → K a' W') : o.wp P a W K Q := by
  obtain ⟨fus, cus, hax, hlen, hrep⟩ := target_rep h ht
  rcases hs with hs | hs
  rotate_left
  · obtain ⟨u, h1, h2⟩ := hs G.Pr W _ hlen (fun i l u hl hu => (hrep i l u hl hu).2.1 (List.all_eq_true.1 hp l (List.mem_of_getElem? hl)))
    exact sim_rd h (v := u) (by rw [run_callV' ho hc hax, h1]) h2 hd hk
  unfold Oper.wp
  rw [run_callV ho hc hax hs.1]
  have hcall := hs.2 G.Pr W _ h.prlt hlen (fun i l u hl hu => (hrep i l u hl hu).2.1 (List.all_eq_true.1 hp l (List.mem_of_getElem? hl)))
  refine Calls.mono hcall ?_
  rintro e W' ⟨u, rfl, hb, hr⟩
  exact hk _ _ ⟨_, (h.grow hb).put' hd (RepT.of_rd hr) .zero (fun k hk => by rw [keys_of_rd hr] at hk; cases hk)⟩

/-! ### a slice of no elements, in new memory -/
theorem sim_buildSlice0 (h : SimG C G s a W) {o : Oper} {t e d : Nat} {parts : Array (Nat × Operand)} {ti : TI} {i : TypeInfo} (hu : P.underlying t = some (.slice e)) (hT : TOk P e ti i) (ho : o.op = .buildSlice t 0 parts) (hdst : o.dst = some d) (hd : DstOk C o)
    (hs : 0 < ti.size) (hp : parts.toList = []) (hk : ∀ a' W', Sim C (((MU.box d []).apply s).put (some d) (.rs d (s.g d + 1) 0 0 ti.size)) a' W' → K a' W') : o.wp P a W K Q := by
  have hp' : parts = #[] := by simpa using hp
  have hrun : (execOp a.eval o).run P W = .ok (.value (.slice (some ⟨W.heap.size, 0, none⟩) 0 0)) (W.alloc (.cells #[] e)) := by
    have hr0 : Array.range 0 = #[] := rfl
    simp [execOp, ho, hp', Instr.buildSlice, run_underlying hu, hT.run_sizeOf, Instr.fill, newRow, hr0]
  unfold Oper.wp
  rw [hrun]
  show K (a.put o.dst _) _
  rw [hdst]
  refine hk _ _ ⟨_, (h.newObj (W' := W.alloc _) (cap := 0) (sz := ti.size) (by simp) (fun _ => ⟨by simp, by simp [maxLen]⟩) (fun j l tg u h1 h2 => by simp at h1) rfl rfl rfl rfl).put (hd d hdst) ?_ .zero ?_⟩
  · exact ⟨by simp [Gh.newKey], hs, by simp [Gh.newKey], _, _, rfl, Nat.le_refl _, fun _ => ⟨by simp [Gh.newKey], by simp [Gh.newKey]⟩⟩
  · intro k hk
    simp only [LV.keys, List.mem_singleton] at hk
    subst hk
    simp [MU.apply]

/-! ### nothing is appended -/
theorem slice_of (h : SimG C G s a W) {x : Operand} (hx : ((s.eval x).asList.isSome || (s.eval x).isRow) = true) : ∃ A n c, a.eval x = .slice A n c ∧ n ≤ c := by
  have hr := h.eval x
  cases hl : (s.eval x).asList with
  | some xs =>
    have := ptr_of_asList hr hl
    generalize a.eval x = ax at this
    cases this with
    | list sz U hc hm hs ha hh => exact ⟨_, _, _, rfl, hc⟩
  | none =>
    rw [hl] at hx
    generalize s.eval x = lx at hx hr
    cases lx <;> simp [LV.isRow] at hx
    obtain ⟨_, _, _, A, c, he, hn, _⟩ := hr
    exact ⟨_, _, _, he, hn⟩

theorem sim_append_none (h : SimG C G s a W) {o : Oper} {t e : Nat} {c : Call} {sx xx : Operand} {i : TypeInfo} (hu : P.underlying t = some (.slice e)) (hi : P.info? e = some i)
    (ho : o.op = .call c) (hc : c.callee = .builtin .append) (hca : c.args = #[sx, xx]) (hct : c.argTypes = #[t, t]) (hd : DstOk C o) (hx : ((s.eval sx).asList.isSome || (s.eval sx).isRow) = true) (hy : (s.eval xx).asList = some [])
    (hk : ∀ a' W', Sim C (s.put o.dst (s.eval sx) (s.tag sx)) a' W' → K a' W') : o.wp P a W K Q := by
  obtain ⟨A, n, cc, hax, hnc⟩ := slice_of h hx
  obtain ⟨B, cb, hay⟩ : ∃ B cb, a.eval xx = .slice B 0 cb := by
    have := ptr_of_asList (h.eval xx) hy
    generalize a.eval xx = ax at this
    cases this with
    | list sz U hc hm hs ha hh => exact ⟨_, _, rfl⟩
  refine wp_value (u := .slice A n cc) ?_ (hk _ _ ⟨G, h.put' hd (by rw [← hax]; exact h.eval sx) (by rw [← hax]; exact h.tagE sx) (h.wfE sx)⟩)
  have hr : (Builtin.append_ #[t, t] o.type #[.slice A n cc, .slice B 0 cb]).run P W = .ok (.slice A n cc) W := by
    cases A <;> cases B <;> simp [Builtin.append_, run_underlying hu, sizeOf, typeInfo, hi, Builtin.lenOf, hnc, Builtin.firstCells, storeCells, loadCells, loadCellsFrom]
  simp only [execOp, ho, resolve, hc, hca, hct, hax, hay, invoke, builtin, List.map_toArray, List.map_cons, List.map_nil, Sem.run_bind, Sem.run_pure, Result.andThen_ok, hr]

/-! ### a slice cut off behind its end -/
theorem run_sliceBounds3 (len cap : Nat) (lo hi : Option Value) (l m k : Nat) (kk : IntKind) (hlm : l ≤ m) (hmk : m ≤ k) (hkc : k ≤ cap)
    (hl : (lo = none ∧ l = 0) ∨ ∃ k, lo = some (.int k l)) (hh : ∃ k, hi = some (.int k m)) : (Instr.sliceBounds true len cap lo hi (some (.int kk k))).run P W = .ok (l, m, k) W := by
  obtain ⟨k2, rfl⟩ := hh
  rcases hl with ⟨rfl, rfl⟩ | ⟨k1, rfl⟩ <;> simp [Instr.sliceBounds, Instr.sliceBound, asIntOf, hlm, hmk, hkc]

theorem rd_piece3 {Pr : Nat → Nat → Prop} {xs : List (List LV)} {A : Option Addr} {c sz l m k : Nat} (hr : Rd Pr W (.list xs) (.slice A xs.length c)) (hz : ∀ e ∈ xs, e.length = sz) (hlm : l ≤ m) (hm : m ≤ k) (hk : k ≤ xs.length) :
    Rd Pr W (.list ((xs.take m).drop l)) (.slice (if k = l then A else A.map (·.add (l * sz))) (m - l) (k - l)) := by
  generalize hv : Value.slice A xs.length c = v at hr
  cases hr with
  | list sz' U hc hmx hs ha hh =>
    injection hv with h1 h2 h3
    subst h1; subst h3
    have hlen : ((xs.take m).drop l).length = m - l := by rw [List.length_drop, List.length_take, Nat.min_eq_left (by omega)]
    have hget : ∀ (j : Nat) e, ((xs.take m).drop l)[j]? = some e → xs[l + j]? = some e := by
      intro j e hj
      rw [List.getElem?_drop, List.getElem?_take] at hj
      split at hj
      · exact hj
      · cases hj
    have := Rd.list (Pr := Pr) (W := W) (xs := (xs.take m).drop l) (A := if k = l then A else A.map (·.add (l * sz))) (c := k - l) sz (fun j i => U (l + j) i) (by omega) (by omega)
      (fun e he => hz e (List.mem_of_mem_take (List.mem_of_mem_drop he)))
      (fun hn => by
        rw [hlen] at hn
        obtain ⟨ad, rfl, hcell⟩ := ha (by omega)
        refine ⟨ad.add (l * sz), ?_, fun j e i x hj hi => ?_⟩
        · rw [if_neg (by omega)]; rfl
        · have hx := hcell (l + j) e i x (hget j e hj) hi
          have hsz : sz' = sz := by rw [← hs e (List.mem_of_getElem? (hget j e hj)), hz e (List.mem_of_getElem? (hget j e hj))]
          subst hsz
          rw [addr_add_add, show l * sz' + (j * sz' + i) = (l + j) * sz' + i by rw [Nat.add_mul, Nat.add_assoc]]
          exact hx)
      (fun j e i x hj hi => hh (l + j) e i x (hget j e hj) hi)
    rwa [hlen] at this

theorem sim_slice_list3 (h : SimG C G s a W) {o : Oper} {t e l m k : Nat} {kk : IntKind} {x z : Operand} {lo hi : Option Operand} {ti : TI} {i : TypeInfo} {xs : List (List LV)} (hu : P.underlying t = some (.slice e)) (hT : TOk P e ti i) (ho : o.op = .slice t x lo hi (some z)) (hd : DstOk C o)
    (hx : (s.eval x).asList = some xs) (hl : BoundIs (lo.map s.eval) l 0) (hh : ∃ k, hi.map s.eval = some (.v (.int k m))) (hz' : s.eval z = .v (.int kk k)) (hlm : l ≤ m) (hm : m ≤ k) (hk' : k ≤ xs.length) (hz : ∀ e ∈ xs, e.length = ti.size)
    (hk : ∀ a' W', Sim C (s.put o.dst (.list ((xs.take m).drop l))) a' W' → K a' W') : o.wp P a W K Q := by
  have hr := ptr_of_asList (h.eval x) hx
  obtain ⟨A, c, hax, hc⟩ : ∃ A c, a.eval x = .slice A xs.length c ∧ xs.length ≤ c := by
    generalize hax : a.eval x = ax at hr
    cases hr with
    | list sz U hc hm hs ha hh => exact ⟨_, _, rfl, hc⟩
  rw [hax] at hr
  refine sim_rd h (v := .slice (if k = l then A else A.map (·.add (l * ti.size))) (m - l) (k - l)) ?_ (rd_piece3 hr hz hlm hm hk') hd hk
  have hb := run_sliceBounds3 (P := P) (W := W) xs.length c (lo.map a.eval) (hi.map a.eval) l m k kk hlm hm (by omega) (bound_real h hl) (by
    obtain ⟨k2, hk2⟩ := hh
    rcases bound_real h (dflt := m) (.inr ⟨k2, hk2⟩) with ⟨h1, _⟩ | h1
    · cases hi <;> simp at h1 hk2
    · exact h1)
  simp [execOp, ho, hax, rd_vv h hz', Instr.sliceAt, Instr.slice, run_underlying hu, hb, hT.run_sizeOf]

/-! ### a call through an interface -/
theorem sim_invoke (h : SimG C G s a W) {o : Oper} {c : Call} {x : Operand} {name : String} {t f : Nat} {l r : LV} (ho : o.op = .call c) (hc : c.callee = .invoke x name) (hd : DstOk C o) (hx : s.eval x = .ifc t l) (hm : MethOk P t name f)
    (hp : (l :: c.args.toList.map s.eval).all LV.plain = true) (hs : CallSpec P f (l :: c.args.toList.map s.eval) r) (hk : ∀ a' W', Sim C (s.put o.dst r) a' W' → K a' W') : o.wp P a W K Q := by
  have hrx : Rd G.Pr W (.ifc t l) (a.eval x) := by have := h.eval x; rw [hx] at this; exact this
  generalize hax : a.eval x = ax at hrx
  cases hrx with
  | @ifc _ _ u hpl hl =>
    have hargs : c.args.map a.eval = (c.args.toList.map a.eval).toArray := by rw [← Array.toList_map]
    have hpa : (c.args.toList.map s.eval).all LV.plain = true := by rw [List.all_cons, Bool.and_eq_true] at hp; exact hp.2
    have hrd := evals_rd h hpa
    rcases hs with hs | hs
    rotate_left
    · obtain ⟨u', h1, h2⟩ := hs G.Pr W (u :: c.args.toList.map a.eval) (by simp) (fun i l' u' hi hu => by
        cases i with
        | zero =>
          simp only [List.getElem?_cons_zero, Option.some.injEq] at hi hu
          subst hi; subst hu
          exact hl
        | succ i => exact hrd i l' u' (by simpa using hi) (by simpa using hu))
      refine sim_rd h (v := u') ?_ h2 hd hk
      have h3 := hm u W
      simp only [execOp, ho, resolve, hc, hax, hargs, Sem.run_bind, Sem.run_pure, Result.andThen_ok, invoke]
      have htake : List.take c.args.size (c.args.toList.map a.eval) = c.args.toList.map a.eval := List.take_of_length_le (by simp)
      simp [callMethod, h3, htake, h1]
    have hrun : (execOp a.eval o).run P W = .ok (.enter f (u :: c.args.toList.map a.eval).toArray) W := by
      have h1 := hm u W
      have h2 := hs.1 (#[u] ++ (c.args.toList.map a.eval).toArray) W
      simp only [execOp, ho, resolve, hc, hax, hargs, Sem.run_bind, Sem.run_pure, Result.andThen_ok, invoke]
      have htake : List.take c.args.size (c.args.toList.map a.eval) = c.args.toList.map a.eval := List.take_of_length_le (by simp)
      simp only [List.size_toArray, List.push_append_toArray, List.append_toArray, List.cons_append, List.nil_append] at h2
      simp [callMethod, h1, htake, h2]
    unfold Oper.wp
    rw [hrun]
    have hpa : (c.args.toList.map s.eval).all LV.plain = true := by rw [List.all_cons, Bool.and_eq_true] at hp; exact hp.2
    have hrd := evals_rd h hpa
    have hcall := hs.2 G.Pr W (u :: c.args.toList.map a.eval) h.prlt (by simp) (fun i l' u' hi hu => by
      cases i with
      | zero =>
        simp only [List.getElem?_cons_zero, Option.some.injEq] at hi hu
        subst hi; subst hu
        exact hl
      | succ i => exact hrd i l' u' (by simpa using hi) (by simpa using hu))
    refine Calls.mono hcall ?_
    rintro e W' ⟨u', rfl, hb, hr⟩
    exact hk _ _ ⟨_, (h.grow hb).put' hd (RepT.of_rd hr) .zero (fun k hk => by rw [keys_of_rd hr] at hk; cases hk)⟩

/-! ### structs, compared part by part -/
theorem sim_aggOp (h : SimG C G s a W) {o : Oper} {op : BinOp} {t t' : TypeId} {x y : Operand} {l : LV} {n : Nat} (hq : EqOk P t n) (ho : o.op = .binOp op t x y t') (hd : DstOk C o) (hl : aggOp n op (s.eval x) (s.eval y) = some l)
    (hk : ∀ a' W', Sim C (s.put o.dst l) a' W' → K a' W') : o.wp P a W K Q := by
  unfold aggOp at hl
  split at hl
  · rename_i xs ys hx hy
    split at hl
    rotate_left
    · cases hl
    rename_i hn
    have hrx : Rd G.Pr W (.agg xs) (a.eval x) := by have := h.eval x; rw [hx] at this; exact this
    have hry : Rd G.Pr W (.agg ys) (a.eval y) := by have := h.eval y; rw [hy] at this; exact this
    have hax : ∃ cs, a.eval x = .agg cs := by
      generalize a.eval x = u at hrx
      cases hrx; exact ⟨_, rfl⟩
    have hay : ∃ cs, a.eval y = .agg cs := by
      generalize a.eval y = u at hry
      cases hry; exact ⟨_, rfl⟩
    obtain ⟨cs, hcs⟩ := hax
    obtain ⟨cs', hcs'⟩ := hay
    have hprog : ∀ w, (program).run P w = .ok P w := fun w => by simp
    split at hl
    · obtain ⟨b, hb, rfl⟩ := Option.map_eq_some_iff.1 hl
      have he := hq.2 G.Pr W xs ys _ _ b hn hb hrx hry
      have hg : (eqGuard .eql t x y (a.eval x) (a.eval y)).run P W = .ok () W := by
        rw [hcs, hcs']
        simp [eqGuard, hq.1]
      refine sim_val h (v := .bool b) ?_ rfl hd hk
      simp only [execOp, ho, Sem.run_bind, hg, Result.andThen_ok]
      rw [hcs, hcs'] at he ⊢
      simp [binOp, he]
    · obtain ⟨b, hb, rfl⟩ := Option.map_eq_some_iff.1 hl
      have he := hq.2 G.Pr W xs ys _ _ b hn hb hrx hry
      have hg : (eqGuard .neq t x y (a.eval x) (a.eval y)).run P W = .ok () W := by
        rw [hcs, hcs']
        simp [eqGuard, hq.1]
      refine sim_val h (v := .bool (!b)) ?_ rfl hd hk
      simp only [execOp, ho, Sem.run_bind, hg, Result.andThen_ok]
      rw [hcs, hcs'] at he ⊢
      simp [binOp, he]
    · cases hl
  · cases hl

/-! ### the least and the greatest -/
theorem minL_run (gr : Bool) {k : IntKind} : ∀ (xs : List Operand) (n : Int) (l : LV), minL gr k n (xs.map s.eval) = some l → SimG C G s a W → ∃ m, l = .v (.int k m) ∧ (List.foldlM (if gr then Builtin.max2 else Builtin.min2) (.int k n) (xs.map a.eval)).run P W = .ok (.int k m) W
  | [], n, l, hm, h => by
    simp only [List.map_nil, minL, Option.some.injEq] at hm
    subst hm
    exact ⟨n, rfl, by simp⟩
  | x :: xs, n, l, hm, h => by
    rw [List.map_cons] at hm
    cases hx : s.eval x with
    | v u =>
      rw [hx] at hm
      cases u with
      | int k' y =>
        simp only [minL] at hm
        split at hm
        · rename_i hkk
          subst hkk
          obtain ⟨m, h1, h2⟩ := minL_run gr xs _ l hm h
          refine ⟨m, h1, ?_⟩
          rw [List.map_cons, List.foldlM_cons, rd_vv h hx]
          cases gr
          · simpa [Builtin.min2] using h2
          · simpa [Builtin.max2] using h2
        · cases hm
      | _ => simp [minL] at hm
    | _ => rw [hx] at hm; simp [minL] at hm

theorem sim_minmax (h : SimG C G s a W) (gr : Bool) {o : Oper} {c : Call} {k : IntKind} {n : Int} {r : List LV} {l : LV} (ho : o.op = .call c) (hc : c.callee = .builtin (if gr then .max else .min)) (hd : DstOk C o)
    (hx : c.args.toList.map s.eval = .v (.int k n) :: r) (hm : minL gr k n r = some l) (hk : ∀ a' W', Sim C (s.put o.dst l) a' W' → K a' W') : o.wp P a W K Q := by
  cases hxs : c.args.toList with
  | nil => rw [hxs] at hx; cases hx
  | cons x xs =>
    rw [hxs, List.map_cons] at hx
    injection hx with h1 h2
    subst h2
    obtain ⟨m, rfl, h3⟩ := minL_run (P := P) (W := W) gr xs n l hm h
    have hargs : c.args = (x :: xs).toArray := by rw [← hxs]
    refine sim_val h (v := .int k m) ?_ rfl hd hk
    have h4 : c.args.map a.eval = (Value.int k n :: xs.map a.eval).toArray := by rw [hargs]; simp [rd_vv h h1]
    cases gr
    · simp only [Bool.false_eq_true, if_false] at hc h3
      simp only [execOp, ho, resolve, hc, h4, Sem.run_bind, Sem.run_pure, Result.andThen_ok, invoke, builtin, Builtin.min_, h3]
    · simp only [if_true] at hc h3
      simp only [execOp, ho, resolve, hc, h4, Sem.run_bind, Sem.run_pure, Result.andThen_ok, invoke, builtin, Builtin.max_, h3]
end
end Go.LI
