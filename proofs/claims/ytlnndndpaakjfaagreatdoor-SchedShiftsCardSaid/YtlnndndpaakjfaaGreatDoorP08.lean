/- Texts of a small semantics over the model and of specifications of functions, joined: LIEff, LIRegion. -/
import Derived.Test.YtlnndndpaakjfaaGreatDoorP07
import Derived.OrdersIn
import Derived.CallsIn
import Derived.RangeFuncCalls
import Derived.TacticsIn
set_option linter.unusedSimpArgs false
set_option linter.unusedVariables false
namespace Go.LI
open Go Go.RowKit

section
variable {C : Ctx} {G : Gh} {s : S} {a : Act} {W : World}
variable {P : Program} {τ : Tab} {Γ : Env} {K : Act → World → Prop} {Q : Exit → Act → World → Prop}

theorem desc_some {t : Nat} {d : TD} (h : desc τ t = some d) : ∃ ti, τ t = some ti ∧ ti.d = d := by
  unfold desc at h
  cases ht : τ t with
  | none => rw [ht] at h; cases h
  | some ti => rw [ht] at h; exact ⟨ti, rfl, by simpa using h⟩

theorem TOk.under {t : Nat} {ti : TI} {i : TypeInfo} (h : TOk P t ti i) {k : IntKind} (hd : ti.d = .int k) : P.underlying t = some (.int k) := by have := h.d; rw [hd] at this; exact this
theorem TOk.under_bool {t : Nat} {ti : TI} {i : TypeInfo} (h : TOk P t ti i) (hd : ti.d = .bool) : P.underlying t = some .bool := by have := h.d; rw [hd] at this; exact this
theorem TOk.under_str {t : Nat} {ti : TI} {i : TypeInfo} (h : TOk P t ti i) (hd : ti.d = .str) : P.underlying t = some .string := by have := h.d; rw [hd] at this; exact this
theorem TOk.under_slice {t e : Nat} {ti : TI} {i : TypeInfo} (h : TOk P t ti i) (hd : ti.d = .slice e) : P.underlying t = some (.slice e) := by have := h.d; rw [hd] at this; exact this
theorem TOk.under_arr {t e n : Nat} {ti : TI} {i : TypeInfo} (h : TOk P t ti i) (hd : ti.d = .arr e n) : P.underlying t = some (.array n e) := by have := h.d; rw [hd] at this; exact this

theorem mapM_get {α β : Type} (f : α → Option β) : ∀ (l : List α) (r : List β), l.mapM f = some r → ∀ (i : Nat) y, r[i]? = some y → ∃ x, l[i]? = some x ∧ f x = some y
  | [], r, h, i, y, hy => by simp at h; subst h; simp at hy
  | x :: l, r, h, i, y, hy => by
    simp only [List.mapM_cons, Option.bind_eq_bind, Option.pure_def] at h
    cases hx : f x with
    | none => rw [hx] at h; cases h
    | some z =>
      rw [hx] at h
      cases hl : l.mapM f with
      | none => rw [hl] at h; cases h
      | some r' =>
        rw [hl] at h
        simp only [Option.bind_some, Option.some.injEq] at h
        subst h
        cases i with
        | zero => simp only [List.getElem?_cons_zero, Option.some.injEq] at hy; subst hy; exact ⟨x, rfl, hx⟩
        | succ i => exact mapM_get f l r' hl i y (by simpa using hy)

theorem TOk.field {t f off sz : Nat} {ti : TI} {i : TypeInfo} {fs : List (Nat × Nat)} (h : TOk P t ti i) (hd : ti.d = .struct fs) (hf : fs[f]? = some (off, sz)) :
    ∃ (fields : Array Field) (fd : Field) (j : TypeInfo), P.underlying t = some (.struct fields) ∧ fields[f]? = some fd ∧ P.info? fd.type = some j ∧ fd.offset = off ∧ j.size = sz := by
  have := h.d
  rw [hd] at this
  obtain ⟨fields, hu, hm⟩ := this
  obtain ⟨fd, h1, h2⟩ := mapM_get _ _ _ hm f _ hf
  cases hi : P.info? fd.type with
  | none => rw [hi] at h2; cases h2
  | some j =>
    rw [hi] at h2
    simp only [Option.map_some, Option.some.injEq, Prod.mk.injEq] at h2
    exact ⟨fields, fd, j, hu, by simpa using h1, hi, h2.1, h2.2⟩

theorem elemOf_some (hτ : TabOk P τ) {t e : Nat} {ti : TI} (h : elemOf τ t = some (e, ti)) : P.underlying t = some (.slice e) ∧ ∃ i, TOk P e ti i := by
  unfold elemOf at h
  cases ht : τ t with
  | none => rw [ht] at h; cases h
  | some tt =>
    rw [ht] at h
    obtain ⟨d, sz, by_, z, ft⟩ := tt
    cases d <;> simp only at h <;> try cases h
    rename_i e'
    cases he : τ e' with
    | none => rw [he] at h; cases h
    | some te =>
      rw [he] at h
      simp only [Option.map_some, Option.some.injEq, Prod.mk.injEq] at h
      obtain ⟨rfl, rfl⟩ := h
      obtain ⟨i, hi⟩ := hτ _ _ ht
      exact ⟨hi.under_slice rfl, hτ _ _ he⟩

theorem arrOf_some (hτ : TabOk P τ) {t n : Nat} {ti : TI} (h : arrOf τ t = some (n, ti)) : ∃ e, P.underlying t = some (.array n e) ∧ ∃ i, TOk P e ti i := by
  unfold arrOf at h
  cases ht : τ t with
  | none => rw [ht] at h; cases h
  | some tt =>
    rw [ht] at h
    obtain ⟨d, sz, by_, z, ft⟩ := tt
    cases d <;> simp only at h <;> try cases h
    rename_i e' n'
    cases he : τ e' with
    | none => rw [he] at h; cases h
    | some te =>
      rw [he] at h
      simp only [Option.map_some, Option.some.injEq, Prod.mk.injEq] at h
      obtain ⟨rfl, rfl⟩ := h
      obtain ⟨i, hi⟩ := hτ _ _ ht
      exact ⟨e', hi.under_arr rfl, hτ _ _ he⟩

def EffOk (P : Program) (τ : Tab) (Γ : Env) (o : Oper) : Prop :=
  ∀ {C : Ctx} {G : Gh} {s : S} {a : Act} {W : World} {K : Act → World → Prop} {Q : Exit → Act → World → Prop} {u : Upd},
    SimG C G s a W → DstOk C o → eff τ Γ s o = some u → (∀ a' W', Sim C (u.apply o.dst s) a' W' → K a' W') → o.wp P a W K Q

theorem eff_load (hτ : TabOk P τ) {o : Oper} {t : Nat} {x : Operand} (ho : o.op = .load t x) : EffOk P τ Γ o := by
  intro C G s a W K Q u h hd he hk
  simp only [eff, ho] at he
  cases ht : τ t with
  | none => rw [ht] at he; cases he
  | some ti =>
    rw [ht] at he
    obtain ⟨i, hT⟩ := hτ _ _ ht
    simp only at he
    cases hx : s.eval x <;> rw [hx] at he <;> simp only at he <;> try cases he
    case el cs =>
      cases hp : part ti.d.isAgg ti.size cs with
      | none => rw [hp] at he; cases he
      | some l =>
        rw [hp] at he
        simp only [Option.map_some, Option.some.injEq] at he
        subst he
        exact sim_load_el h hT ho hd hx hp hk
    case ptr d g off =>
      cases hb : s.b d g with
      | none => rw [hb] at he; cases he
      | some cells =>
        rw [hb] at he
        simp only at he
        split at he
        · cases he
        · rename_i hpl
          cases hp : part ti.d.isAgg ti.size ((cells.drop off).map (·.1)) with
          | none => rw [hp] at he; cases he
          | some l =>
            rw [hp] at he
            simp only [Option.map_some, Option.some.injEq] at he
            subst he
            exact sim_load_ptr h hT ho hd hx hb hpl hp hk

theorem eff_binOp (hτ : TabOk P τ) (hΓ : EnvOk P Γ) {o : Oper} {op : BinOp} {t t' : Nat} {x y : Operand} (ho : o.op = .binOp op t x y t') : EffOk P τ Γ o := by
  intro C G s a W K Q u h hd he hk
  simp only [eff, ho] at he
  split at he
  · rename_i hsl
    obtain ⟨l, hl, rfl⟩ := Option.map_eq_some_iff.1 he
    cases hds : desc τ t with
    | none => rw [hds] at hsl; cases hsl
    | some d =>
      rw [hds] at hsl
      cases d <;> simp only [isSliceTy] at hsl <;> try (cases hsl; done)
      obtain ⟨ti, ht, htd⟩ := desc_some hds
      obtain ⟨i, hT⟩ := hτ _ _ ht
      exact sim_sliceOp h (hT.under_slice htd) ho hd hl hk
  · split at he
    · rename_i n heq
      obtain ⟨l, hl, rfl⟩ := Option.map_eq_some_iff.1 he
      exact sim_aggOp h (hΓ.2.1.2 _ _ heq) ho hd hl hk
    split at he
    · rename_i xv yv hx hy
      split at he
      · rename_i hc
        cases hr : binOpV op xv yv with
        | none => rw [hr] at he; cases he
        | some r =>
          rw [hr] at he
          simp only [Option.map_some, Option.some.injEq] at he
          subst he
          refine sim_binOp h ho hd hx hy hr (fun b hb => ?_) hk
          subst hb
          simp only [boolOk] at hc
          cases hds : desc τ t with
          | none => rw [hds] at hc; simp at hc
          | some d =>
            rw [hds] at hc
            cases d <;> simp at hc
            obtain ⟨ti, ht, htd⟩ := desc_some hds
            obtain ⟨i, hT⟩ := hτ _ _ ht
            exact hT.under_bool htd
      · cases he
    · cases he

theorem eff_convert (hτ : TabOk P τ) {o : Oper} {t t' : Nat} {x : Operand} (ho : o.op = .convert t t' x) : EffOk P τ Γ o := by
  intro C G s a W K Q u h hd he hk
  simp only [eff, ho] at he
  split at he
  · rename_i k k' k2 n h1 h2 h3
    simp only [Option.some.injEq] at he
    subst he
    obtain ⟨ti, ht, htd⟩ := desc_some h1
    obtain ⟨i, hT⟩ := hτ _ _ ht
    obtain ⟨ti', ht', htd'⟩ := desc_some h2
    obtain ⟨i', hT'⟩ := hτ _ _ ht'
    exact sim_convInt h ho hd h3 (hT.under htd) (hT'.under htd') hk
  · rename_i b h1 h2 h3
    simp only [Option.some.injEq] at he
    subst he
    obtain ⟨ti, ht, htd⟩ := desc_some h1
    obtain ⟨i, hT⟩ := hτ _ _ ht
    obtain ⟨ti', ht', htd'⟩ := desc_some h2
    obtain ⟨i', hT'⟩ := hτ _ _ ht'
    exact sim_convStr h ho hd h3 (hT.under_str htd) (hT'.under_str htd') hk
  · cases he

theorem eff_fieldAddr (hτ : TabOk P τ) {o : Oper} {t f : Nat} {x : Operand} (ho : o.op = .fieldAddr t x f) : EffOk P τ Γ o := by
  intro C G s a W K Q u h hd he hk
  simp only [eff, ho] at he
  cases ht : τ t with
  | none => rw [ht] at he; cases he
  | some ti =>
    rw [ht] at he
    obtain ⟨i, hT⟩ := hτ _ _ ht
    obtain ⟨d, size, by_, z, ft⟩ := ti
    cases d <;> simp only at he <;> try cases he
    rename_i fs
    split at he
    · rename_i off sz d g p hf hx
      split at he
      · rename_i hs
        simp only [Option.some.injEq] at he
        subst he
        obtain ⟨fields, fd, j, h1, h2, h3, h4, h5⟩ := hT.field rfl hf
        subst h4
        exact sim_fieldAddr_ptr h ho hd h1 h2 h3 (by omega) hx hk
      · cases he
    · rename_i off sz cs hf hx
      split at he
      · rename_i hs
        simp only [Option.some.injEq] at he
        subst he
        obtain ⟨fields, fd, j, h1, h2, h3, h4, h5⟩ := hT.field rfl hf
        subst h4
        exact sim_fieldAddr_el h ho hd h1 h2 h3 (by omega) hx hk
      · cases he
    · cases he

theorem eff_field (hτ : TabOk P τ) {o : Oper} {t f : Nat} {x : Operand} (ho : o.op = .field t x f) : EffOk P τ Γ o := by
  intro C G s a W K Q u h hd he hk
  simp only [eff, ho] at he
  cases ht : τ t with
  | none => rw [ht] at he; cases he
  | some ti =>
    rw [ht] at he
    obtain ⟨i, hT⟩ := hτ _ _ ht
    obtain ⟨d, size, by_, z, ft⟩ := ti
    cases d <;> simp only at he <;> try cases he
    rename_i fs
    split at he
    · rename_i off sz fi cs hf hft hx
      cases hp : part fi.d.isAgg fi.size (cs.drop off) with
      | none => rw [hp] at he; cases he
      | some l =>
        rw [hp] at he
        simp only [Option.map_some, Option.some.injEq] at he
        subst he
        obtain ⟨fields, fd, j, h1, h2, h3, h4, h5⟩ := hT.field rfl hf
        subst h4
        cases hftt : ft[f]? with
        | none => rw [hftt] at hft; cases hft
        | some ty =>
          rw [hftt] at hft
          simp only [Option.bind_some] at hft
          have := hT.ft fields h1 f fd ty h2 hftt
          subst this
          obtain ⟨j', hT'⟩ := hτ _ _ hft
          exact sim_field h ho hd h1 h2 hT' hx hp hk
    · cases he

theorem eff_index (hτ : TabOk P τ) {o : Oper} {t : Nat} {x y : Operand} (ho : o.op = .index t x y) : EffOk P τ Γ o := by
  intro C G s a W K Q u h hd he hk
  simp only [eff, ho] at he
  split at he
  · rename_i b k n h1 h2 h3
    split at he
    · rename_i h0
      cases hc : b[n.toNat]? with
      | none => rw [hc] at he; cases he
      | some c =>
        rw [hc] at he
        simp only [Option.map_some, Option.some.injEq] at he
        subst he
        obtain ⟨ti, ht, htd⟩ := desc_some h1
        obtain ⟨i, hT⟩ := hτ _ _ ht
        exact sim_index_str h ho hd (hT.under_str htd) h2 h3 h0 hc hk
    · cases he
  · rename_i e len cs k n h1 h2 h3
    cases hte : τ e with
    | none => rw [hte] at he; cases he
    | some te =>
      rw [hte] at he
      simp only at he
      split at he
      · rename_i hb
        cases hp : part te.d.isAgg te.size (cs.drop (n.toNat * te.size)) with
        | none => rw [hp] at he; cases he
        | some l =>
          rw [hp] at he
          simp only [Option.map_some, Option.some.injEq] at he
          subst he
          obtain ⟨ti, ht, htd⟩ := desc_some h1
          obtain ⟨i, hT⟩ := hτ _ _ ht
          obtain ⟨i', hT'⟩ := hτ _ _ hte
          exact sim_index_arr h ho hd (hT.under_arr htd) hT' h2 h3 hb.1 hb.2 hp hk
      · cases he
  · cases he

theorem eff_indexAddr (hτ : TabOk P τ) {o : Oper} {t : Nat} {x y : Operand} (ho : o.op = .indexAddr t x y) : EffOk P τ Γ o := by
  intro C G s a W K Q u h hd he hk
  simp only [eff, ho] at he
  split at he
  · obtain ⟨l, hl, rfl⟩ := Option.map_eq_some_iff.1 he
    cases ha : arrOf τ t with
    | none => rw [ha] at hl; cases hl
    | some p =>
      obtain ⟨n, ti⟩ := p
      rw [ha] at hl
      obtain ⟨e, hu, i, hT⟩ := arrOf_some hτ ha
      exact sim_indexAddr_arr h ho hd hu hT hl hk
  split at he
  · rename_i d g lo n sz hx
    split at he
    · rename_i e ti k j h1 h3
      split at he
      · rename_i hb
        simp only [Option.some.injEq] at he
        subst he
        obtain ⟨hu, i, hT⟩ := elemOf_some hτ h1
        exact sim_indexAddr_row h ho hd hu hT hx h3 hb.1 hb.2.1 hb.2.2 hk
      · cases he
    · cases he
  · split at he
    · rename_i e ti xs k n h1 h2 h3
      split at he
      · rename_i hb
        cases hc : xs[n.toNat]? with
        | none => rw [hc] at he; cases he
        | some c =>
          rw [hc] at he
          simp only [Option.bind_some] at he
          split at he
          · rename_i hl
            simp only [Option.some.injEq] at he
            subst he
            obtain ⟨hu, i, hT⟩ := elemOf_some hτ h1
            exact sim_indexAddr h ho hd hu hT h2 h3 hb.1 hb.2 hc hl hk
          · cases he
      · cases he
    · cases he

theorem eff_build (hτ : TabOk P τ) {o : Oper} {t : Nat} {parts : Array (Nat × Operand)} (ho : o.op = .build t parts) : EffOk P τ Γ o := by
  intro C G s a W K Q u h hd he hk
  simp only [eff, ho] at he
  cases ht : τ t with
  | none => rw [ht] at he; cases he
  | some ti =>
    rw [ht] at he
    obtain ⟨i, hT⟩ := hτ _ _ ht
    obtain ⟨d, size, by_, z, ft⟩ := ti
    cases d <;> simp only at he <;> try cases he
    case struct fs =>
      split at he
      · rename_i hp
        cases hf : fillL (fs[·]?) (z.map .v) (parts.toList.map fun p => (p.1, s.eval p.2)) with
        | none => rw [hf] at he; cases he
        | some cs =>
          rw [hf] at he
          simp only [Option.bind_some] at he
          split at he
          · rename_i h1
            simp only [Option.some.injEq] at he
            subst he
            exact sim_build h hT rfl ho hd hp hf h1 hk
          · cases he
      · cases he
    case arr e n =>
      cases hte : τ e with
      | none => rw [hte] at he; cases he
      | some te =>
        rw [hte] at he
        simp only at he
        split at he
        · rename_i hp
          cases hf : fillL (fun i => some (i * te.size, te.size)) (z.map .v) (parts.toList.map fun p => (p.1, s.eval p.2)) with
          | none => rw [hf] at he; cases he
          | some cs =>
            rw [hf] at he
            simp only [Option.bind_some] at he
            split at he
            · rename_i h1
              simp only [Option.some.injEq] at he
              subst he
              obtain ⟨i', hT'⟩ := hτ _ _ hte
              exact sim_buildArr h hT rfl hT' ho hd hp hf h1 hk
            · cases he
        · cases he

theorem eff_buildSlice (hτ : TabOk P τ) {o : Oper} {t len : Nat} {parts : Array (Nat × Operand)} (ho : o.op = .buildSlice t len parts) : EffOk P τ Γ o := by
  intro C G s a W K Q u h hd he hk
  simp only [eff, ho] at he
  split at he
  · rename_i e ti h1
    split at he
    · rename_i h0
      subst h0
      split at he
      · rename_i d hdst
        split at he
        · rename_i hb
          simp only [Option.some.injEq] at he
          subst he
          obtain ⟨hu, i, hT⟩ := elemOf_some hτ h1
          exact sim_buildSlice0 h hu hT ho hdst hd hb.1 hb.2 (by rw [hdst] at hk; exact hk)
        · cases he
      · cases he
    split at he
    · rename_i hb
      obtain ⟨b1, b2, b3, b4, b5⟩ := hb
      cases hf : fillL (fun i => some (i * ti.size, ti.size)) ((List.replicate len (ti.zero.map LV.v)).flatten) (parts.toList.map fun p => (p.1, s.eval p.2)) with
      | none => rw [hf] at he; cases he
      | some cs =>
        rw [hf] at he
        simp only [Option.bind_some] at he
        split at he
        · rename_i h2
          simp only [Option.some.injEq] at he
          subst he
          obtain ⟨hu, i, hT⟩ := elemOf_some hτ h1
          exact sim_buildSlice h hu hT ho hd b1 b2 b3 b4 b5 hf h2 hk
        · cases he
    · cases he
  · cases he

theorem eff_store (hτ : TabOk P τ) {o : Oper} {t : Nat} {y x : Operand} (ho : o.op = .store t y x) : EffOk P τ Γ o := by
  intro C G s a W K Q u h hd he hk
  simp only [eff, ho] at he
  split at he
  · rename_i ti d g off ht hy
    obtain ⟨i, hT⟩ := hτ _ _ ht
    cases hb : s.b d g with
    | none => rw [hb] at he; cases he
    | some cells =>
      rw [hb] at he
      simp only at he
      split at he
      · rename_i hc
        simp only [Option.some.injEq] at he
        subst he
        exact sim_store h hT ho hd hy hb hc.1 hc.2.1 hc.2.2 hk
      · cases he
  · cases he

theorem bound_of {x : Option Operand} {n : Int} {k : IntKind} {dflt : Nat} (h : ((x.map s.eval).getD (.v (.int .i64 dflt))) = .v (.int k n)) (h0 : 0 ≤ n) : BoundIs (x.map s.eval) n.toNat dflt := by
  cases x with
  | none =>
    simp only [Option.map_none, Option.getD_none, LV.v.injEq, Value.int.injEq] at h
    exact .inl ⟨rfl, by omega⟩
  | some x =>
    simp only [Option.map_some, Option.getD_some] at h
    refine .inr ⟨k, ?_⟩
    rw [Option.map_some, h, Int.toNat_of_nonneg h0]

theorem eff_slice (hτ : TabOk P τ) {o : Oper} {t : Nat} {x : Operand} {lo hi mx : Option Operand} (ho : o.op = .slice t x lo hi mx) : EffOk P τ Γ o := by
  intro C G s a W K Q u h hd he hk
  simp only [eff, ho] at he
  split at he
  · rename_i b hmx hx hds
    obtain rfl : mx = none := by simpa using hmx
    obtain ⟨ti, ht, htd⟩ := desc_some hds
    obtain ⟨i, hT⟩ := hτ _ _ ht
    split at he
    · rename_i k l k' m hl hm
      split at he
      · rename_i hc
        simp only [Option.some.injEq] at he
        subst he
        exact sim_slice_str h (hT.under_str htd) ho hd hx (bound_of (dflt := 0) hl hc.1) (bound_of hm (by omega)) (by omega) (by omega) hk
      · cases he
    · cases he
  · rename_i d g lo0 n sz e hmx hx hds
    obtain rfl : mx = none := by simpa using hmx
    split at he
    · rename_i e' ti he'
      split at he
      · rename_i k l k' m hl hm
        split at he
        · rename_i hc
          simp only [Option.some.injEq] at he
          subst he
          obtain ⟨hu, i, hT⟩ := elemOf_some hτ he'
          refine sim_slice_row h hu hT ho hd hx (bound_of (dflt := 0) hl hc.1) (bound_of hm (by omega)) (by omega) (by omega) hc.2.2.2 ?_
          have e1 : (m - l).toNat = m.toNat - l.toNat := by omega
          rw [← e1]
          exact hk
        · cases he
      · cases he
    · cases he
  · rename_i e hmx hds _
    obtain rfl : mx = none := by simpa using hmx
    split at he
    · rename_i xs e' ti hxs he'
      split at he
      · rename_i k l k' m hl hm
        split at he
        · rename_i hc
          simp only [Option.some.injEq] at he
          subst he
          obtain ⟨hu, i, hT⟩ := elemOf_some hτ he'
          refine sim_slice_list h hu hT ho hd hxs (bound_of (dflt := 0) hl hc.1) (bound_of hm (by omega)) (by omega) (by omega) (fun e he => ?_) hk
          have := List.all_eq_true.1 hc.2.2.2 e he
          simpa using this
        · cases he
      · cases he
    · cases he
  · rename_i zv e hmx hds
    obtain ⟨z, rfl, hz⟩ := Option.map_eq_some_iff.1 hmx
    split at he
    · rename_i xs e' ti hxs he'
      split at he
      · rename_i k l k' m k2 q hl hm
        have hq := hz
        split at he
        · rename_i hc
          simp only [Option.some.injEq] at he
          subst he
          obtain ⟨hu, i, hT⟩ := elemOf_some hτ he'
          refine sim_slice_list3 (k := q.toNat) h hu hT ho hd hxs (bound_of (dflt := 0) hl hc.1) ⟨k', by rw [hm, Int.toNat_of_nonneg (by omega)]⟩ (by rw [hq, Int.toNat_of_nonneg (by omega)]) (by omega) (by omega) (by omega) (fun e he => ?_) hk
          have := List.all_eq_true.1 hc.2.2.2.2 e he
          simpa using this
        · cases he
      · cases he
    · cases he
  · cases he

theorem eff_callV (hΓ : EnvOk P Γ) {o : Oper} {c : Call} {x : Operand} (ho : o.op = .call c) (hc : c.callee = .value x) : EffOk P τ Γ o := by
  intro C G s a W K Q u h hd he hk
  simp only [eff, ho, effCall, hc] at he
  cases hr : evalCall Γ (s.eval x) (c.args.toList.map s.eval) with
  | some r =>
    rw [hr] at he
    simp only [Option.some.injEq] at he
    subst he
    unfold evalCall at hr
    split at hr
    · rename_i f ls ht
      split at hr
      · rename_i hp
        exact sim_call h ho hc hd ht hp (hΓ.1 _ _ _ hr) hk
      · cases hr
    · cases hr
  | none =>
    rw [hr] at he
    simp only [lendCall] at he
    split at he
    · rename_i f ls ht
      split at he
      · rename_i q hq
        split at he
        · cases he
        · rename_i hdn
          simp only [Option.some.injEq] at he
          subst he
          obtain ⟨h1, h2, h3, args', rfl, hs⟩ := hΓ.2.2 _ _ _ _ hq
          exact sim_lend h ho hc hd ht h1 h2 h3 hs (fun e => Classical.byContradiction fun hn => hdn ⟨e, hn⟩) hk
      · cases he
    · cases he

theorem eff_len (hτ : TabOk P τ) {o : Oper} {c : Call} (ho : o.op = .call c) (hc : c.callee = .builtin .len) : EffOk P τ Γ o := by
  intro C G s a W K Q u h hd he hk
  simp only [eff, ho, effCall, hc] at he
  split at he
  · rename_i x hx
    have hargs : c.args = #[x] := by rw [← Array.toList_inj, hx]
    have htt : ∀ d, desc τ (c.argTypes.getD 0 0) = some d → 0 < c.argTypes.size ∨ c.argTypes = #[] := fun d _ => by
      rcases Nat.eq_zero_or_pos c.argTypes.size with h0 | h0
      · exact .inr (Array.eq_empty_of_size_eq_zero h0)
      · exact .inl h0
    split at he
    · cases he
    · rename_i hne
      have hsz : 0 < c.argTypes.size := by
        rcases Nat.eq_zero_or_pos c.argTypes.size with h0 | h0
        · exact absurd h0 (by simpa using hne)
        · exact h0
      split at he
      · rename_i b h1 h2
        simp only [Option.some.injEq] at he
        subst he
        obtain ⟨ti, ht, htd⟩ := desc_some h2
        obtain ⟨i, hT⟩ := hτ _ _ ht
        exact sim_len_str h (hT.under_str htd) ho hc hargs rfl hsz hd h1 hk
      · rename_i d g lo n sz e h1 h2
        simp only [Option.some.injEq] at he
        subst he
        obtain ⟨ti, ht, htd⟩ := desc_some h2
        obtain ⟨i, hT⟩ := hτ _ _ ht
        exact sim_len_row h (hT.under_slice htd) ho hc hargs rfl hsz hd h1 hk
      · rename_i e h2 _
        cases hl : (s.eval x).asList with
        | none => rw [hl] at he; cases he
        | some xs =>
          rw [hl] at he
          simp only [Option.map_some, Option.some.injEq] at he
          subst he
          obtain ⟨ti, ht, htd⟩ := desc_some h2
          obtain ⟨i, hT⟩ := hτ _ _ ht
          exact sim_len_list h (hT.under_slice htd) ho hc hargs rfl hsz hd hl hk
      · cases he
  · cases he

theorem nil_of_isV {l : LV} {xs : List (List LV)} (h2 : l.asList = some xs) (hv : l.isV = true) : l = nilV ∧ xs = [] := by
  unfold LV.asList at h2
  split at h2
  · simp [LV.isV] at hv
  · simp only [Option.some.injEq] at h2
    exact ⟨rfl, h2.symm⟩
  · simp [LV.isV] at hv
  · cases h2

theorem eff_append (hτ : TabOk P τ) {o : Oper} {c : Call} (ho : o.op = .call c) (hc : c.callee = .builtin .append) : EffOk P τ Γ o := by
  intro C G s a W K Q u h hd he hk
  simp only [eff, ho, effCall, hc] at he
  split at he
  · rename_i sx xx t t' d hargs htys hdst
    split at he
    · rename_i htt
      subst htt
      have ha : c.args = #[sx, xx] := by rw [← Array.toList_inj, hargs]
      have hty : c.argTypes = #[t, t] := by rw [← Array.toList_inj, htys]
      split at he
      · rename_i hb
        obtain ⟨hb1, hb2, hb3⟩ := hb
        simp only [Option.some.injEq] at he
        subst he
        have hyl : (s.eval xx).asList = some [] := by
          generalize (s.eval xx).asList = ax at hb2
          unfold isEmptyL at hb2
          split at hb2
          · rfl
          · cases hb2
        obtain ⟨⟨e, ti⟩, hel⟩ := Option.isSome_iff_exists.1 hb1
        obtain ⟨hu, i, hT⟩ := elemOf_some hτ hel
        exact sim_append_none h hu hT.info ho hc ha hty hd hb3 hyl hk
      split at he
      · rename_i d0 g0 lo n sz hx
        split at he
        · rename_i e ti ys cells h1 h3 h4
          obtain ⟨hu, i, hT⟩ := elemOf_some hτ h1
          split at he
          · rename_i hb
            obtain ⟨_, rfl, b2, b3, b4, b5, b6, b7, b8, b9⟩ := hb
            simp only [Option.some.injEq] at he
            subst he
            have e2 : ∀ e ∈ ys, e.length = ti.size := fun e he => by simpa using List.all_eq_true.1 b4 e he
            exact sim_append_row h hu hT ho hc ha hty hdst (hd _ hdst) hx b2 h4 b3 h3 e2 b5 b6 b7 b8 b9 (by rw [hdst] at hk; exact hk)
          · cases he
        · cases he
      · split at he
        · rename_i e ti xs ys h1 h2 h3
          obtain ⟨hu, i, hT⟩ := elemOf_some hτ h1
          split at he
          · rename_i hb
            obtain ⟨b1, b2, b3, b4, b5, b6, b7⟩ := hb
            have e1 : ∀ e ∈ xs, e.length = ti.size := fun e he => by simpa using List.all_eq_true.1 b1 e he
            have e2 : ∀ e ∈ ys, e.length = ti.size := fun e he => by simpa using List.all_eq_true.1 b2 e he
            split at he
            · rename_i hv
              obtain ⟨hnil, rfl⟩ := nil_of_isV h2 hv
              simp only [List.length_nil, Nat.zero_add, List.nil_append] at b5 b6 he
              split at he
              · simp only [Option.some.injEq] at he
                subst he
                exact sim_append_newRow h hu hT ho hc ha hty hdst (hd _ hdst) hnil h3 e2 b3 b4 b5 b6 b7 (by rw [hdst] at hk; exact hk)
              · simp only [Option.some.injEq] at he
                subst he
                exact sim_append_nil h hu hT ho hc ha hty hdst (hd _ hdst) hnil h3 e2 b3 b4 b5 b6 b7 (by rw [hdst] at hk; exact hk)
            · rename_i hv
              split at he
              · rename_i ht
                simp only [Option.some.injEq] at he
                subst he
                have hlist : s.eval sx = .list xs := by
                  obtain ⟨_, hown⟩ := h.tagE sx
                  obtain ⟨w, xs', _, _, hl, _⟩ := hown ht.1 ht.2
                  rw [hl] at h2
                  simp only [LV.asList, Option.some.injEq] at h2
                  rw [hl, h2]
                exact sim_append_own h hu hT ho hc ha hty hdst (hd _ hdst) hlist e1 ht.1 ht.2 h3 e2 b3 b4 b5 b6 b7 (by rw [hdst] at hk; exact hk)
              · cases he
          · cases he
        · cases he
    · cases he
  · cases he

theorem eff_minmax (gr : Bool) {o : Oper} {c : Call} (ho : o.op = .call c) (hc : c.callee = .builtin (if gr then .max else .min)) : EffOk P τ Γ o := by
  intro C G s a W K Q u h hd he hk
  cases gr
  · simp only [Bool.false_eq_true, if_false] at hc
    simp only [eff, ho, effCall, hc] at he
    split at he
    · rename_i k n r hx
      obtain ⟨l, hl, rfl⟩ := Option.map_eq_some_iff.1 he
      exact sim_minmax h false ho hc hd hx hl hk
    · cases he
  · simp only [if_true] at hc
    simp only [eff, ho, effCall, hc] at he
    split at he
    · rename_i k n r hx
      obtain ⟨l, hl, rfl⟩ := Option.map_eq_some_iff.1 he
      exact sim_minmax h true ho hc hd hx hl hk
    · cases he

theorem eff_makeSlice (hτ : TabOk P τ) {o : Oper} {t : Nat} {x y : Operand} (ho : o.op = .makeSlice t x y) : EffOk P τ Γ o := by
  intro C G s a W K Q u h hd he hk
  simp only [eff, ho] at he
  split at he
  · rename_i e ti k n k' m d h1 hx hy hdst
    split at he
    · rename_i hb
      obtain ⟨rfl, b1, b2, b3, b4, b5⟩ := hb
      simp only [Option.some.injEq] at he
      subst he
      obtain ⟨hu, i, hT⟩ := elemOf_some hτ h1
      obtain ⟨n, rfl⟩ := Int.eq_ofNat_of_zero_le b1
      have b5' : n * ti.bytes ≤ 140737488355328 := by
        have : ((n * ti.bytes : Nat) : Int) ≤ 140737488355328 := by rw [Int.natCast_mul]; exact b5
        omega
      rw [hdst] at hk
      exact sim_makeSlice h hu hT ho hdst hd hx hy (by omega) b3 b4 b5' hk
    · cases he
  · cases he

theorem eff_copy (hτ : TabOk P τ) {o : Oper} {c : Call} (ho : o.op = .call c) (hc : c.callee = .builtin .copy) : EffOk P τ Γ o := by
  intro C G s a W K Q u h hd he hk
  simp only [eff, ho, effCall, hc] at he
  split at he
  · rename_i dx sx t t2 hargs htys
    split at he
    · rename_i d g lo n sz e ti src hdx hel hsrc
      split at he
      · rename_i hcd
        obtain ⟨_, rfl, hsz⟩ := hcd
        obtain ⟨hu, i, hT⟩ := elemOf_some hτ hel
        exact sim_copy h hu hT hsz ho hc (by rw [← Array.toList_inj, hargs]) (by rw [← Array.toList_inj, htys]) hd hdx hsrc he hk
      · cases he
    · cases he
  · cases he

theorem eff_clear (hτ : TabOk P τ) {o : Oper} {c : Call} (ho : o.op = .call c) (hc : c.callee = .builtin .clear) : EffOk P τ Γ o := by
  intro C G s a W K Q u h hd he hk
  simp only [eff, ho, effCall, hc] at he
  split at he
  · rename_i x t hargs htys
    split at he
    · rename_i e ti hel
      split at he
      · obtain ⟨hu, i, hT⟩ := elemOf_some hτ hel
        exact sim_clear h hu hT ho hc (by rw [← Array.toList_inj, hargs]) (by rw [← Array.toList_inj, htys]) hd he hk
      · cases he
    · cases he
  · cases he

/-- What 'eff' tells is what the machine does. -/
theorem eff_sim (hτ : TabOk P τ) (hΓ : EnvOk P Γ) (o : Oper) : EffOk P τ Γ o := by
  cases ho : o.op
  case load => exact eff_load hτ ho
  case binOp => exact eff_binOp hτ hΓ ho
  case convert => exact eff_convert hτ ho
  case fieldAddr => exact eff_fieldAddr hτ ho
  case field => exact eff_field hτ ho
  case index => exact eff_index hτ ho
  case indexAddr => exact eff_indexAddr hτ ho
  case build => exact eff_build hτ ho
  case buildSlice => exact eff_buildSlice hτ ho
  case store => exact eff_store hτ ho
  case slice => exact eff_slice hτ ho
  case makeSlice => exact eff_makeSlice hτ ho
  case call c =>
    cases hc : c.callee with
    | value x => exact eff_callV hΓ ho hc
    | invoke x name =>
      intro C G s a W K Q u h hd he hk
      simp only [eff, ho, effCall, hc] at he
      split at he
      · rename_i t l hx
        split at he
        · rename_i f hm
          split at he
          · rename_i hp
            obtain ⟨r, hr, rfl⟩ := Option.map_eq_some_iff.1 he
            exact sim_invoke h ho hc hd hx (hΓ.2.1.1 _ _ _ hm) hp (hΓ.1 _ _ _ hr) hk
          · cases he
        · cases he
      · cases he
    | builtin b =>
      cases b
      case len => exact eff_len hτ ho hc
      case append => exact eff_append hτ ho hc
      case min => exact eff_minmax false ho hc
      case max => exact eff_minmax true ho hc
      case copy => exact eff_copy hτ ho hc
      case clear => exact eff_clear hτ ho hc
      all_goals (intro C G s a W K Q u h hd he hk; simp [eff, ho, effCall, hc] at he)
  all_goals intro C G s a W K Q u h hd he hk
  all_goals simp only [eff, ho] at he
  all_goals try (cases he; done)
  case move x => cases he; exact sim_move h (.inl ho) hd hk
  case assign x => cases he; exact sim_move h (.inr ho) hd hk
  case pick c x y =>
    split at he
    · rename_i b hb
      cases he
      refine sim_pick h ho hd hb (fun a' W' hs => hk a' W' ?_)
      cases b <;> exact hs
    · cases he
  case alloc t =>
    split at he
    · rename_i ti d ht hdst
      cases he
      obtain ⟨i, hT⟩ := hτ _ _ ht
      rw [hdst] at hk
      exact sim_alloc h ho hdst hd hT hk
    · cases he
  case box t x =>
    split at he
    · rename_i ti d ht hdst
      split at he
      · rename_i hc
        cases he
        rw [hdst] at hk
        exact sim_box h ho hdst hd hc.2 hk
      · cases he
    · cases he
  case nilCheck x =>
    split at he
    · rename_i d g off hx
      cases he
      exact sim_nilCheck_ptr h ho hd hx hk
    · rename_i cs hx
      cases he
      have hr : Rd G.Pr W (.el cs) (a.eval x) := by have := h.eval x; rw [hx] at this; exact this
      generalize hax : a.eval x = ax at hr
      cases hr with
      | el U h1 h2 => exact sim_rd h (v := a.eval x) (by simp [execOp, ho, hax]) (by rw [hax]; exact .el U h1 h2) hd hk
    · cases he
  case makeInterface t x =>
    split at he
    · cases he
    · cases he
    · rename_i d hno hds
      split at he
      · rename_i hp
        cases he
        obtain ⟨ti, ht, htd⟩ := desc_some hds
        obtain ⟨i, hT⟩ := hτ _ _ ht
        obtain ⟨td, hu, hni⟩ := hT.notIface (fun e => by rw [htd] at e; exact hno e)
        exact sim_makeInterface h hu hni ho hd hp hk
      · cases he
  case typeAssert x t0 t ok =>
    split at he
    · rename_i t' l ti hx ht
      obtain ⟨i, hT⟩ := hτ _ _ ht
      split at he
      · cases he
      · rename_i hno
        split at he
        · rename_i htt
          cases he
          exact sim_typeAssert (r := if ok then .tup [l, .v (.bool true)] else l) h hT (fun e => hno e) ho hd hx (by rw [if_pos htt]) hk
        · rename_i htt
          split at he
          · rename_i hok
            cases he
            exact sim_typeAssert h hT (fun e => hno e) ho hd hx (by rw [if_neg htt, if_pos hok]) hk
          · cases he
    · cases he
  case unOp op t x =>
    split at he
    · rename_i b hx; cases he; exact sim_not h ho hd hx hk
    · rename_i k n hx; cases he; exact sim_neg h ho hd hx hk
    · rename_i k n hx; cases he; exact sim_turn h ho hd hx hk
    · cases he
  case extract x k =>
    split at he
    · rename_i vs hx
      cases hl : vs[k]? with
      | none => rw [hl] at he; cases he
      | some l => rw [hl] at he; cases he; exact sim_extract h ho hd hx hl hk
    · cases he
  case makeFunc fn first captured =>
    split at he
    · rename_i f
      split at he
      · rename_i hf; cases he; exact sim_makeFunc0 h ho hd hf.1 hf.2 hk
      · split at he
        · rename_i hp; cases he; exact sim_makeFunc h ho hd hp.1 hp.2 hk
        · split at he
          · rename_i hp; cases he; exact sim_makeClo h ho hd hp.1 hp.2 hk
          · cases he
    · cases he
end
end Go.LI
namespace Go.LI
open Go Go.RowKit

section
variable {C : Ctx} {G : Gh} {s : S} {a : Act} {W : World}
variable {P : Program} {τ : Tab} {Γ : Env} {K : Act → World → Prop} {Q : Exit → Act → World → Prop}

theorem SimG.wanted (h : SimG C G s a W) {ops : Array Oper} (hn : ∀ o ∈ ops, DstOk C o) {o : Oper} {b : Bool} (hw : wantedL ops s o = some b) : Region.wanted o (yielded ops a.tmps) = b := by
  unfold wantedL at hw
  unfold Region.wanted
  cases hg : o.guard with
  | none => rw [hg] at hw; simp only [Option.some.injEq] at hw; exact hw
  | some p =>
    obtain ⟨j, want⟩ := p
    rw [hg] at hw
    simp only at hw ⊢
    cases hd : (ops[j]?).bind (·.dst) with
    | none => rw [hd] at hw; cases hw
    | some d =>
      rw [hd] at hw
      simp only at hw
      obtain ⟨oj, hoj, hdj⟩ := Option.bind_eq_some_iff.1 hd
      have hlt : d < a.tmps.size := by rw [h.size]; exact hn oj (Array.mem_of_getElem? hoj) d hdj
      have hget : a.tmps[d]? = some (a.tmps.getD d undef) := by simp [hlt]
      have ht := h.temp d
      have hy : yielded ops a.tmps j = (match a.tmps.getD d undef with | .bool b => some b | _ => none) := by
        unfold yielded
        rw [hd, Option.bind_some, hget]
        split
        · rename_i b0 heq; injection heq with heq; rw [heq]
        · rename_i hno
          split
          · rename_i b0 heq; exact absurd (by rw [heq]) (hno b0)
          · rfl
      rw [hy]
      split at hw
      · rename_i b0 hv
        rw [hv] at ht
        rw [rd_v ht]
        simp only [Option.some.injEq] at hw
        rw [← hw]
        cases b0 <;> cases want <;> rfl
      · rename_i vs hv
        rw [hv] at ht
        simp only [Option.some.injEq] at hw
        subst hw
        generalize a.tmps.getD d undef = u at ht
        cases (show Rd G.Pr W (.tup vs) u from ht)
        cases want <;> rfl
      · cases hw

theorem SimG.skip (h : SimG C G s a W) {o : Oper} (hd : DstOk C o) : SimG C G (s.put o.dst (.tup [])) (a.put o.dst undef) W :=
  h.put' hd (RepT.of_rd (.tup (vs := []) (us := []) rfl (fun i l u hl _ => by simp at hl))) .zero (fun _ hk => by cases hk)

theorem callsIn_fence {rnd : Option Nat} {m : Nat} {f : FuncId} {args : Array Value} {w : World} {R : Ending → World → Prop} (h : Calls P f args w R) : CallsIn (fenceOf rnd) m P f args w R :=
  (callsIn_wide (n := m)).2 h

theorem calls_of_fence {rnd : Option Nat} {m : Nat} {f : FuncId} {args : Array Value} {w : World} {R : Ending → World → Prop} (h : CallsIn (fenceOf rnd) m P f args w R) : Calls P f args w R :=
  (callsIn_wide (n := m)).1 h

theorem operIn {rnd : Option Nat} {m : Nat} {o : Oper} (hnd : ∀ c, o.op ≠ .defer c) (h : o.wp P a W K Q) : o.wpIn (fenceOf rnd) m P a W K Q := by
  refine ⟨fun f _ => trivial, ?_⟩
  rw [Oper.semAt_eq _ _ _ hnd]
  unfold Oper.wp at h
  generalize (execOp a.eval o).run P W = r at *
  cases r with
  | ok x w' =>
    cases x <;> simp only [Oper.upon, Oper.uponIn] at h ⊢ <;> first
      | exact h
      | exact ⟨fun hd => by simp [fenceOf, Fence.wide] at hd, callsIn_fence h⟩
      | exact ⟨fun hd => by simp [fenceOf, Fence.wide] at hd, fun c cs hr => (by
          obtain ⟨v, w'', h1, h2⟩ := h c cs
          exact ⟨v, w'', h1, stepsIn_wide.2 h2⟩)⟩
      | exact h.elim
  | halt x w' => cases x <;> simp only [Oper.upon, Oper.uponIn] at h ⊢ <;> exact h

theorem eff_noDefer {o : Oper} {u : Upd} (h : eff τ Γ s o = some u) : ∀ c, o.op ≠ .defer c := by
  intro c hc
  simp [eff, hc] at h

theorem step_sim {rnd : Option Nat} {m : Nat} (hτ : TabOk P τ) (hΓ : EnvOk P Γ) {ops : Array Oper} (hn : ∀ o ∈ ops, DstOk C o) {i : Nat} {o : Oper} (ho : ops[i]? = some o) {s' : S} (h : SimG C G s a W) (hs : step τ Γ ops o s = some s')
    (hk : ∀ a' W', Sim C s' a' W' → K a' W') : wpOpIn (fenceOf rnd) m P ops Q i K a W := by
  have hd := hn o (Array.mem_of_getElem? ho)
  unfold step at hs
  unfold wpOpIn
  rw [ho]
  simp only
  split at hs
  · rename_i hw
    rw [h.wanted hn hw]
    simp only [if_true]
    cases he : eff τ Γ s o with
    | none => rw [he] at hs; cases hs
    | some u =>
      rw [he] at hs
      simp only [Option.map_some, Option.some.injEq] at hs
      subst hs
      exact operIn (eff_noDefer he) (eff_sim hτ hΓ o h hd he hk)
  · rename_i hw
    rw [h.wanted hn hw]
    simp only [Bool.false_eq_true, if_false]
    simp only [Option.some.injEq] at hs
    subst hs
    exact ⟨fun _ _ => trivial, hk _ _ ⟨G, h.skip hd⟩⟩
  · cases hs

theorem stepD_step {ops : Array Oper} {o : Oper} {s' : S} (h : stepD τ Γ ops o s = some s') : step τ Γ.own ops o s = some s' := by
  unfold stepD at h
  unfold step
  split at h
  · rename_i hw
    cases he : eff τ Γ.own s o with
    | none => rw [he] at h; cases h
    | some u =>
      rw [he] at h
      simp only [Option.bind_some] at h
      split at h
      · cases h
      · simpa using h
  · exact h
  · cases h

/-- Operations one after another, by their places. -/
def runIx (f : Oper → S → Option S) (ops : Array Oper) : List Nat → S → Option S
  | [], s => some s
  | i :: r, s => match ops[i]? with
    | some o => (f o s).bind (runIx f ops r)
    | none => runIx f ops r s

theorem runIx_range (f : Oper → S → Option S) (ops : Array Oper) (g : List Oper → S → Option S) (h0 : ∀ s, g [] s = some s) (h1 : ∀ o r s, g (o :: r) s = (f o s).bind (g r)) :
    ∀ (n k : Nat) s, k + n = ops.size → runIx f ops ((List.range n).map (k + ·)) s = g (ops.toList.drop k) s := by
  intro n
  induction n with
  | zero =>
    intro k s hk
    have : ops.toList.drop k = [] := List.drop_eq_nil_of_le (by simp; omega)
    simp [runIx, this, h0]
  | succ n ih =>
    intro k s hk
    rw [List.range_succ_eq_map, List.map_cons, List.map_map]
    have hlt : k < ops.size := by omega
    have hcons : ops.toList.drop k = ops[k] :: ops.toList.drop (k + 1) := by
      rw [List.drop_eq_getElem_cons (by simpa using hlt)]
      simp
    simp only [runIx, Nat.add_zero, Array.getElem?_eq_getElem hlt, hcons, h1]
    have hfun : ((fun x => k + x) ∘ Nat.succ) = (fun x => k + 1 + x) := by funext x; simp [Nat.succ_eq_add_one]; omega
    rw [hfun]
    congr 1
    funext s'
    exact ih (k + 1) s' (by omega)

theorem runIx_steps (ops : Array Oper) (s : S) : runIx (step τ Γ ops) ops (List.range ops.size) s = steps τ Γ ops ops.toList s := by
  have := runIx_range (step τ Γ ops) ops (steps τ Γ ops) (fun _ => rfl) (fun _ _ _ => rfl) ops.size 0 s (by omega)
  simpa using this

theorem runIx_stepsD (ops : Array Oper) (s : S) : runIx (stepD τ Γ ops) ops (List.range ops.size) s = stepsD τ Γ ops ops.toList s := by
  have := runIx_range (stepD τ Γ ops) ops (stepsD τ Γ ops) (fun _ => rfl) (fun _ _ _ => rfl) ops.size 0 s (by omega)
  simpa using this

theorem runIx_sim {rnd : Option Nat} {m : Nat} (hτ : TabOk P τ) (hΓ : EnvOk P Γ) {ops : Array Oper} (hn : ∀ o ∈ ops, DstOk C o) : ∀ (l : List Nat) {s s' : S} {a : Act} {W : World}, Sim C s a W → runIx (step τ Γ ops) ops l s = some s' →
    (∀ a' W', Sim C s' a' W' → Q .normal a' W') → wpOpsIn (fenceOf rnd) m P ops Q l a W
  | [], s, s', a, W, h, hr, hk => by simp only [runIx, Option.some.injEq] at hr; subst hr; exact hk _ _ h
  | i :: l, s, s', a, W, h, hr, hk => by
    rw [wpOpsIn_cons]
    unfold runIx at hr
    cases ho : ops[i]? with
    | none =>
      rw [ho] at hr
      unfold wpOpIn
      rw [ho]
      exact runIx_sim hτ hΓ hn l h hr hk
    | some o =>
      rw [ho] at hr
      obtain ⟨s1, h1, h2⟩ := Option.bind_eq_some_iff.1 hr
      obtain ⟨G, hG⟩ := h
      exact step_sim hτ hΓ hn ho hG h1 (fun a' W' hs => runIx_sim hτ hΓ hn l hs h2 hk)

theorem region_sim {rnd : Option Nat} {m : Nat} (hτ : TabOk P τ) (hΓ : EnvOk P Γ) {id : Nat} {ops : Array Oper} (hn : ∀ o ∈ ops, DstOk C o) {s' : S} (h : Sim C s a W) (hr : steps τ Γ ops ops.toList s = some s')
    (hk : ∀ a' W', Sim C s' a' W' → Q .normal a' W') : (Code.region id ops false).wpIn (fenceOf rnd) m P Q a W :=
  wpIn_region (runIx_sim hτ hΓ hn _ h (by rw [runIx_steps]; exact hr) hk)
end
end Go.LI
