/- Each operation of the abstract machine against the model's: those that touch no memory, loads. -/
import Derived.Test.YtiajhfodfhmfaaaGreatDoorWmSim
import Derived.Laws.Entries
import Derived.Laws.Append
import Derived.WalkKit
set_option linter.unusedVariables false
set_option linter.unusedSimpArgs false
set_option linter.unusedSectionVars false
namespace Go.Vm
variable [SymB] [SymV]

/-! ### The tables -/
def KindOk (P : Program) : TK → TypeDesc → Prop
  | .int k, d => d = .int k
  | .bool, d => d = .bool
  | .str, d => d = .string
  | .slice e, d => d = .slice e
  | .arr n e, d => d = .array n e
  | .struct fs, d => ∃ gs : Array Field, d = .struct gs ∧ F2 (fun (f : FI) (g : Field) => g.offset = f.off ∧ (∃ i, P.info? g.type = some i ∧ i.size = f.size ∧ i.size ≠ 0) ∧ ∃ d', P.underlying g.type = some d' ∧ d'.isRow = f.agg) fs gs.toList
  | .map k e, d => d = .map k e ∧ (P.underlying k = some .string ∨ ∃ q, P.underlying k = some (.int q))
  | .ptr, d => ∃ e, d = .pointer e
  | .iface, d => ∃ ms, d = .interface ms
  | .other, d => d.isRow = false

structure TyOk (P : Program) (t : TypeId) (ti : TI) : Prop where
  info : ∃ i z, P.info? t = some i ∧ i.size = ti.size ∧ i.bytes = ti.bytes ∧ i.zero = some z ∧ (∀ F, RPL F ti.zero z.cells.toList) ∧ allOne z.cells.toList ∧ z.cells.size = ti.size ∧ (ti.k.agg = true → z = .agg z.cells) ∧ (ti.k.agg = false → z.oneCell' = true)
  und : ∃ d, P.underlying t = some d ∧ KindOk P ti.k d
  eq : ti.eq = true → ∀ (F : Fr) (xs ys : List PV) (vs us : Array Value) (b : Bool) (w : World), alike ti.zero xs = true → alike ti.zero ys = true → eqCells xs ys = some b → RPL F xs vs.toList → RPL F ys us.toList →
    (Op.equal t (.agg vs) (.agg us)).run P w = .ok b w ∧ ∀ (x y : Operand), (eqGuard .eql t x y (.agg vs) (.agg us)).run P w = .ok () w ∧ (eqGuard .neq t x y (.agg vs) (.agg us)).run P w = .ok () w
  meth : ∀ name f, ti.meths.lookup name = some f → ∀ (v : Value) (w : World) n, (method (n + 1) t v name).run P w = .ok (f, v) w

structure TabsTy (P : Program) (tb : Tabs) : Prop where
  ty : ∀ t ti, tb.ty t = some ti → TyOk P t ti

theorem KindOk.row {P : Program} {k : TK} {d : TypeDesc} (h : KindOk P k d) : d.isRow = k.agg := by
  cases k with
  | struct fs => obtain ⟨gs, rfl, _⟩ := h; rfl
  | ptr => obtain ⟨e, rfl⟩ := h; rfl
  | iface => obtain ⟨e, rfl⟩ := h; rfl
  | map k e => obtain ⟨rfl, _⟩ := h; rfl
  | other => exact h
  | _ => cases h; rfl

/-! ### What an operation yields -/
def Yields1 (P : Program) (o : Oper) (ρ : Operand → Value) (x : Value) (w w' : World) : Prop :=
  (execOp ρ o).run P w = .ok (.value x) w' ∨ ((execOp ρ o).run P w = .ok .skip w' ∧ x = undef)

theorem evalO_R {β : Bnd} {F : Fr} {T : List AV} {a : Act} (hT : RL β F T a.tmps.toList) (x : Operand) : R β F (evalO T x) (a.eval x) := by
  cases x with
  | tmp t =>
    simp only [evalO, Act.eval]
    have hl := hT.length
    by_cases h : t < T.length
    · have h2 : t < a.tmps.size := by simpa [hl] using h
      have := F2.get hT t h (by simpa using h2)
      simpa [List.getD, Array.getD, h, h2] using this
    · simp only [List.getD, List.getElem?_eq_none (Nat.le_of_not_lt h), Option.getD_none]
      exact R.top _
  | const v =>
    simp only [evalO, Act.eval]
    unfold absV
    split
    · exact .pv (.bool _)
    · exact .pv (.int ..)
    · exact .pv (.str _)
    · exact .pv .nilp
    · exact .pv (.cl (es := []) 0 0 0 (fun _ _ => undef) (fun h => by simp at h) (fun i h => by simp at h) (fun i j h => by simp at h) fun i h => by simp at h)
    · exact .pv .nilf
    · exact .pv .nili
    · exact .fn rfl fun i h => by simp at h
    · exact R.top _
  | global g => exact R.top _
  | func f => exact .fn rfl fun i h => by simp at h

theorem putT_R {β : Bnd} {F : Fr} {T : List AV} {a : Act} (hT : RL β F T a.tmps.toList) {v : AV} {x : Value} (h : R β F v x) (dst : Option Tmp) : RL β F (putT T dst v) (a.put dst x).tmps.toList := by
  cases dst with
  | none => exact hT
  | some d => simpa [putT, Act.put] using F2.set hT h d

/-- The step's outcome, as all lemmas tell it. -/
def Out (P : Program) (o : Oper) (ρ : Operand → Value) (β : Bnd) (F : Fr) (M : Mem) (w : World) (v : AV) (M' : Mem) : Prop :=
  ∃ β' F' w' x, Yields1 P o ρ x w w' ∧ Ext β F M w β' F' M' w' ∧ Sim β' F' M' w' ∧ R β' F' v x

theorem Out.same {P : Program} {o : Oper} {ρ : Operand → Value} {β : Bnd} {F : Fr} {M : Mem} {w : World} {v : AV} {x : Value} (S : Sim β F M w) (h : (execOp ρ o).run P w = .ok (.value x) w) (r : R β F v x) : Out P o ρ β F M w v M :=
  ⟨β, F, w, x, .inl h, .refl .., S, r⟩

theorem fieldOf_ok {P : Program} {tb : Tabs} (H : TabsTy P tb) {t : TypeId} {f : Nat} {fl : FI} (h : fieldOf tb.ty t f = some fl) :
    ∃ (gs : Array Field) (g : Field) (i : TypeInfo) (d : TypeDesc), P.underlying t = some (.struct gs) ∧ gs[f]? = some g ∧ g.offset = fl.off ∧ P.info? g.type = some i ∧ i.size = fl.size ∧ i.size ≠ 0 ∧ P.underlying g.type = some d ∧ d.isRow = fl.agg := by
  unfold fieldOf at h
  split at h
  · rename_i hty
    obtain ⟨d, hd, hk⟩ := (H.ty _ _ hty).und
    obtain ⟨gs, rfl, hf⟩ := hk
    obtain ⟨g, hg, h1, ⟨i, h2, h3, h4⟩, d', h5, h6⟩ := F2.get? hf h
    exact ⟨gs, g, i, d', hd, by simpa using hg, h1, h2, h3, h4, h5, h6⟩
  · simp at h

section
variable {P : Program} {tb : Tabs} (H : TabsTy P tb) {o : Oper} {β : Bnd} {F : Fr} {M : Mem} {w : World} {T : List AV} {a : Act} (hT : RL β F T a.tmps.toList) (S : Sim β F M w)
include hT S

theorem out_pick {c x y : Operand} (ho : o.op = .pick c x y) {v : AV} {M' : Mem} {fi : FnI} (h : stepOp tb fi T M o.dst o.op = .val v M') : Out P o a.eval β F M w v M' := by
  rw [ho] at h
  simp only [stepOp] at h
  have hc := evalO_R hT c
  split at h
  · rename_i hb
    rw [hb] at hc
    cases hc with
    | pv hc =>
      generalize hcv : a.eval c = cv at hc
      cases hc
      simp only [Res.val.injEq] at h
      obtain ⟨rfl, rfl⟩ := h
      exact .same S (by simp [execOp, ho, hcv, asBool]) (evalO_R hT x)
  · rename_i hb
    rw [hb] at hc
    cases hc with
    | pv hc =>
      generalize hcv : a.eval c = cv at hc
      cases hc
      simp only [Res.val.injEq] at h
      obtain ⟨rfl, rfl⟩ := h
      exact .same S (by simp [execOp, ho, hcv, asBool]) (evalO_R hT y)
  · simp at h

theorem out_nilCheck {x : Operand} (ho : o.op = .nilCheck x) {v : AV} {M' : Mem} {fi : FnI} (h : stepOp tb fi T M o.dst o.op = .val v M') : Out P o a.eval β F M w v M' := by
  rw [ho] at h
  simp only [stepOp] at h
  have hx := evalO_R hT x
  split at h
  · rename_i hb
    rw [hb] at hx
    generalize hcv : a.eval x = cv at hx
    simp only [Res.val.injEq] at h
    obtain ⟨rfl, rfl⟩ := h
    have hx' := hx
    cases hx with
    | p hβ hb => exact .same S (by simp [execOp, ho, hcv]) hx'
  · rename_i hb
    rw [hb] at hx
    generalize hcv : a.eval x = cv at hx
    simp only [Res.val.injEq] at h
    obtain ⟨rfl, rfl⟩ := h
    have hx' := hx
    cases hx with
    | ep vs hF h => exact .same S (by simp [execOp, ho, hcv]) hx'
  · rename_i hb
    rw [hb] at hx
    generalize hcv : a.eval x = cv at hx
    simp only [Res.val.injEq] at h
    obtain ⟨rfl, rfl⟩ := h
    have hx' := hx
    cases hx with
    | ifc h => exact .same S (by simp [execOp, ho, hcv]) hx'
  · simp at h

theorem out_makeFunc {f : FuncId} {first cap : Array Operand} (ho : o.op = .makeFunc (.func f) first cap) {v : AV} {M' : Mem} {fi : FnI} (h : stepOp tb fi T M o.dst o.op = .val v M') : Out P o a.eval β F M w v M' := by
  rw [ho] at h
  simp only [stepOp] at h
  split at h
  · rename_i he
    have he : first = #[] := by simpa using he
    subst he
    simp only [Res.val.injEq] at h
    obtain ⟨rfl, rfl⟩ := h
    refine .same (x := .func (.func f) #[] (cap.map a.eval)) S (by simp [execOp, ho, Instr.makeFunc]) ?_
    exact .fn (by simp) fun i h1 h2 => by simpa using (evalO_R hT _).nrm
  · simp at h

theorem out_makeInterface {t : TypeId} {x : Operand} (ho : o.op = .makeInterface t x) {v : AV} {M' : Mem} {fi : FnI} (H : TabsTy P tb) (h : stepOp tb fi T M o.dst o.op = .val v M') : Out P o a.eval β F M w v M' := by
  rw [ho] at h
  simp only [stepOp] at h
  split at h
  · rename_i hty
    obtain ⟨d, hd, hk⟩ := (H.ty _ _ hty).und
    obtain ⟨e, rfl⟩ := hk
    simp only [Res.val.injEq] at h
    obtain ⟨rfl, rfl⟩ := h
    exact .same (x := .iface t (a.eval x)) S (by simp [execOp, ho, Instr.makeInterface, run_underlying hd]) (.ifc (evalO_R hT x))
  · simp at h

theorem out_extract {x : Operand} {i : Nat} (ho : o.op = .extract x i) {v : AV} {M' : Mem} {fi : FnI} (h : stepOp tb fi T M o.dst o.op = .val v M') : Out P o a.eval β F M w v M' := by
  rw [ho] at h
  simp only [stepOp] at h
  have hx := evalO_R hT x
  split at h
  · rename_i vs hb
    rw [hb] at hx
    generalize hcv : a.eval x = cv at hx
    split at h
    · rename_i p hp
      simp only [Res.val.injEq] at h
      obtain ⟨rfl, rfl⟩ := h
      cases hx with
      | pv hx =>
        cases hx with
        | tup hl hr =>
          rename_i us
          obtain ⟨u, hu, hr'⟩ := F2.get? (F2.of_arr hl hr) hp
          have hu' : us[i]? = some u := by simpa using hu
          exact .same S (by simp [execOp, ho, hcv, Instr.extract, hu']) (.pv hr')
    · simp at h
  · rename_i vs hb
    rw [hb] at hx
    generalize hcv : a.eval x = cv at hx
    split at h
    · rename_i p hp
      simp only [Res.val.injEq] at h
      obtain ⟨rfl, rfl⟩ := h
      cases hx with
      | tup hl hr =>
        rename_i us
        obtain ⟨u, hu, hr'⟩ := F2.get? (F2.of_arr hl hr) hp
        have hu' : us[i]? = some u := by simpa using hu
        exact .same S (by simp [execOp, ho, hcv, Instr.extract, hu']) hr'
    · simp at h
  · simp at h

theorem out_fieldAddr {t : TypeId} {x : Operand} {f : Nat} (ho : o.op = .fieldAddr t x f) {v : AV} {M' : Mem} {fi : FnI} (H : TabsTy P tb) (h : stepOp tb fi T M o.dst o.op = .val v M') : Out P o a.eval β F M w v M' := by
  rw [ho] at h
  simp only [stepOp] at h
  have hx := evalO_R hT x
  split at h
  · rename_i off sz ag hf
    obtain ⟨gs, g, i, d, h1, h2, h3, h4, h5, h6, h7, h8⟩ := fieldOf_ok H hf
    simp only at h3
    have hrun : ∀ (b q : Nat), (Instr.fieldAt t (.pointer (some ⟨b, q, none⟩)) f).run P w = .ok (.pointer (some ⟨b, q + off, none⟩)) w := fun b q => by
      simp [Instr.fieldAt, run_underlying h1, h2, Instr.sureAddr, fieldPlace, sizeOf, typeInfo, h4, h6, h3, Addr.add_mid]
    split at h
    · rename_i g' n i' q hb
      rw [hb] at hx
      generalize hcv : a.eval x = cv at hx
      simp only [Res.val.injEq] at h
      obtain ⟨rfl, rfl⟩ := h
      cases hx with
      | p hβ hbs =>
        rename_i b q' bd
        refine .same (x := .pointer (some ⟨b, q' + i' * bd.k + q + off, none⟩)) S (by simp [execOp, ho, hcv, hrun]) ?_
        rw [show q' + i' * bd.k + q + off = q' + i' * bd.k + (q + off) by omega]
        exact .p hβ hbs
    · rename_i e q hb
      rw [hb] at hx
      generalize hcv : a.eval x = cv at hx
      simp only [Res.val.injEq] at h
      obtain ⟨rfl, rfl⟩ := h
      cases hx with
      | ep vs hF hr =>
        rename_i b q'
        refine .same (x := .pointer (some ⟨b, q' + off, none⟩)) S (by simp [execOp, ho, hcv, hrun]) (.ep (fun j => vs (off + j)) (fun j hj => ?_) fun j hj => ?_)
        · have := hF (off + j) (by omega)
          rwa [show q' + (off + j) = q' + off + j by omega] at this
        · have := hr (off + j) (by omega)
          simpa [show q + (off + j) = q + off + j by omega] using this
    · simp at h
  · simp at h
end

/-! ### Parts -/
theorem partAt_R {P : Program} {β : Bnd} {F : Fr} {agg : Bool} {size : Nat} {cs : List AV} {vs : List Value} {off : Nat} {v : AV} (h : partAt agg size cs off = some v) (hr : RL β F cs vs) (ho : allOne vs) :
    if agg = true then ((vs.drop off).take size).length = size ∧ R β F v (.agg ((vs.drop off).take size).toArray) else ∃ x, vs[off]? = some x ∧ x.oneCell' = true ∧ R β F v x := by
  unfold partAt at h
  cases agg with
  | true =>
    simp only [if_true] at h ⊢
    split at h
    · rename_i hl
      simp only [Option.some.injEq] at h
      subst h
      have h2 := F2.take (F2.drop hr off) size
      exact ⟨by rw [← h2.length]; exact hl, R.mkAgg h2 fun v hv => ho v (List.mem_of_mem_drop (List.mem_of_mem_take hv))⟩
    · simp at h
  | false =>
    simp only [Bool.false_eq_true, if_false] at h ⊢
    obtain ⟨x, hx, hr'⟩ := F2.get? hr h
    exact ⟨x, hx, ho.get hx, hr'⟩

/-- A variable of a type, read where its cells lie. -/
theorem run_loadVar_cells {P : Program} {t : TypeId} {i : TypeInfo} {d : TypeDesc} (hi : P.info? t = some i) (hd : P.underlying t = some d) (w : World) (b q : Nat) (xs : List Value)
    (hl : d.isRow = true → xs.length = i.size) (h1 : d.isRow = false → xs.length = 1) (hc : ∀ j v, xs[j]? = some v → w.cell? ⟨b, q + j, none⟩ = some v) :
    (loadVar t ⟨b, q, none⟩).run P w = .ok (if d.isRow = true then .agg xs.toArray else xs.headD undef) w := by
  by_cases hr : d.isRow = true
  · rw [if_pos hr]
    exact run_loadVar_mid w b q t xs d hc hd hr (by simp [hi, hl hr])
  · rw [if_neg hr]
    have hr' : d.isRow = false := by simpa using hr
    have hagg : (Go.isAgg t).run P w = .ok false w := by
      unfold Go.isAgg
      rw [Sem.run_bind, run_underlying hd w]
      cases d <;> simp_all
    obtain ⟨x, rfl⟩ : ∃ x, xs = [x] := List.length_eq_one_iff.1 (h1 hr')
    have := hc 0 x rfl
    simp only [Nat.add_zero] at this
    simp [loadVar, Sem.run_bind, hagg, this]

theorem loadAt_R {P : Program} {tb : Tabs} (H : TabsTy P tb) {t : TypeId} {ti : TI} (hty : tb.ty t = some ti) {β : Bnd} {F : Fr} {M : Mem} {w : World} (S : Sim β F M w) {x v : AV} {u : Value} (hx : R β F x u) (h : loadAt M ti x = some v) :
    ∃ r, (Instr.loadAt t u).run P w = .ok r w ∧ R β F v r := by
  obtain ⟨i, z, hi, hs, _, _, _, _, _⟩ := (H.ty _ _ hty).info
  obtain ⟨d, hd, hkd⟩ := (H.ty _ _ hty).und
  have hrow := hkd.row
  unfold loadAt at h
  split at h
  · rename_i g n i' off
    split at h
    · rename_i es fz hg
      obtain ⟨hg, hn⟩ := getArr_some hg
      split at h
      · rename_i e he
        obtain ⟨hlt, rfl⟩ := List.getElem?_eq_some_iff.1 he
        cases hx with
        | p hβ hb =>
          rename_i b q bd
          have A := S.arr g es fz bd hg (by rw [hn]; exact hβ)
          obtain ⟨b', q', hb', hlen, hv⟩ := A.read S.frz hlt
          rw [hb] at hb'
          simp only [Option.some.injEq, Prod.mk.injEq] at hb'
          obtain ⟨rfl, rfl⟩ := hb'
          -- the element's cells
          let vs : List Value := (List.range (cells es[i']).length).map fun j => (w.cell? ⟨b, q + i' * bd.k + j, none⟩).getD undef
          have hvs : ∀ j (hj : j < (cells es[i']).length), ∃ v, w.cell? ⟨b, q + i' * bd.k + j, none⟩ = some v ∧ vs[j]? = some v ∧ v.oneCell' = true ∧ R β F (cells es[i'])[j] v := fun j hj => by
            obtain ⟨v, h1, h2, h3⟩ := hv j hj
            exact ⟨v, h1, by simp [vs, hj, h1], h2, h3⟩
          have hr : RL β F (cells es[i']) vs := F2.of_get (by simp [vs]) fun j h1 h2 => by
            obtain ⟨v, _, k2, _, k4⟩ := hvs j h1
            rw [List.getElem?_eq_getElem h2] at k2
            simp only [Option.some.injEq] at k2
            rw [k2]; exact k4
          have ho : allOne vs := fun v hv' => by
            obtain ⟨j, hj, rfl⟩ := List.getElem_of_mem hv'
            obtain ⟨v, _, k2, k3, _⟩ := hvs j (by simpa [vs] using hj)
            rw [List.getElem?_eq_getElem hj] at k2
            simp only [Option.some.injEq] at k2
            rw [k2]; exact k3
          have hcell : ∀ j v, vs[j]? = some v → w.cell? ⟨b, q + i' * bd.k + j, none⟩ = some v := fun j v hj => by
            obtain ⟨v', k1, k2, _⟩ := hvs j (by have := (List.getElem?_eq_some_iff.1 hj).1; simpa [vs] using this)
            rw [hj] at k2; simp only [Option.some.injEq] at k2; rw [k1, k2]
          have hp := partAt_R (P := P) h hr ho
          cases hag : ti.k.agg with
          | true =>
            rw [hag, if_pos rfl] at hp
            obtain ⟨hl, hr'⟩ := hp
            refine ⟨_, ?_, hr'⟩
            have := run_loadVar_cells hi hd w b (q + i' * bd.k + off) ((vs.drop off).take ti.size) (fun _ => by rw [hl, hs]) (fun hf => by rw [hrow, hag] at hf; simp at hf) (fun j v hj => by
              have hj' : j < ti.size := by have := (List.getElem?_eq_some_iff.1 hj).1; simp at this; omega
              rw [List.getElem?_take_of_lt hj', List.getElem?_drop] at hj
              have := hcell _ _ hj
              rwa [show q + i' * bd.k + (off + j) = q + i' * bd.k + off + j by omega] at this)
            rw [hrow, hag, if_pos rfl] at this
            simp [Instr.loadAt, Instr.sureAddr, this]
          | false =>
            rw [hag] at hp
            simp only [Bool.false_eq_true, if_false] at hp
            obtain ⟨x, hx1, hx2, hr'⟩ := hp
            refine ⟨x, ?_, hr'⟩
            have := run_loadVar_cells hi hd w b (q + i' * bd.k + off) [x] (fun hf => by rw [hrow, hag] at hf; simp at hf) (fun _ => rfl) (fun j v hj => by
              have : j = 0 := by have := (List.getElem?_eq_some_iff.1 hj).1; simp at this; omega
              subst this
              simp at hj; subst hj
              exact hcell _ _ hx1)
            rw [hrow, hag] at this
            simpa [Instr.loadAt, Instr.sureAddr] using this
      · simp at h
    · simp at h
  · rename_i e off
    split at h
    · rename_i p hp
      simp only [Option.some.injEq] at h
      subst h
      cases hx with
      | ep vs hF hr =>
        rename_i b q
        unfold partAtP at hp
        cases hag : ti.k.agg with
        | true =>
          rw [hag] at hp
          simp only [if_true] at hp
          split at hp
          · rename_i hl
            simp only [Option.some.injEq] at hp
            subst hp
            have hle : ∀ j, j < ti.size → off + j < (pcells e).length := fun j hj => by simp at hl; omega
            let us : List Value := (List.range ti.size).map vs
            refine ⟨.agg us.toArray, ?_, .pv (.agg (by simp [us, hl]) (fun j hj => ?_) fun j h1 h2 => ?_)⟩
            · have := run_loadVar_cells hi hd w b q us (fun _ => by simp [us, hs]) (fun hf => by rw [hrow, hag] at hf; simp at hf) (fun j v hj => by
                have hj' : j < ti.size := by have := (List.getElem?_eq_some_iff.1 hj).1; simpa [us] using this
                simp [us, hj'] at hj; subst hj
                exact S.frz _ _ _ (hF j (hle j hj')).1)
              rw [hrow, hag, if_pos rfl] at this
              simp [Instr.loadAt, Instr.sureAddr, this]
            · simp [us] at hj ⊢
              exact (hF j (hle j hj)).2
            · have hj : j < ti.size := by simpa [hl] using h1
              have := hr j (hle j hj)
              simpa [us] using this
          · simp at hp
        | false =>
          rw [hag] at hp
          simp only [Bool.false_eq_true, if_false] at hp
          obtain ⟨hlt, rfl⟩ := List.getElem?_eq_some_iff.1 hp
          refine ⟨vs 0, ?_, .pv (by have := hr 0 (by omega); simpa using this)⟩
          have := run_loadVar_cells hi hd w b q [vs 0] (fun hf => by rw [hrow, hag] at hf; simp at hf) (fun _ => rfl) (fun j v hj => by
            have : j = 0 := by have := (List.getElem?_eq_some_iff.1 hj).1; simp at this; omega
            subst this
            simp at hj; subst hj
            have := S.frz _ _ _ (hF 0 (by omega)).1
            simpa using this)
          rw [hrow, hag] at this
          simpa [Instr.loadAt, Instr.sureAddr] using this
    · simp at h
  · simp at h
end Go.Vm
