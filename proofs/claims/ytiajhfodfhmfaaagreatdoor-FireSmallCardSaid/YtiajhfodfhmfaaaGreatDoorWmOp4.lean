/- Operations that write: new variables, stores, lists that grow. -/
import Derived.Test.YtiajhfodfhmfaaaGreatDoorWmOp3
import Derived.Laws.CopyRow
import Derived.IntWalk
set_option linter.unusedVariables false
set_option linter.unusedSimpArgs false
set_option linter.unusedSectionVars false
namespace Go.Vm
variable [SymB] [SymV]

/-! ### New blocks -/
theorem alloc_old (w : World) (ob : Go.Obj) {b : Nat} (h : b < w.heap.size) : (w.alloc ob).heap[b]? = w.heap[b]? := heap_alloc_old w ob h

/-- An array in a block that has just been made. -/
theorem own_new {β : Bnd} {F : Fr} {M : Mem} {w w1 : World} (S : Sim β F M w) {β' : Bnd} (hle : β.le β') {es : List AV} {k cap n : Nat} {vs : List Value} {E : TypeId}
    (hw1 : w1.heap = w.heap.push (.cells vs.toArray E)) (hk : ∀ i (hi : i < es.length), (cells es[i]).length = k) (hroom : es.length ≤ cap) (hsz : cap * k ≤ vs.length)
    (hv : ∀ i (hi : i < es.length) j (hj : j < (cells es[i]).length), ∃ v, vs[i * k + j]? = some v ∧ v.oneCell' = true ∧ R β F (cells es[i])[j] v) :
    OwnOk β' F es n ⟨some (w.heap.size, 0), cap, k, true⟩ w1 w.heap.size := by
  have hb : w1.heap[w.heap.size]? = some (.cells vs.toArray E) := by rw [hw1]; simp
  have hcell : ∀ o, w1.cell? ⟨w.heap.size, o, none⟩ = vs[o]? := fun o => by simp [World.cell?, hb]
  have hfr : ∀ o, w1.frozen? ⟨w.heap.size, o, none⟩ = false := fun o => by simp [World.frozen?, hb]
  refine ⟨rfl, by rw [hw1]; simp, fun o ho => ⟨?_, hfr o⟩, hk, fun i hi j hj => ?_, fun o _ => S.F_new (Nat.le_refl _)⟩
  · rw [hcell]
    have : o < vs.length := by simp only at ho; omega
    simp [this]
  · obtain ⟨v, h1, h2, h3⟩ := hv i hi j hj
    exact ⟨v, by rw [hcell]; exact h1, h2, h3.mono hle (.refl _)⟩

theorem Sim.le_new {β : Bnd} {F : Fr} {M : Mem} {w : World} (S : Sim β F M w) (n : Nat) (bd : Bind) : β.le (β.put M.length n bd) := Bnd.le_put (by
  cases h : β.arr M.length n with
  | none => exact .inl rfl
  | some bd' => have := S.dom h; omega)

/-- A new array of the call's own in a new block. -/
theorem Sim.alloc {β : Bnd} {F : Fr} {M : Mem} {w w1 : World} (S : Sim β F M w) {es : List AV} {k cap fz : Nat} {vs : List Value} {E : TypeId}
    (hw1 : w1.heap = w.heap.push (.cells vs.toArray E)) (hos : w1.os = w.os) (ht : w1.tape = w.tape) (hout : w1.output = w.output) (hk : ∀ i (hi : i < es.length), (cells es[i]).length = k) (hroom : es.length ≤ cap) (hemp : es = [] → cap = 0) (hsz : cap * k ≤ vs.length)
    (hv : ∀ i (hi : i < es.length) j (hj : j < (cells es[i]).length), ∃ v, vs[i * k + j]? = some v ∧ v.oneCell' = true ∧ R β F (cells es[i])[j] v) :
    Sim (β.put M.length es.length ⟨some (w.heap.size, 0), cap, k, true⟩) F (M ++ [.arr es fz]) w1 ∧ Ext β F M w (β.put M.length es.length ⟨some (w.heap.size, 0), cap, k, true⟩) F (M ++ [.arr es fz]) w1 := by
  refine (Turn.new S hos ht hout (by rw [hw1]; simp) (fun b hb => by rw [hw1]; simp [Array.getElem?_push, Nat.ne_of_lt hb]) ⟨hroom, hemp, .inl ⟨rfl, w.heap.size, ?_⟩⟩ (fun b _ h => ?_)).sim S (fun h => absurd h (Nat.lt_irrefl _))
  · exact own_new S (S.le_new _ _) hw1 hk hroom hsz hv
  · simp at h; omega

/-- The same for one element: a variable. -/
theorem Sim.var {β : Bnd} {F : Fr} {M : Mem} {w w1 : World} (S : Sim β F M w) {e : AV} {vs : List Value} {E : TypeId} (hw1 : w1.heap = w.heap.push (.cells vs.toArray E)) (hos : w1.os = w.os) (ht : w1.tape = w.tape) (hout : w1.output = w.output)
    (hr : RL β F (cells e) vs) (ho : allOne vs) :
    ∃ β', Sim β' F (M ++ [.arr [e] 0]) w1 ∧ Ext β F M w β' F (M ++ [.arr [e] 0]) w1 ∧ R β' F (.p M.length 1 0 0) (.pointer (some ⟨w.heap.size, 0, none⟩)) := by
  have hl := hr.length
  obtain ⟨S', X⟩ := S.alloc (es := [e]) (k := vs.length) (cap := 1) (fz := 0) hw1 hos ht hout (fun i hi => by
    have : i = 0 := by simp at hi; omega
    subst this; simpa using hl) (by simp) (by simp) (by simp) (fun i hi j hj => by
    have : i = 0 := by simp at hi; omega
    subst this
    have hj' : j < (cells e).length := hj
    have h2 : j < vs.length := by omega
    exact ⟨vs[j], by simp [h2], ho _ (by simp), F2.get hr j hj' h2⟩)
  refine ⟨_, S', X, ?_⟩
  have := R.p (F := F) (i := 0) (off := 0) (Bnd.put_self β M.length 1 ⟨some (w.heap.size, 0), 1, vs.length, true⟩) rfl
  simpa using this

/-- A list whose capacity is its length, as an array of the memory: what it has stays. -/
theorem Sim.clip {β : Bnd} {F : Fr} {M : Mem} {w : World} (S : Sim β F M w) {es : List PV} {a : Option Addr} {c : Nat} (h : RP F (.cl es) (.slice a es.length c)) :
    ∃ β', Sim β' F (M ++ [.arr (es.map .pv) es.length]) w ∧ Ext β F M w β' F (M ++ [.arr (es.map .pv) es.length]) w ∧ R β' F (.gs M.length es.length 0 es.length) (.slice a es.length c) := by
  cases h with
  | cl b o k vs ha hk hF h =>
    have hbase : ∃ base : Option (Nat × Nat), 0 < es.length → base = some (b, o) ∧ a = base.map fun p => ⟨p.1, p.2 + 0 * k, none⟩ := ⟨some (b, o), fun hp => ⟨rfl, by rw [ha hp]; simp⟩⟩
    let bd : Bind := ⟨some (b, o), es.length, k, false⟩
    have hlen : (es.map AV.pv).length = es.length := by simp
    have hk' : ∀ i (hi : i < (es.map AV.pv).length), (cells (es.map AV.pv)[i]).length = k := fun i hi => by
      have hi' : i < es.length := by simpa using hi
      simp only [List.getElem_map, cells_pv, List.length_map]
      exact hk i hi'
    have hv' : ∀ β' : Bnd, ∀ i (hi : i < (es.map AV.pv).length) j (hj : j < (cells (es.map AV.pv)[i]).length), ∃ v, F b (o + i * k + j) = some v ∧ v.oneCell' = true ∧ R β' F (cells (es.map AV.pv)[i])[j] v := fun β' i hi j hj => by
      have hi' : i < es.length := by simpa using hi
      have hj' : j < (pcells es[i]).length := by simpa [cells_pv] using hj
      have := hF i j hi' (by rw [← hk i hi']; exact hj')
      refine ⟨vs i j, this.1, this.2, ?_⟩
      have hr := h i hi' j hj'
      have e : (cells (es.map AV.pv)[i])[j] = .pv (pcells es[i])[j] := by simp [cells_pv]
      rw [e]; exact .pv hr
    obtain ⟨S', X⟩ := (Turn.new S (es := es.map .pv) (fz := es.length) (bd := bd) (w' := w) rfl rfl rfl (Nat.le_refl _) (fun _ _ => rfl) ⟨by simp [bd], by intro h; simpa [bd] using h, .inr ⟨rfl, b, o, fun hp => rfl, by simp [bd], by simp, hk', hv' _⟩⟩ (fun b h => by simp [bd] at h)).sim S (fun h => absurd h (Nat.lt_irrefl _))
    refine ⟨_, S', X, ?_⟩
    have hb := Bnd.put_self β M.length (es.map AV.pv).length bd
    rw [hlen] at hb ⊢
    refine R.gs hb ⟨by simp [bd], Nat.le_refl _, fun hlt => ?_⟩
    simp only [bd] at hlt ⊢
    rw [ha hlt]; simp

section
variable {P : Program} {tb : Tabs} (H : TabsTy P tb) {o : Oper} {β : Bnd} {F : Fr} {M : Mem} {w : World} {T : List AV} {a : Act} (hT : RL β F T a.tmps.toList) (S : Sim β F M w) {v : AV} {M' : Mem} {fi : FnI}
include H hT S

theorem out_assign {x : Operand} (ho : o.op = .assign x ∨ o.op = .move x) (h : stepOp tb fi T M o.dst o.op = .val v M') : Out P o a.eval β F M w v M' := by
  have h : assignV fi M o.dst (evalO T x) = .val v M' := by
    rcases ho with ho | ho <;> rw [ho] at h <;> exact h
  have hrun : (execOp a.eval o).run P w = .ok (.value (a.eval x)) w := by rcases ho with ho | ho <;> simp [execOp, ho]
  have hx := evalO_R hT x
  unfold assignV at h
  split at h
  · rename_i es d he hd
    rw [he] at hx
    split at h
    · simp only [Res.val.injEq] at h
      obtain ⟨rfl, rfl⟩ := h
      generalize hu : a.eval x = u at hx hrun
      cases hx with
      | pv hx =>
        have hsl : ∃ ad c, u = .slice ad es.length c := by cases hx; exact ⟨_, _, rfl⟩
        obtain ⟨ad, c, rfl⟩ := hsl
        obtain ⟨β', S', X, r⟩ := S.clip hx
        exact ⟨β', F, w, _, .inl hrun, X, S', r⟩
    · simp only [Res.val.injEq] at h
      obtain ⟨rfl, rfl⟩ := h
      rw [← he] at hx
      exact .same S hrun hx
  · simp only [Res.val.injEq] at h
    obtain ⟨rfl, rfl⟩ := h
    exact .same S hrun hx

theorem out_box {t : TypeId} {x : Operand} (ho : o.op = .box t x) (h : stepOp tb fi T M o.dst o.op = .val v M') : Out P o a.eval β F M w v M' := by
  rw [ho] at h
  simp only [stepOp] at h
  split at h
  · simp at h
  · rename_i hodd
    simp only [Res.val.injEq] at h
    obtain ⟨rfl, rfl⟩ := h
    have hx := (evalO_R hT x).nrm
    obtain ⟨hc, hone⟩ := hx.cells_odd (by rw [nrm_odd]; simpa using hodd)
    obtain ⟨β', S', X, r⟩ := S.var (w1 := w.alloc (.cells (a.eval x).cells.toList.toArray t)) (by rfl) rfl rfl rfl hc hone
    refine ⟨β', F, _, _, .inl ?_, X, S', r⟩
    simp [execOp, ho, Instr.box, newVar, newRow]

/-- Zero's cells. -/
theorem zero_ok {t : TypeId} {ti : TI} (hty : tb.ty t = some ti) : ∃ i z, P.info? t = some i ∧ i.size = ti.size ∧ i.bytes = ti.bytes ∧ (zeroValue t).run P w = .ok z w ∧ RL β F (ti.zero.map .pv) z.cells.toList ∧ allOne z.cells.toList ∧ z.cells.size = ti.size ∧ R β F (.pv (zeroOf ti)) z ∧ (ti.k.agg = true → z = .agg z.cells) ∧ i.zero = some z := by
  obtain ⟨i, z, h1, h2, h3, h4, h5, h6, h7, h8, h9⟩ := (H.ty _ _ hty).info
  refine ⟨i, z, h1, h2, h3, by simp [zeroValue, typeInfo, h1, h4], RL.of_pv (h5 F), h6, h7, ?_, h8, h4⟩
  have hn : ∀ F, RPL F (ti.zero.map nrmP) z.cells.toList := fun F => F2.map_left (F2.mono (h5 F) fun _ _ _ h => h.nrmP)
  unfold zeroOf elemOfCells
  cases hag : ti.k.agg with
  | true =>
    simp only [if_true]
    rw [h8 hag]
    have := hn F
    exact .pv (.agg (by simpa using this.length) (fun i hi => h6 _ (by simp)) fun i g1 g2 => by
      have := F2.get this i g1 (by simpa using g2)
      simpa using this)
  | false =>
    simp only [Bool.false_eq_true, if_false]
    have hz := cells_one (h9 hag)
    have h5' := hn F
    rw [hz] at h5'
    split
    · rename_i c hc
      rw [hc] at h5'
      cases h5' with | cons h t => exact .pv h
    · exact R.top _

theorem cells_zero {t : TypeId} {ti : TI} (hty : tb.ty t = some ti) : cells (.pv (zeroOf ti)) = (ti.zero.map nrmP).map .pv := by
  rw [cells_pv]
  congr 1
  unfold zeroOf elemOfCells
  cases hag : ti.k.agg with
  | true => rfl
  | false =>
    simp only [Bool.false_eq_true, if_false]
    obtain ⟨i', z', k1, k2, k3, k4, k5, k6, k7, k8, k9⟩ := (H.ty _ _ hty).info
    have hz := cells_one (k9 hag)
    have k5' : RPL F (ti.zero.map nrmP) z'.cells.toList := F2.map_left (F2.mono (k5 F) fun _ _ _ h => h.nrmP)
    rw [hz] at k5'
    revert k5'
    generalize ti.zero.map nrmP = l
    intro k5'
    cases k5' with
    | cons h t =>
      cases t
      simp only
      exact h.cells_one (k9 hag)
theorem RL.nrms {l : List AV} {m : List Value} (h : RL β F l m) : RL β F (l.map nrm) m := F2.map_left (F2.mono h fun _ _ _ h => h.nrm)
theorem zero_nrm {t : TypeId} {ti : TI} (hty : tb.ty t = some ti) {z : Value} (h : RL β F (ti.zero.map .pv) z.cells.toList) : RL β F (cells (.pv (zeroOf ti))) z.cells.toList := by
  rw [cells_zero H hT S hty]
  exact RL.of_pv (F2.map_left (F2.mono (RPL.of_RL h) fun _ _ _ h => h.nrmP))
theorem out_alloc0 {t : TypeId} (ho : o.op = .alloc t) (hown : ownOf fi o.dst = []) (h : stepOp tb fi T M o.dst o.op = .val v M') : Out P o a.eval β F M w v M' := by
  rw [ho] at h
  simp only [stepOp] at h
  split at h
  · rename_i ti hty
    rw [hown] at h
    simp only [Res.val.injEq] at h
    obtain ⟨rfl, rfl⟩ := h
    obtain ⟨i, z, h1, h2, h3, h4, h5, h6, h7, h8, h9, h10⟩ := zero_ok (β := β) (F := F) (w := w) H hT S hty
    obtain ⟨β', S', X, r⟩ := S.var (e := .pv (zeroOf ti)) (w1 := w.alloc (.cells z.cells.toList.toArray t)) (by rfl) rfl rfl rfl (zero_nrm H hT S hty h5) h6
    refine ⟨β', F, _, _, .inl ?_, X, S', r⟩
    simp [execOp, ho, Instr.alloc, h4, newVar, newRow]
  · simp at h

theorem out_makeSlice {t : TypeId} {l c : Operand} (ho : o.op = .makeSlice t l c) (h : stepOp tb fi T M o.dst o.op = .val v M') : Out P o a.eval β F M w v M' := by
  rw [ho] at h
  simp only [stepOp] at h
  split at h
  · rename_i e _ _ _ _ _ n m hty hn hm
    split at h
    · rename_i ti hte
      split at h
      · rename_i hc
        simp only [Bool.and_eq_true, decide_eq_true_eq, Bool.or_eq_true, beq_iff_eq] at hc
        obtain ⟨⟨⟨hnm, hroom⟩, hm32⟩, hn0⟩ := hc
        simp only [Res.val.injEq] at h
        obtain ⟨rfl, rfl⟩ := h
        obtain ⟨k1, e1⟩ := natOf_R (evalO_R hT l) hn
        obtain ⟨k2, e2⟩ := natOf_R (evalO_R hT c) hm
        obtain ⟨d, hd, hkd⟩ := und_of H hty
        cases hkd
        obtain ⟨i, z, h1, h2, h3, h4, h5, h6, h7, h8, h9, h10⟩ := zero_ok (β := β) (F := F) (w := w) H hT S hte
        have hz : z.cells.size = i.size := by rw [h7, h2]
        have hkz : (cells (.pv (zeroOf ti))).length = ti.size := by
          rw [cells_zero H hT S hte]
          have := h5.length
          simp only [List.length_map, Array.length_toList] at this
          simp only [List.length_map]
          omega
        let vs : List Value := ((Array.range (m * i.size)).map (z.cells[· % z.cells.size]!)).toList
        have hrun : (execOp a.eval o).run P w = .ok (.value (.slice (some ⟨w.heap.size, 0, none⟩) n m)) (w.alloc (.cells vs.toArray e)) := by
          have w1 : IntKind.i64.wrap (m : Int) = m := IntWalk.i64_in _ (by omega)
          have w2 : IntKind.i64.wrap (n : Int) = n := IntWalk.i64_in _ (by omega)
          have hby : ((i.bytes : Int) * m ≤ 281474976710656) := by
            have : m * ti.bytes ≤ 140737488355328 := by simp only [roomFor, Bool.and_eq_true, decide_eq_true_eq] at hroom; exact hroom.1
            have e : ((i.bytes : Int) * m) = ((m * ti.bytes : Nat) : Int) := by rw [h3]; push_cast; exact Int.mul_comm _ _
            omega
          have hcnd : ¬ ((((m : Int) < 0 ∨ 281474976710656 < (i.bytes : Int) * m) ∨ (n : Int) < 0) ∨ m < n) := by omega
          by_cases h0 : m * i.size = 0
          · have hvs : vs = [] := by simp [vs, h0]
            simp [execOp, ho, e1, e2, Instr.makeSlice, run_underlying hd, asInt, asIntOf, typeInfo, h1, w1, w2, hby, sizeOf, h0, newRow, hvs]
            rw [if_neg hcnd]
            have hr0 : Array.map (fun _ : Nat => (default : Value)) (Array.range 0) = #[] := Array.eq_empty_of_size_eq_zero (by simp)
            rw [hr0]
          · simp [execOp, ho, e1, e2, Instr.makeSlice, run_underlying hd, asInt, asIntOf, typeInfo, h1, w1, w2, hby, sizeOf, h0, newRow, h4]
            rw [if_neg hcnd]
        have hval : ∀ i' (hi : i' < (List.replicate n (AV.pv (zeroOf ti))).length) j (hj : j < (cells (List.replicate n (AV.pv (zeroOf ti)))[i']).length), ∃ v, vs[i' * ti.size + j]? = some v ∧ v.oneCell' = true ∧ R β F (cells (List.replicate n (AV.pv (zeroOf ti)))[i'])[j] v := by
          intro i' hi j hj
          have hi' : i' < n := by simpa using hi
          have hel : (List.replicate n (AV.pv (zeroOf ti)))[i'] = .pv (zeroOf ti) := by simp
          have hj' : j < ti.size := by rw [← hkz]; simpa using hj
          have hjz : j < z.cells.size := by omega
          have hmod : (i' * ti.size + j) % z.cells.size = j := by
            rw [h7, Nat.mul_comm, Nat.mul_add_mod]; exact Nat.mod_eq_of_lt hj'
          have hlt : i' * ti.size + j < m * i.size := by
            have : (i' + 1) * ti.size ≤ m * ti.size := Nat.mul_le_mul_right _ (by omega)
            rw [Nat.add_mul] at this
            rw [h2]; omega
          refine ⟨z.cells[j], ?_, h6 _ (by simp), ?_⟩
          · simp [vs, hlt, hmod, hjz]
          · have hc := cells_zero H hT S hte
            have h5' := zero_nrm H hT S hte h5
            have hr := F2.get h5' j (by rw [hkz]; exact hj') (by simpa using hjz)
            have e1 : (cells (List.replicate n (AV.pv (zeroOf ti)))[i'])[j] = (cells (AV.pv (zeroOf ti)))[j]'(by rw [hkz]; exact hj') := by
              simp only [hel]
            rw [e1]
            simpa using hr
        obtain ⟨S', X⟩ := S.alloc (es := List.replicate n (.pv (zeroOf ti))) (k := ti.size) (cap := m) (fz := 0) (vs := vs) (w1 := w.alloc (.cells vs.toArray e)) (by rfl) rfl rfl rfl
          (fun i hi => by simpa using hkz) (by simpa using hnm) (fun he => by
            have : n = 0 := by simpa using he
            omega) (by simp [vs, h2]) hval
        refine ⟨_, F, _, _, .inl hrun, X, S', ?_⟩
        have hb := Bnd.put_self β M.length (List.replicate n (AV.pv (zeroOf ti))).length ⟨some (w.heap.size, 0), m, ti.size, true⟩
        simp only [List.length_replicate] at hb ⊢
        exact .gs hb ⟨by simp, hnm, fun _ => by simp⟩
      · simp at h
    · simp at h
  · simp at h
end
end Go.Vm
