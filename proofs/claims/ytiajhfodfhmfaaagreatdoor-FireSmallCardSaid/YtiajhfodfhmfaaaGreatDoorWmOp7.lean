/- Structs and lists that are built. -/
import Derived.Test.YtiajhfodfhmfaaaGreatDoorWmOp6
import Derived.Great.FillDense
import Derived.Great.BuildSlice
import Derived.Laws.Tables
set_option linter.unusedVariables false
set_option linter.unusedSimpArgs false
set_option linter.unusedSectionVars false
namespace Go.Vm
variable [SymB] [SymV]

theorem lay_over (cells : Array Value) (off : Nat) (xs : List Value) (h : off + xs.length ≤ cells.size) :
    ((xs.zipIdx 0).foldl (fun cs (x : Value × Nat) => cs.setIfInBounds (off + x.2) x.1) cells).toList = overV cells.toList off xs := by
  obtain ⟨h1, h2⟩ := Go.Great.foldl_set off xs 0 cells
  apply List.ext_getElem?
  intro k
  rw [overV_get (by simpa using h)]
  have h3 := h2 k
  simp only [Array.getElem?_toList]
  rw [h3]
  simp only [Nat.add_zero]
  by_cases hk : off ≤ k ∧ k < off + xs.length
  · rw [if_pos ⟨hk.1, hk.2, by omega⟩, if_pos hk]
  · rw [if_neg (by omega), if_neg hk]

theorem fill_sound {β : Bnd} {F : Fr} {offs : Nat → Option (Nat × Nat)} {place : Nat → Option (Nat × Nat)} (hp : ∀ i p, offs i = some p → place i = some p) :
    ∀ {parts : List (Nat × AV)} {vals : List (Nat × Value)} {cs cs' : List AV} {us : Array Value}, F2 (fun (p : Nat × AV) (q : Nat × Value) => q.1 = p.1 ∧ R β F p.2 q.2) parts vals → RL β F cs us.toList → allOne us.toList → Vm.fill offs cs parts = some cs' →
      ∃ us', Instr.fill place us vals = some us' ∧ RL β F cs' us'.toList ∧ allOne us'.toList ∧ us'.size = us.size := by
  intro parts
  induction parts with
  | nil =>
    intro vals cs cs' us hv hr ho h
    cases hv
    simp only [Vm.fill, Option.some.injEq] at h
    subst h
    exact ⟨us, rfl, hr, ho, rfl⟩
  | cons p parts ih =>
    intro vals cs cs' us hv hr ho h
    obtain ⟨i, v⟩ := p
    cases hv with
    | cons hq ht =>
      rename_i q vals
      obtain ⟨i', x⟩ := q
      obtain ⟨hi, hR⟩ := hq
      simp only at hi
      subst hi
      simp only [Vm.fill] at h
      split at h
      · rename_i off size hoff
        split at h
        · rename_i hc
          obtain ⟨h1, h2, h3⟩ := hc
          obtain ⟨hc1, hc2⟩ := R.cells_odd hR h3
          have hl := F2.length hc1
          have hlu := F2.length hr
          simp only [Array.length_toList] at hl hlu
          have hlay := lay_over us off x.cells.toList (by simp only [Array.length_toList]; omega)
          have hr' : RL β F (overwrite cs off (cells v)) (overV us.toList off x.cells.toList) := overwrite_R hr hc1
          rw [← hlay] at hr'
          have ho' : allOne ((x.cells.toList.zipIdx 0).foldl (fun cs (x : Value × Nat) => cs.setIfInBounds (off + x.2) x.1) us).toList := by
            rw [hlay]
            intro y hy
            unfold overV at hy
            rw [List.mem_append, List.mem_append] at hy
            rcases hy with (hy | hy) | hy
            · exact ho _ (List.mem_of_mem_take hy)
            · exact hc2 _ hy
            · exact ho _ (List.mem_of_mem_drop hy)
          obtain ⟨us', k1, k2, k3, k4⟩ := ih ht hr' ho' h
          refine ⟨us', ?_, k2, k3, by rw [k4]; exact (Go.Great.foldl_set off x.cells.toList 0 us).1⟩
          simp only [Instr.fill, hp _ _ hoff]
          rw [if_neg (by simp; omega)]
          rw [← Array.foldl_toList, Array.toList_zipIdx]
          exact k1
        · simp at h
      · simp at h

theorem ownFields_sound {F : Fr} {w : World} : ∀ (own : List Nat) {β : Bnd} {M M' : Mem} {cs cs' : List AV} {us : List Value}, Sim β F M w → RL β F cs us → ownFields M cs own = (cs', M') →
    ∃ β', Sim β' F M' w ∧ Ext β F M w β' F M' w ∧ RL β' F cs' us
  | [], β, M, M', cs, cs', us, S, hr, h => by
    simp only [ownFields, Prod.mk.injEq] at h
    obtain ⟨rfl, rfl⟩ := h
    exact ⟨β, S, .refl .., hr⟩
  | o :: own, β, M, M', cs, cs', us, S, hr, h => by
    simp only [ownFields] at h
    split at h
    · rename_i es hes
      obtain ⟨x, hx, hR⟩ := F2.get? hr hes
      cases hR with
      | pv hR =>
        have hsl : ∃ ad c, x = .slice ad es.length c := by cases hR; exact ⟨_, _, rfl⟩
        obtain ⟨ad, c, rfl⟩ := hsl
        obtain ⟨β1, S1, X1, r1⟩ := S.clip hR
        have hr1 : RL β1 F (cs.set o (.gs M.length es.length 0 es.length)) us := by
          have := F2.set (RL.mono X1.bnd (.refl _) hr) r1 o
          have e : us.set o (.slice ad es.length c) = us := by
            obtain ⟨hlt, he⟩ := List.getElem?_eq_some_iff.1 hx
            rw [← he]; exact List.set_getElem_self hlt
          rwa [e] at this
        obtain ⟨β2, S2, X2, r2⟩ := ownFields_sound own S1 hr1 h
        exact ⟨β2, S2, X1.trans X2, r2⟩
    · exact ownFields_sound own S hr h

/-- All cells of a new block stay. -/
theorem Sim.lay {β : Bnd} {F : Fr} {M : Mem} {w w1 : World} (S : Sim β F M w) {vs : List Value} {E : TypeId} (hw1 : w1.heap = w.heap.push (.cells vs.toArray E)) (hos : w1.os = w.os) (ht : w1.tape = w.tape) (hout : w1.output = w.output) :
    let G : Fr := fun b o => if b = w.heap.size then vs[o]? else F b o
    Sim β G M w1 ∧ Ext β F M w β G M w1 ∧ F.le G := by
  intro G
  have hold : ∀ b, b < w.heap.size → w1.heap[b]? = w.heap[b]? := fun b hb => by rw [hw1]; simp [Array.getElem?_push, Nat.ne_of_lt hb]
  have hnew : w1.heap[w.heap.size]? = some (.cells vs.toArray E) := by rw [hw1]; simp
  have hcell : ∀ o, w1.cell? ⟨w.heap.size, o, none⟩ = vs[o]? := fun o => by simp [World.cell?, hnew]
  have hle : F.le G := fun b o v h => by
    have := S.F_lt h
    simp only [G]
    rw [if_neg (by omega)]; exact h
  have hoc : ∀ b o, b < w.heap.size → w1.cell? ⟨b, o, none⟩ = w.cell? ⟨b, o, none⟩ ∧ w1.frozen? ⟨b, o, none⟩ = w.frozen? ⟨b, o, none⟩ := fun b o hb => ⟨World.cell?_of_block (a := ⟨b, o, none⟩) (hold b hb), World.frozen?_of_block (a := ⟨b, o, none⟩) (hold b hb)⟩
  refine ⟨⟨fun b o v h => ?_, fun g es fz bd hg hb => ?_, fun g es b hg hb => ?_, S.ver, S.vem, S.inj, S.inm⟩, ⟨⟨.refl _, hle, hos, ht, hout, by rw [hw1]; simp, fun b hb _ => hold b hb, fun b o h1 h2 => ?_, fun b h => .inr h, Nat.le_refl _⟩, fun _ n bd _ h => ⟨n, bd, h⟩⟩, hle⟩
  · simp only [G] at h
    split at h
    · rename_i e; subst e; rw [hcell]; exact h
    · rw [(hoc b o (S.F_lt h)).1]; exact S.frz b o v h
  · have A := S.arr g es fz bd hg hb
    refine ⟨A.room, A.empty, ?_⟩
    rcases A.kind with ⟨ho, b, O⟩ | ⟨ho, b, o, O⟩
    · exact .inl ⟨ho, b, O.base, by rw [hw1]; have := O.lt; simp; omega, fun o hl => by rw [(hoc b o O.lt).1, (hoc b o O.lt).2]; exact O.there o hl, O.len, fun i hi j hj => by
        obtain ⟨v, h1, h2, h3⟩ := O.val i hi j hj
        exact ⟨v, by rw [(hoc b _ O.lt).1]; exact h1, h2, h3.mono (.refl _) hle⟩, fun o h => by
        have := O.lt
        simp only [G]
        rw [if_neg (by omega)]; exact O.free o h⟩
    · exact .inr ⟨ho, b, o, O.base, O.cap, O.fz, O.len, fun i hi j hj => by
        obtain ⟨v, h1, h2, h3⟩ := O.val i hi j hj
        exact ⟨v, hle _ _ _ h1, h2, h3.mono (.refl _) hle⟩⟩
  · obtain ⟨ents, clock, h1, h2⟩ := S.map g es b hg hb
    exact ⟨ents, clock, by rw [hold b (Array.getElem?_eq_some_iff.1 h1).1]; exact h1, F2.mono h2 fun _ _ _ h => ⟨h.1.mono hle, h.2.mono hle⟩⟩
  · simp only [G] at h2
    split at h2
    · rename_i e; exact .inl (by omega)
    · exact absurd h1 h2

theorem places_ok {P : Program} : ∀ {fs : List FI} {gs : List Field}, F2 (fun (f : FI) (g : Field) => g.offset = f.off ∧ (∃ i, P.info? g.type = some i ∧ i.size = f.size ∧ i.size ≠ 0) ∧ ∃ d', P.underlying g.type = some d' ∧ d'.isRow = f.agg) fs gs →
    gs.mapM (fun f => (P.info? f.type).map fun i => (f.offset, i.size)) = some (fs.map fun f => (f.off, f.size))
  | _, _, .nil => rfl
  | _, _, .cons ⟨h1, ⟨i, h2, h3, _⟩, _⟩ t => by
    simp only [List.mapM_cons, h2, Option.map_some, Option.bind_eq_bind, Option.bind_some, places_ok t, Option.pure_def, List.map_cons, h1, h3]

section
variable {P : Program} {tb : Tabs} (H : TabsTy P tb) {o : Oper} {β : Bnd} {F : Fr} {M : Mem} {w : World} {T : List AV} {a : Act} (hT : RL β F T a.tmps.toList) (S : Sim β F M w) {v : AV} {M' : Mem} {fi : FnI}
include H hT S

theorem RL.nrms' {β : Bnd} {F : Fr} {l : List AV} {m : List Value} (h : RL β F l m) : RL β F (l.map nrm) m := F2.map_left (F2.mono h fun _ _ _ h => h.nrm)

theorem out_build {t : TypeId} {ps : Array (Nat × Operand)} (ho : o.op = .build t ps) (h : stepOp tb fi T M o.dst o.op = .val v M') : Out P o a.eval β F M w v M' := by
  rw [ho] at h
  simp only [stepOp] at h
  split at h
  · rename_i fs sz by_ z eq ms hty
    obtain ⟨d, hd, hkd⟩ := und_of H hty
    obtain ⟨gs, rfl, hgs⟩ := hkd
    obtain ⟨i, zv, h1, h2, h3, h4, h5, h6, h7, h8, h9, h10⟩ := zero_ok (β := β) (F := F) (w := w) H hT S hty
    split at h
    · rename_i cs hf
      generalize hof : ownFields M cs (ownOf fi o.dst) = q at h
      obtain ⟨cs', M1⟩ := q
      simp only [Res.val.injEq] at h
      obtain ⟨rfl, rfl⟩ := h
      have hz : zv = .agg zv.cells := h9 rfl
      obtain ⟨us, k1, k2, k3, k4⟩ := fill_sound (place := fun i => ((fs.map fun f => (f.off, f.size)).toArray)[i]?) (fun i p hp => by simpa using hp) (vals := ps.toList.map fun p => (p.1, a.eval p.2)) (parts := ps.toList.map fun (i, x) => (i, evalO T x))
        (by
          generalize ps.toList = l
          induction l with
          | nil => exact .nil
          | cons p l ih => exact .cons ⟨rfl, evalO_R hT _⟩ ih) h5 h6 hf
      obtain ⟨β', S', X, r⟩ := ownFields_sound _ S k2 hof
      have hbuilt : P.built t (ps.map fun p => (p.1, a.eval p.2)).toList = some us := by
        unfold Program.built
        simp only [h1, hd, h10, places_ok hgs]
        rw [Array.toList_map]
        exact k1
      have hrun := run_build (P := P) w t (ps.map fun p => (p.1, a.eval p.2)) us hbuilt
      refine ⟨β', F, w, .agg us, .inl ?_, X, S', ?_⟩
      · simp only [execOp, ho, Sem.run_bind]
        have e : (ps.map fun (x : Nat × Operand) => (x.1, a.eval x.2)) = ps.map fun (i, x) => (i, a.eval x) := rfl
        rw [e] at hrun
        rw [hrun]
        rfl
      · have := R.mkAgg (RL.nrms' H hT S r) k3
        simpa using this
    · simp at h
  · simp at h

theorem out_alloc {t : TypeId} (ho : o.op = .alloc t) (h : stepOp tb fi T M o.dst o.op = .val v M') : Out P o a.eval β F M w v M' := by
  by_cases hown : ownOf fi o.dst = []
  · exact out_alloc0 H hT S ho hown h
  · rw [ho] at h
    simp only [stepOp] at h
    split at h
    · rename_i ti hty
      generalize hl : ownOf fi o.dst = l at h hown
      cases l with
      | nil => exact absurd rfl hown
      | cons l0 l =>
        obtain ⟨i, z, h1, h2, h3, h4, h5, h6, h7, h8, h9, h10⟩ := zero_ok (β := β) (F := F) (w := w) H hT S hty
        generalize hof : ownFields M (ti.zero.map .pv) (l0 :: l) = q at h
        obtain ⟨cs', M1⟩ := q
        dsimp only at h
        obtain ⟨β', S', X, r⟩ := ownFields_sound _ S h5 hof
        have hrun : (execOp a.eval o).run P w = .ok (.value (.pointer (some ⟨w.heap.size, 0, none⟩))) (w.alloc (.cells z.cells.toList.toArray t)) := by
          simp [execOp, ho, Instr.alloc, h4, newVar, newRow]
        split at h
        · rename_i hag
          simp only [Res.val.injEq] at h
          obtain ⟨rfl, rfl⟩ := h
          obtain ⟨β2, S2, X2, r2⟩ := S'.var (e := mkAgg (cs'.map nrm)) (w1 := w.alloc (.cells z.cells.toList.toArray t)) rfl rfl rfl rfl (by rw [cells_mkAgg]; exact RL.nrms' H hT S r) h6
          exact ⟨β2, F, _, _, .inl hrun, X.trans X2, S2, r2⟩
        · split at h
          · rename_i c
            simp only [Res.val.injEq] at h
            obtain ⟨rfl, rfl⟩ := h
            have hc : RL β' F (cells (nrm c)) z.cells.toList := by
              cases hzc : z.cells.toList with
              | nil => rw [hzc] at r; cases r
              | cons x l =>
                rw [hzc] at r h6
                cases r with
                | cons hr ht =>
                  cases ht
                  rw [hr.nrm.cells_one (h6 x (by simp))]
                  exact .cons hr.nrm .nil
            obtain ⟨β2, S2, X2, r2⟩ := S'.var (e := nrm c) (w1 := w.alloc (.cells z.cells.toList.toArray t)) rfl rfl rfl rfl hc h6
            exact ⟨β2, F, _, _, .inl hrun, X.trans X2, S2, r2⟩
          · simp at h
    · simp at h

theorem out_buildSlice {t : TypeId} {n : Nat} {ps : Array (Nat × Operand)} (ho : o.op = .buildSlice t n ps) (h : stepOp tb fi T M o.dst o.op = .val v M') : Out P o a.eval β F M w v M' := by
  rw [ho] at h
  simp only [stepOp] at h
  split at h
  · rename_i e _ _ _ _ _ hty
    obtain ⟨d, hd, hkd⟩ := und_of H hty
    cases hkd
    split at h
    · rename_i ti hte
      obtain ⟨i, z, h1, h2, h3, h4, h5, h6, h7, h8, h9, h10⟩ := zero_ok (β := β) (F := F) (w := w) H hT S hte
      split at h
      · rename_i hc
        simp only [Bool.and_eq_true, decide_eq_true_eq, beq_iff_eq] at hc
        obtain ⟨⟨hc1, hc2⟩, hc3⟩ := hc
        split at h
        · rename_i vs M1 hfr
          split at h
          · rename_i hall
            simp only [Res.val.injEq] at h
            obtain ⟨rfl, rfl⟩ := h
            simp only [List.all_eq_true, Bool.and_eq_true, beq_iff_eq, Bool.not_eq_true'] at hall
            -- the values
            have hvals : RL β F (ps.toList.map fun p => evalO T p.2) (ps.toList.map fun p => a.eval p.2) := by
              generalize ps.toList = l
              induction l with
              | nil => exact .nil
              | cons p l ih => exact .cons (evalO_R hT _) ih
            obtain ⟨F1, K, r⟩ := freezeL_sound (fun M a p M' F x => freeze_sound 5 M a p M' F x) _ M vs M1 F _ hfr hvals S
            generalize hxs : (ps.toList.map fun p => a.eval p.2) = xs at r
            have hparts : (ps.map fun (i, x) => (i, a.eval x)).toList = (xs.zipIdx 0).map fun x => (x.2, x.1) := by
              rw [Array.toList_map]
              have : ps.toList.map (·.1) = List.range n := hc3
              have hn : ps.toList.length = n := by have := congrArg List.length this; simpa using this
              apply List.ext_getElem?
              intro k
              simp only [List.getElem?_map, List.getElem?_zipIdx, ← hxs, Nat.zero_add]
              cases hk : ps.toList[k]? with
              | none => simp
              | some p =>
                have h1' : (ps.toList.map (·.1))[k]? = some p.1 := by simp [List.getElem?_map, hk]
                rw [this] at h1'
                have hkn : k < n := by have := (List.getElem?_eq_some_iff.1 hk).1; omega
                rw [List.getElem?_range hkn] at h1'
                simp only [Option.some.injEq] at h1'
                simp [h1']
            have hn : xs.length = n := by rw [← hxs]; have := congrArg List.length hc3; simpa using this
            have hvl := F2.length r
            -- each value's cells
            have hcs : F2 (fun p x => RPL F1 (pcells p) x.cells.toList ∧ allOne x.cells.toList ∧ x.cells.size = i.size) vs xs := F2.mono r fun p x hp hR => by
              obtain ⟨q1, q2⟩ := hall p hp
              obtain ⟨q3, q4⟩ := (R.pv (β := β) hR).cells_odd q2
              rw [cells_pv] at q3
              have q5 := RPL.of_RL q3
              exact ⟨q5, q4, by have := F2.length q5; simp at this; omega⟩
            let flat : List Value := xs.flatMap fun v => v.cells.toList
            have hrun : ∃ c : List Value, (execOp a.eval o).run P w = .ok (.value (.slice (some ⟨w.heap.size, 0, none⟩) n n)) (w.alloc (.cells c.toArray e)) ∧ c = flat := by
              refine ⟨flat, ?_, rfl⟩
              by_cases h0 : n * i.size = 0
              · have hn0 : n = 0 := by
                  rcases Nat.mul_eq_zero.1 h0 with h | h
                  · exact h
                  · omega
                subst hn0
                have hx0 : xs = [] := List.eq_nil_of_length_eq_zero hn
                have hp0 : ps.toList = [] := by have := congrArg List.length hc3; simpa using this
                have hp0' : ps = #[] := by cases ps; simp at hp0; simp [hp0]
                subst hp0'
                have hr0 : Array.map (fun _ : Nat => (default : Value)) (Array.range 0) = #[] := Array.eq_empty_of_size_eq_zero (by simp)
                simp [execOp, ho, Instr.buildSlice, run_underlying hd, sizeOf, typeInfo, h1, Instr.fill, newRow, flat, hx0, hr0]
              · have hfill := Go.Great.fill_whole (s := i.size) (by omega) xs ((Array.range (n * i.size)).map (z.cells[· % z.cells.size]!)) (fun v hv => by
                  obtain ⟨k, hk, rfl⟩ := List.getElem_of_mem hv
                  exact (F2.get hcs k (by omega) hk).2.2) (by simp [hn])
                have := run_buildSlice (P := P) w t e n (ps.map fun (i, x) => (i, a.eval x)) flat.toArray i z hd h1 h10 (by rw [h2]; omega) h0 (by rw [hparts]; exact hfill)
                simp only [execOp, ho, Sem.run_bind]
                rw [this]
                rfl
            obtain ⟨c, hrun, hcf⟩ := hrun
            subst hcf
            have hS1 := K.sim
            obtain ⟨S2, X2, hle⟩ := hS1.lay (vs := flat) (w1 := w.alloc (.cells flat.toArray e)) rfl rfl rfl rfl
            refine ⟨β, _, _, _, .inl hrun, K.ext.trans X2, S2, .pv ?_⟩
            have hlen : vs.length = n := by omega
            rw [← hlen]
            -- the rows
            have hrows : F2 (fun p vs' => RPL (fun b o => if b = w.heap.size then flat[o]? else F1 b o) (pcells p) vs') vs (xs.map fun v => v.cells.toList) :=
              F2.map_right (F2.mono hcs fun p x _ h => RPL.mono hle h.1)
            have hrl : ∀ (k : Nat) vs', (xs.map fun v => v.cells.toList)[k]? = some vs' → vs'.length = i.size := fun k vs' hk => by
              obtain ⟨hlt, rfl⟩ := List.getElem?_eq_some_iff.1 hk
              have hlt' : k < xs.length := by simpa using hlt
              have := (F2.get hcs k (by omega) hlt').2.2
              simpa using this
            obtain ⟨f1, f2⟩ := flat_get hrl
            have hfe : flat = (xs.map fun v => v.cells.toList).flatten := by simp [flat, List.flatMap]
            refine RP.cl_of (b := w.heap.size) (o := 0) (k := i.size) hrows (fun k vs' hk => ⟨hrl k vs' hk, fun j v hj => ⟨?_, ?_⟩⟩) (fun _ => rfl)
            · have hjk : j < i.size := by rw [← hrl k vs' hk]; exact (List.getElem?_eq_some_iff.1 hj).1
              simp only [if_true, Nat.zero_add]
              rw [hfe, f2 k j hjk, hk]
              simpa using hj
            · obtain ⟨hlt, rfl⟩ := List.getElem?_eq_some_iff.1 hk
              have hlt' : k < xs.length := by simpa using hlt
              have := (F2.get hcs k (by omega) hlt').2.1
              refine this.get (i := j) ?_
              simpa using hj
          · simp at h
        · simp at h
      · simp at h
    · simp at h
  · simp at h
end
end Go.Vm
