/- One operation. -/
import Derived.Test.YtiajhfodfhmfaaaGreatDoorWmOp11
set_option linter.unusedVariables false
set_option linter.unusedSimpArgs false
set_option linter.unusedSectionVars false
namespace Go.Vm
variable [SymB] [SymV]

/-- A call of it enters a body. -/
def Enters (P : Program) (f : FuncId) : Prop := ∃ fn, P.funcs[f]? = some fn ∧ (fn.name == "runtime.NumGoroutine") = false ∧ fn.body.isNone = false

theorem run_callFunc {P : Program} {f : FuncId} (h : Enters P f) (args : Array Value) (w : World) : (callFunc f args).run P w = .ok (.enter f args) w := by
  obtain ⟨fn, h1, h2, h3⟩ := h
  have h2' : ¬ fn.name = "runtime.NumGoroutine" := by simpa using h2
  have h3' : ¬ fn.body = none := fun e => by rw [e] at h3; simp at h3
  simp [callFunc, h1, h2', h3']

section
variable {P : Program} {tb : Tabs} (H : TabsTy P tb) {o : Oper} {β : Bnd} {F : Fr} {M : Mem} {w : World} {T : List AV} {a : Act} (hT : RL β F T a.tmps.toList) (S : Sim β F M w) {v : AV} {M' : Mem} {fi : FnI}
include H hT S

theorem args_R (xs : Array Operand) : RL β F (xs.toList.map (evalO T)) (xs.map a.eval).toList := by
  rw [Array.toList_map]
  generalize xs.toList = l
  induction l with
  | nil => exact .nil
  | cons x l ih => exact .cons (evalO_R hT x) ih

theorem step_val (h : stepOp tb fi T M o.dst o.op = .val v M') : Out P o a.eval β F M w v M' := by
  cases ho : o.op with
  | move x => exact out_assign H hT S (.inr ho) h
  | assign x => exact out_assign H hT S (.inl ho) h
  | pick c x y => exact out_pick hT S ho h
  | alloc t => exact out_alloc H hT S ho h
  | box t x => exact out_box H hT S ho h
  | build t ps => exact out_build H hT S ho h
  | buildSlice t n ps => exact out_buildSlice H hT S ho h
  | load t x => exact out_load H hT S ho h
  | store t x y => exact out_store H hT S ho h
  | nilCheck x => exact out_nilCheck hT S ho h
  | binOp op t x y t' => exact out_binOp H hT S ho h
  | unOp op t x => exact out_unOp H hT S ho h
  | convert s d x => exact out_convert H hT S ho h
  | makeInterface t x => exact out_makeInterface hT S ho H h
  | makeFunc fn first cap =>
    cases fn with
    | func f => exact out_makeFunc hT S ho h
    | _ => rw [ho] at h; simp [stepOp] at h
  | makeMap t r =>
    cases r with
    | none => exact out_makeMap H hT S ho h
    | some r => rw [ho] at h; simp [stepOp] at h
  | makeSlice t l c => exact out_makeSlice H hT S ho h
  | slice t x lo hi mx => exact out_slice H hT S ho h
  | fieldAddr t x f => exact out_fieldAddr hT S ho H h
  | field t x f => exact out_field H hT S ho h
  | indexAddr t x i => exact out_indexAddr H hT S ho h
  | index t x i => exact out_index H hT S ho h
  | lookup t x i ok => exact out_lookup H hT S ho h
  | mapUpdate t m k x => exact out_mapUpdate H hT S (.inl ho) h
  | insert t m k x => exact out_mapUpdate H hT S (.inr ho) h
  | extract x i => exact out_extract hT S ho h
  | call c =>
    rw [ho] at h
    simp only [stepOp] at h
    split at h
    · rename_i b hb
      obtain ⟨β', F', w', r, h1, h2, h3, h4⟩ := builtin_sound (ty := o.type) (cs := c.args.map fun | .const _ => true | _ => false) H S (args_R H hT S c.args) h
      refine ⟨β', F', w', r, .inl ?_, h2, h3, h4⟩
      simp only [execOp, ho, resolve, hb, Sem.run_bind, Sem.run_pure, Result.andThen, invoke]
      exact h1
    · split at h <;> simp at h
    · split at h
      · split at h
        · split at h <;> simp at h
        · simp at h
      · simp at h
  | _ => rw [ho] at h; simp [stepOp] at h

theorem step_call {f : FuncId} {args : List AV} (hf : Enters P f) (h : stepOp tb fi T M o.dst o.op = .call f args) : ∃ xs : Array Value, (execOp a.eval o).run P w = .ok (.enter f xs) w ∧ RL β F args xs.toList := by
  have hof : ∀ {M : Mem} {r : Option AV}, ofVal M r ≠ .call f args := fun {M r} h => by cases r <;> simp [ofVal] at h
  have hoo : ∀ {r : Option (AV × Mem)}, ofOpt r ≠ .call f args := fun {r} h => by
    cases r with
    | none => simp [ofOpt] at h
    | some p => obtain ⟨p1, p2⟩ := p; simp [ofOpt] at h
  cases ho : o.op with
  | call c =>
    rw [ho] at h
    simp only [stepOp] at h
    have hargs := args_R H hT S c.args
    split at h
    · rename_i b hb
      exfalso
      unfold builtinV at h
      split at h
      · split at h
        · split at h <;> simp at h
        · simp at h
      · split at h <;> simp at h
      · split at h
        · exact hoo h
        · split at h
          · split at h
            · exact hoo h
            · simp at h
          · simp at h
        · simp at h
      · exact hof h
      · exact hof h
      · split at h
        · split at h
          · split at h
            · split at h
              · simp at h
              · split at h <;> simp at h
            · simp at h
          · simp at h
        · simp at h
      · simp at h
    · rename_i x hx
      split at h
      · rename_i f' cap he
        simp only [Res.call.injEq] at h
        obtain ⟨rfl, rfl⟩ := h
        have hR := evalO_R hT x
        rw [he] at hR
        generalize hX : a.eval x = X at hR
        cases hR with
        | fn hl hc =>
          rename_i vs
          refine ⟨c.args.map a.eval ++ vs, ?_, ?_⟩
          · simp only [execOp, ho, resolve, hx, Sem.run_bind, hX]
            simp [Deferred.ofValue, invoke, run_callFunc hf]
          · rw [Array.toList_append]
            exact F2.append hargs (F2.of_arr hl hc)
      · simp at h
    · rename_i x name hx
      split at h
      · rename_i t v he
        have hR := evalO_R hT x
        rw [he] at hR
        generalize hX : a.eval x = X at hR
        cases hR with
        | ifc hv =>
          rename_i V
          split at h
          · rename_i ti hty
            split at h
            · rename_i f' hm
              simp only [Res.call.injEq] at h
              obtain ⟨rfl, rfl⟩ := h
              have hmeth := (H.ty _ _ hty).meth name f' hm V w
              refine ⟨#[V] ++ c.args.map a.eval, ?_, ?_⟩
              · have hd : ∃ n, P.types.size + Made.depth = n + 1 := ⟨P.types.size + Made.depth - 1, by have : 0 < Made.depth := by decide
                                                                                                       omega⟩
                obtain ⟨n, hn⟩ := hd
                simp only [execOp, ho, resolve, hx, Sem.run_bind, hX]
                have e0 : (#[Value.iface t V] ++ Array.map a.eval c.args)[0]? = some (.iface t V) := by rw [Array.getElem?_append_left (by simp)]; rfl
                have e1 : (#[Value.iface t V] ++ Array.map a.eval c.args).extract 1 (#[Value.iface t V] ++ Array.map a.eval c.args).size = Array.map a.eval c.args := by
                  apply Array.ext'
                  simp
                  exact List.take_of_length_le (by simp)
                simp only [Sem.run_pure, Result.andThen, invoke, e0, e1, callMethod, Sem.run_bind, run_program, hn, hmeth, run_callFunc hf]
              · simp only [Array.toList_append]
                exact .cons hv hargs
            · simp at h
          · simp at h
      · simp at h
  | _ => 
    rw [ho] at h
    exfalso
    unfold stepOp at h
    try unfold assignV at h
    try dsimp only at h
    repeat' split at h
    all_goals first | exact hof h | exact hoo h | (simp at h; done) | contradiction | simp_all
end
end Go.Vm
