/- Operations whose result hangs on their operands alone; congruence. -/
import Derived.Test.YtiajhfodfhmfaaaGreatDoorWmReg1
set_option linter.unusedVariables false
set_option linter.unusedSimpArgs false
set_option linter.unusedSectionVars false
namespace Go.Vm
variable [SymB] [SymV]

theorem evalO_tmp {T T' : List AV} {x : Operand} (h : ∀ t, x = .tmp t → T.getD t (.pv .top) = T'.getD t (.pv .top)) : evalO T x = evalO T' x := by
  cases x with
  | tmp t => exact h t rfl
  | _ => rfl

theorem map_evalO {T T' : List AV} {l : List Operand} (h : ∀ x ∈ l, evalO T x = evalO T' x) : l.map (evalO T) = l.map (evalO T') := List.map_congr_left h

/-- What an operation gives hangs on its operands and the memory. -/
theorem stepOp_congr {tb : Tabs} {fi : FnI} {T T' : List AV} {M : Mem} {dst : Option Tmp} {op : Op} (h : ∀ x ∈ op.operands, evalO T x = evalO T' x) : stepOp tb fi T M dst op = stepOp tb fi T' M dst op := by
  cases op with
  | build t ps =>
    have : (ps.toList.map fun (i, x) => (i, evalO T x)) = ps.toList.map fun (i, x) => (i, evalO T' x) := List.map_congr_left fun p hp => by
      obtain ⟨i, x⟩ := p
      simp only [h x (by simp [Op.operands]; exact ⟨i, by simpa using hp⟩)]
    simp only [stepOp, this]
  | buildSlice t n ps =>
    have : (ps.toList.map fun (_, x) => evalO T x) = ps.toList.map fun (_, x) => evalO T' x := List.map_congr_left fun p hp => by
      obtain ⟨i, x⟩ := p
      simp only [h x (by simp [Op.operands]; exact ⟨i, by simpa using hp⟩)]
    simp only [stepOp, this]
  | makeFunc fn first cap =>
    cases fn with
    | func f =>
      have : (cap.toList.map fun x => nrm (evalO T x)) = cap.toList.map fun x => nrm (evalO T' x) := List.map_congr_left fun p hp => by
        rw [h p (by simp [Op.operands]; exact .inr (by simpa using hp))]
      simp only [stepOp, this]
    | _ => rfl
  | call c =>
    have h1 : c.args.toList.map (evalO T) = c.args.toList.map (evalO T') := map_evalO fun x hx => h x (by simp [Op.operands, Call.operands]; exact .inr (by simpa using hx))
    cases hc : c.callee with
    | builtin b => simp only [stepOp, hc, h1]
    | value x =>
      have h2 : evalO T x = evalO T' x := h x (by simp [Op.operands, Call.operands, hc])
      simp only [stepOp, hc, h1, h2]
    | invoke x name =>
      have h2 : evalO T x = evalO T' x := h x (by simp [Op.operands, Call.operands, hc])
      simp only [stepOp, hc, h1, h2]
  | slice t x lo hi mx =>
    have h1 : lo.map (evalO T) = lo.map (evalO T') := by cases lo <;> simp_all [Op.operands]
    have h2 : hi.map (evalO T) = hi.map (evalO T') := by cases hi <;> simp_all [Op.operands]
    have h3 : mx.map (evalO T) = mx.map (evalO T') := by cases mx <;> simp_all [Op.operands]
    have h4 : evalO T x = evalO T' x := h x (by simp [Op.operands])
    simp only [stepOp, h1, h2, h3, h4]
  | makeMap t r => cases r <;> simp only [stepOp]
  | _ => simp only [Op.operands] at h; simp_all [stepOp]

theorem freezeL_all {d : Nat} {M : Mem} {l : List AV} (h : allPv l = true) : ∃ ps, ∀ N : Mem, freezeL (freeze d) N l = some (ps, N) := by
  induction l with
  | nil => exact ⟨[], fun _ => rfl⟩
  | cons a l ih =>
    simp only [allPv, List.all_cons, Bool.and_eq_true] at h
    obtain ⟨ps, hps⟩ := ih (by simpa [allPv] using h.2)
    cases a with
    | pv p => exact ⟨nrmP p :: ps, fun N => by
        have : freeze d N (.pv p) = some (nrmP p, N) := by cases d <;> rfl
        simp only [freezeL, this, hps]⟩
    | _ => simp at h

theorem elems_pv {p : PV} : ∀ M N : Mem, elems M (.pv p) = elems N (.pv p) := fun M N => by cases p <;> rfl
theorem lenV_pv {p : PV} : ∀ M N : Mem, lenV M (.pv p) = lenV N (.pv p) := fun M N => by cases p <;> rfl

theorem allPv_map {T : List AV} {l : List Operand} (h : allPv (l.map (evalO T)) = true) {x : Operand} (hx : x ∈ l) : ∃ p, evalO T x = .pv p := by
  simp only [allPv, List.all_map, List.all_eq_true] at h
  have := h x hx
  simp only [Function.comp] at this
  split at this
  · rename_i p e; exact ⟨p, e⟩
  · simp at this

theorem doCall_calm {tb : Tabs} {fi : FnI} {run : CallF} {f : FuncId} {args : List AV} {M M' : Mem} {v : AV} (hp : allPv args = true)
    (hf : (tb.prim f).isSome = true ∨ ∃ fn, tb.fn f = some fn ∧ fn.clone = false ∧ fn.pure = true ∧ fi.imp.contains f = false) (h : doCall tb fi run f args M = some (v, M')) : M' = M ∧ ∀ N, doCall tb fi run f args N = some (v, N) := by
  obtain ⟨ps, hps⟩ := freezeL_all (d := 5) (M := M) hp
  have hfr : ∀ N, freezes N args = some (ps, N) := hps
  unfold doCall at h ⊢
  cases hpr : tb.prim f with
  | some g =>
    simp only [hpr, hfr] at h ⊢
    cases hg : g ps with
    | none => simp [hg] at h
    | some r =>
      simp only [hg, Option.some.injEq, Prod.mk.injEq] at h
      obtain ⟨rfl, rfl⟩ := h
      exact ⟨rfl, fun N => by simp only [hg]⟩
  | none =>
    rcases hf with hf | ⟨fn, h1, h2, h3, h4⟩
    · rw [hpr] at hf; simp at hf
    · simp only [hpr, h1, h2, h3, h4, hfr, Bool.false_eq_true, if_false, Bool.not_false, Bool.and_self, if_true] at h ⊢
      cases hr : run f (ps.map .pv) [] with
      | none => simp [hr] at h
      | some rn =>
        obtain ⟨r, N1⟩ := rn
        simp only [hr] at h ⊢
        cases hq : freeze 5 N1 r with
        | none => simp [hq] at h
        | some qn =>
          obtain ⟨q, N2⟩ := qn
          simp only [hq, Option.some.injEq, Prod.mk.injEq] at h
          obtain ⟨rfl, rfl⟩ := h
          exact ⟨rfl, fun N => by simp only [hq]⟩

theorem execV_of_step {tb : Tabs} {fi : FnI} {run : CallF} {T : List AV} {M M' : Mem} {o : Oper} {v : AV} (hn : ∀ f args, stepOp tb fi T M o.dst o.op ≠ .call f args) (h : execV tb fi run T M o = some (v, M')) : stepOp tb fi T M o.dst o.op = .val v M' := by
  unfold execV at h
  split at h
  · rename_i e; simp only [Option.some.injEq, Prod.mk.injEq] at h; rw [e, h.1, h.2]
  · rename_i f args e; exact absurd e (hn f args)
  · simp at h
theorem execV_val {tb : Tabs} {fi : FnI} {run : CallF} {T : List AV} {M M' : Mem} {o : Oper} {v : AV} (h : stepOp tb fi T M o.dst o.op = .val v M') : execV tb fi run T M o = some (v, M') := by
  unfold execV; rw [h]

/-- Steps that give what they give in each memory. -/
def Free (r : Mem → Res) : Prop := (∀ M v M', r M = .val v M' → M' = M ∧ ∀ N, r N = .val v N) ∧ ∀ M f args, r M ≠ .call f args
theorem Free.fail : Free fun _ => .fail := ⟨fun M v M' h => by simp at h, fun M f args h => by simp at h⟩
theorem Free.val (v : AV) : Free fun M => .val v M := ⟨fun M v' M' h => by simp only [Res.val.injEq] at h; exact ⟨h.2.symm, fun N => by rw [h.1]⟩, fun M f args h => by simp at h⟩
theorem Free.ofV (r : Option AV) : Free fun M => Vm.ofVal M r := by cases r with
  | none => exact .fail
  | some v => exact .val v
theorem Free.exec {tb : Tabs} {fi : FnI} {run : CallF} {T : List AV} {M M' : Mem} {o : Oper} {v : AV} (F : Free fun M => stepOp tb fi T M o.dst o.op) (h : execV tb fi run T M o = some (v, M')) : M' = M ∧ ∀ N, execV tb fi run T N o = some (v, N) := by
  have h1 := execV_of_step (F.2 M) h
  obtain ⟨h2, h3⟩ := F.1 M v M' h1
  exact ⟨h2, fun N => execV_val (h3 N)⟩

/-- The value of a step that hangs on no memory. -/
def valOf : Res → Option AV
  | .val v _ => some v
  | _ => none
theorem Free.of {r : Mem → Res} (h : ∀ M, r M = Vm.ofVal M (valOf (r []))) : Free r := by
  have : r = fun M => ofVal M (valOf (r [])) := funext h
  rw [this]
  exact Free.ofV _

theorem calm_free {tb : Tabs} {fi : FnI} {T : List AV} {o : Oper} (hc : calm fi o = true) : Free fun M => stepOp tb fi T M o.dst o.op := by
  refine Free.of fun M => ?_
  unfold calm at hc
  cases ho : o.op with
  | move x =>
    rw [ho] at hc
    simp only [stepOp, assignV]
    cases hd : o.dst with
    | none => split <;> simp_all [ofVal, valOf]
    | some d => rw [hd] at hc; simp only [Bool.not_eq_true'] at hc; split <;> simp_all [ofVal, valOf]
  | assign x =>
    rw [ho] at hc
    simp only [stepOp, assignV]
    cases hd : o.dst with
    | none => split <;> simp_all [ofVal, valOf]
    | some d => rw [hd] at hc; simp only [Bool.not_eq_true'] at hc; split <;> simp_all [ofVal, valOf]
  | pick c a b => simp only [stepOp]; split <;> simp_all [ofVal, valOf]
  | binOp op t x y t' =>
    simp only [stepOp]
    cases binV tb.ty (isConst x || isConst y) op t (evalO T x) (evalO T y) <;> rfl
  | unOp op t x => simp only [stepOp]; cases unV op (evalO T x) <;> rfl
  | field t x f =>
    simp only [stepOp]
    split
    · split
      · rename_i off size agg _ _
        cases partAt agg size (cells (evalO T x)) off <;> rfl
      · rfl
    · rfl
  | extract x i => simp only [stepOp]; split <;> (try split) <;> simp_all [ofVal, valOf]
  | index t x i => simp only [stepOp]; split <;> (try split) <;> simp_all [ofVal, valOf]
  | fieldAddr t x f => simp only [stepOp]; split <;> (try split) <;> simp_all [ofVal, valOf]
  | nilCheck x => simp only [stepOp]; split <;> simp_all [ofVal, valOf]
  | makeInterface t x => simp only [stepOp]; split <;> simp_all [ofVal, valOf]
  | makeFunc fn first cap =>
    cases fn with
    | func f => simp only [stepOp]; split <;> simp_all [ofVal, valOf]
    | _ => simp only [stepOp]; rfl
  | build t ps =>
    rw [ho] at hc
    have h0 : ownOf fi o.dst = [] := by simpa using hc
    simp only [stepOp, h0, ownFields]
    split
    · split <;> simp_all [ofVal, valOf]
    · rfl
  | _ => rw [ho] at hc; simp at hc

/-- A calm operation leaves the memory, and does in each the same. -/
theorem calm_exec {tb : Tabs} {fi : FnI} {run : CallF} {T : List AV} {M M' : Mem} {o : Oper} {v : AV} (hc : calmAt tb fi T o = true) (h : execV tb fi run T M o = some (v, M')) : M' = M ∧ ∀ N, execV tb fi run T N o = some (v, N) := by
  unfold calmAt at hc
  rw [Bool.or_eq_true] at hc
  rcases hc with hc | hc
  · exact (calm_free hc).exec h
  · split at hc
    · rename_i t x ho
      refine Free.exec (Free.of fun M => ?_) h
      rw [ho]
      simp only [stepOp]
      split at hc
      · rename_i e off he
        simp only [he]
        split
        · rename_i ti _
          simp only [loadAt]
          cases partAtP ti.k.agg ti.size (pcells e) off <;> rfl
        · rfl
      · simp at hc
    · rename_i t x i ho
      refine Free.exec (Free.of fun M => ?_) h
      rw [ho]
      simp only [stepOp]
      split at hc
      · rename_i p he
        simp only [he]
        split
        · split
          · rename_i ti _
            have : ∀ M N k, indexAt M ti.size (.pv p) k = indexAt N ti.size (.pv p) k := fun M N k => by cases p <;> rfl
            rw [this M []]
            rename_i k _ _ _ _
            cases indexAt [] ti.size (.pv p) _ <;> rfl
          · rfl
        · rfl
      · simp at hc
    · rename_i t x lo hi mx ho
      refine Free.exec (Free.of fun M => ?_) h
      rw [ho]
      simp only [stepOp]
      split at hc
      · rename_i p he
        have key : ∀ size, ofOpt (sliceV M size (.pv p) (lo.map (evalO T)) (hi.map (evalO T)) (mx.map (evalO T))) = ofVal M (valOf (ofOpt (sliceV [] size (.pv p) (lo.map (evalO T)) (hi.map (evalO T)) (mx.map (evalO T))))) := fun size => by
          unfold sliceV
          rw [lenV_pv M []]
          cases lenV [] (.pv p) with
          | none => rfl
          | some n =>
            dsimp only
            cases boundOf 0 (lo.map (evalO T)) with
            | none => rfl
            | some l =>
              cases boundOf n (hi.map (evalO T)) with
              | none => rfl
              | some h =>
                dsimp only
                split
                · cases mx with
                  | none => cases p with
                    | sl es => cases hb : headOkP size es <;> simp [ofOpt, ofVal, valOf, hb]
                    | cl es => cases hb : headOkP size es <;> simp [ofOpt, ofVal, valOf, hb]
                    | _ => simp [ofOpt, ofVal, valOf]
                  | some mo =>
                    dsimp only [Option.map_some]
                    split
                    · cases p with
                      | sl es => cases hb : headOkP size es <;> simp [ofOpt, ofVal, valOf, hb]
                      | cl es => cases hb : headOkP size es <;> simp [ofOpt, ofVal, valOf, hb]
                      | _ => simp [ofOpt, ofVal, valOf]
                    · rfl
                · rfl
        simp only [he]
        split
        · split
          · split
            · exact key _
            · rfl
          · rfl
        · split
          · exact key _
          · rfl
        · rfl
      · simp at hc
    · rename_i s d x ho
      refine Free.exec (Free.of fun M => ?_) h
      rw [ho]
      simp only [stepOp]
      split at hc
      · rename_i p he
        simp only [he, elems_pv M []]
        split
        · split
          · split <;> rfl
          · rfl
        · cases convV tb.ty d (.pv p) <;> rfl
        · cases convV tb.ty d (.pv p) <;> rfl
        · rfl
      · simp at hc
    · rename_i t n ps ho
      refine Free.exec (Free.of fun M => ?_) h
      rw [ho]
      simp only [stepOp]
      obtain ⟨qs, hqs⟩ := freezeL_all (d := 5) (M := M) hc
      have hfr : ∀ N, freezes N (ps.toList.map fun (_, x) => evalO T x) = some (qs, N) := hqs
      simp only [hfr]
      split
      · split
        · split
          · split <;> rfl
          · rfl
        · rfl
      · rfl
    · rename_i c ho
      have hbi : ∀ b, c.callee = .builtin b → (b = .len ∨ b = .cap ∨ b = .min ∨ b = .max) → allPv (c.args.toList.map (evalO T)) = true → Free fun M => stepOp tb fi T M o.dst o.op := fun b hb hbb hall => by
        refine Free.of fun M => ?_
        rw [ho]
        simp only [stepOp, hb]
        generalize c.args.toList.map (evalO T) = l at hall
        rcases hbb with rfl | rfl | rfl | rfl
        · unfold builtinV
          split <;> simp_all only [reduceCtorEq] <;> try rfl
          rename_i t x _ _
          simp only [allPv, List.all_cons, List.all_nil, Bool.and_true] at hall
          split at hall
          · rename_i p
            rw [lenV_pv M []]
            split
            · split <;> rfl
            · rfl
          · simp at hall
        · unfold builtinV
          split <;> simp_all only [reduceCtorEq] <;> try rfl
          split <;> rfl
        · unfold builtinV
          split <;> simp_all only [reduceCtorEq] <;> try rfl
          rename_i x r
          cases minmax true x r <;> rfl
        · unfold builtinV
          split <;> simp_all only [reduceCtorEq] <;> try rfl
          rename_i x r
          cases minmax false x r <;> rfl
      split at hc
      · rename_i hb; exact (hbi _ hb (.inl rfl) hc).exec h
      · rename_i hb; exact (hbi _ hb (.inr (.inl rfl)) hc).exec h
      · rename_i hb; exact (hbi _ hb (.inr (.inr (.inl rfl))) hc).exec h
      · rename_i hb; exact (hbi _ hb (.inr (.inr (.inr rfl))) hc).exec h
      · rename_i x hx
        split at hc
        · rename_i f he
          have hst : ∀ M, stepOp tb fi T M o.dst o.op = .call f (c.args.toList.map (evalO T)) := fun M => by rw [ho]; simp only [stepOp, hx, he, List.append_nil]
          unfold execV at h ⊢
          simp only [hst] at h ⊢
          rw [Bool.or_eq_true] at hc
          rcases hc with hc | hc
          · rw [Bool.and_eq_true] at hc
            exact doCall_calm hc.2 (.inl hc.1) h
          · split at hc
            · rename_i fn hfn
              simp only [Bool.and_eq_true, Bool.not_eq_true'] at hc
              exact doCall_calm hc.2 (.inr ⟨fn, hfn, hc.1.1.1, hc.1.1.2, hc.1.2⟩) h
            · simp at hc
        · simp at hc
      · simp at hc
    · simp at hc

/-- A reading one leaves the memory. -/
theorem reads_exec {tb : Tabs} {fi : FnI} {run : CallF} {T : List AV} {M M' : Mem} {o : Oper} {v : AV} (hc : reads o = true) (h : execV tb fi run T M o = some (v, M')) : stepOp tb fi T M o.dst o.op = .val v M ∧ M' = M := by
  have fin : (∀ f args, stepOp tb fi T M o.dst o.op ≠ .call f args) → (∀ v M', stepOp tb fi T M o.dst o.op = .val v M' → M' = M) → stepOp tb fi T M o.dst o.op = .val v M ∧ M' = M := fun h1 h2 => by
    have h3 := execV_of_step h1 h
    have h4 := h2 v M' h3
    subst h4
    exact ⟨h3, rfl⟩
  have hv : ∀ {r : Option AV} {f args}, ofVal M r ≠ .call f args := fun {r f args} h => by cases r <;> simp [ofVal] at h
  have hv2 : ∀ {r : Option AV} {v M'}, ofVal M r = .val v M' → M' = M := fun {r v M'} h => (ofVal_val h).2
  have ho' : ∀ {r : Option (AV × Mem)} {f args}, ofOpt r ≠ .call f args := fun {r f args} h => by
    cases r with
    | none => simp [ofOpt] at h
    | some p => obtain ⟨p1, p2⟩ := p; simp [ofOpt] at h
  unfold reads at hc
  split at hc
  · rename_i t x ho
    refine fin (fun f args e => ?_) (fun v M' e => ?_) <;> (rw [ho] at e; simp only [stepOp] at e; split at e)
    · exact hv e
    · simp at e
    · exact hv2 e
    · simp at e
  · rename_i t x i ho
    refine fin (fun f args e => ?_) (fun v M' e => ?_) <;> (rw [ho] at e; simp only [stepOp] at e; split at e)
    · split at e
      · exact hv e
      · simp at e
    · simp at e
    · split at e
      · exact hv2 e
      · simp at e
    · simp at e
  · rename_i t x i ok ho
    refine fin (fun f args e => ?_) (fun v M' e => ?_) <;> (rw [ho] at e; simp only [stepOp] at e; repeat' split at e)
    all_goals simp at e
    all_goals exact e.2.symm
  · rename_i s d x ho
    refine fin (fun f args e => ?_) (fun v M' e => ?_) <;> (rw [ho] at e; simp only [stepOp] at e; repeat' split at e)
    all_goals first | exact hv e | exact hv2 e | (simp at e; done) | (simp at e; exact e.2.symm)
  · rename_i t x lo hi mx ho
    have hmx : mx = none := by simpa using hc
    subst hmx
    refine fin (fun f args e => ?_) (fun v M' e => ?_) <;> (rw [ho] at e; simp only [stepOp, Option.map_none] at e)
    · repeat' split at e
      all_goals first | exact ho' e | (simp at e; done)
    · have key : ∀ size x lo hi, ofOpt (sliceV M size x lo hi none) = .val v M' → M' = M := fun size x lo hi h => by
        unfold sliceV at h
        repeat' split at h
        all_goals simp_all [ofOpt]
      repeat' split at e
      all_goals first | exact key _ _ _ _ e | (simp at e; done)
  · rename_i c ho
    have hb : ∀ b, c.callee = .builtin b → (b = .len ∨ b = .cap ∨ b = .min ∨ b = .max) → stepOp tb fi T M o.dst o.op = .val v M ∧ M' = M := fun b hb hbb => by
      refine fin (fun f args e => ?_) (fun v M' e => ?_) <;> (rw [ho] at e; simp only [stepOp, hb] at e)
      all_goals
        rcases hbb with rfl | rfl | rfl | rfl
        all_goals
          unfold builtinV at e
          repeat' split at e
          all_goals first | exact hv e | exact hv2 e | (simp at e; done) | (simp at e; exact e.2.symm) | contradiction
    split at hc
    · rename_i hcb; exact hb _ hcb (.inl rfl)
    · rename_i hcb; exact hb _ hcb (.inr (.inl rfl))
    · rename_i hcb; exact hb _ hcb (.inr (.inr (.inl rfl)))
    · rename_i hcb; exact hb _ hcb (.inr (.inr (.inr rfl)))
    · simp at hc
  · simp at hc
end Go.Vm
