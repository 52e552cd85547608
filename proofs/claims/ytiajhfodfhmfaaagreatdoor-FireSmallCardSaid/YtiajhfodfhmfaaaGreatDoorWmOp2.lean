/- Operations: sums, comparisons, conversions, indices, parts. -/
import Derived.Test.YtiajhfodfhmfaaaGreatDoorWmOp1
import Derived.Laws.StructEq
import Derived.WideLaws
import Derived.Laws.BytesArg
set_option linter.unusedVariables false
set_option linter.unusedSimpArgs false
set_option linter.unusedSectionVars false
namespace Go.Vm
variable [SymB] [SymV]

theorem strLess_eq : ∀ a b : List UInt8, Op.bytesLess a b = strLess a b
  | a, [] => by cases a <;> rfl
  | [], _ :: _ => rfl
  | a :: x, b :: y => by simp [Op.bytesLess, strLess, strLess_eq x y]

theorem run_intBin {P : Program} {op : BinOp} {k : IntKind} {x y : Int} {p : PV} (h : intBin op k x y = some p) (t : TypeId) (w : World) : ∃ v, (binOp op t (.int k x) (.int k y)).run P w = .ok v w ∧ ∀ F, RP F p v := by
  cases op <;> simp only [intBin, Option.some.injEq] at h
  case add => subst h; exact ⟨_, by simp [binOp, Op.intArith], fun F => .int ..⟩
  case sub => subst h; exact ⟨_, by simp [binOp, Op.intArith], fun F => .int ..⟩
  case mul => subst h; exact ⟨_, by simp [binOp, Op.intArith], fun F => .int ..⟩
  case quo =>
    split at h
    · simp at h
    · rename_i hy; simp only [Option.some.injEq] at h; subst h
      exact ⟨_, by simp [binOp, Op.intDiv, hy], fun F => .int ..⟩
  case rem =>
    split at h
    · simp at h
    · rename_i hy; simp only [Option.some.injEq] at h; subst h
      exact ⟨_, by simp [binOp, Op.intDiv, hy], fun F => .int ..⟩
  case eql => subst h; exact ⟨_, by simp [binOp, Op.intCmp], fun F => .bool _⟩
  case neq => subst h; exact ⟨_, by simp [binOp, Op.intCmp], fun F => .bool _⟩
  case lss => subst h; exact ⟨_, by simp [binOp, Op.intCmp], fun F => .bool _⟩
  case leq => subst h; exact ⟨_, by simp [binOp, Op.intCmp], fun F => .bool _⟩
  case gtr => subst h; exact ⟨_, by simp [binOp, Op.intCmp], fun F => .bool _⟩
  case geq => subst h; exact ⟨_, by simp [binOp, Op.intCmp], fun F => .bool _⟩
  all_goals simp at h

theorem run_strBin {P : Program} {op : BinOp} {s u : ByteArray} {p : PV} (h : strBin op s.data.toList u.data.toList = some p) (t : TypeId) (w : World) : ∃ v, (binOp op t (.string s) (.string u)).run P w = .ok v w ∧ ∀ F, RP F p v := by
  have h1 := ByteArray.toList_eq s
  have h2 := ByteArray.toList_eq u
  cases op <;> simp only [strBin, Option.some.injEq] at h
  case add =>
    split at h
    · rename_i hl
      simp only [Option.some.injEq] at h; subst h
      refine ⟨.string (s ++ u), ?_, fun F => ?_⟩
      · have hz : s.size + u.size ≤ 9223372036854775807 := by
          have e1 : s.size = s.data.toList.length := by rw [Array.length_toList]; rfl
          have e2 : u.size = u.data.toList.length := by rw [Array.length_toList]; rfl
          omega
        simp [binOp, run_string_add_sum _ _ _ hz]
      · have : (s ++ u).data.toList = s.data.toList ++ u.data.toList := by rw [ByteArray.data_append]; simp
        rw [← this]; exact .str _
    · simp at h
  case eql => subst h; exact ⟨_, by simp [binOp, Op.stringOp, h1, h2], fun F => .bool _⟩
  case neq => subst h; exact ⟨_, by simp [binOp, Op.stringOp, h1, h2], fun F => .bool _⟩
  case lss => subst h; exact ⟨_, by simp [binOp, Op.stringOp, h1, h2, strLess_eq], fun F => .bool _⟩
  case leq => subst h; exact ⟨_, by simp [binOp, Op.stringOp, h1, h2, strLess_eq], fun F => .bool _⟩
  case gtr => subst h; exact ⟨_, by simp [binOp, Op.stringOp, h1, h2, strLess_eq], fun F => .bool _⟩
  case geq => subst h; exact ⟨_, by simp [binOp, Op.stringOp, h1, h2, strLess_eq], fun F => .bool _⟩
  all_goals simp at h

/-! ### The unknown number -/
theorem RP.bool_eq {F : Fr} {a b : Bool} (h : a = b) : RP F (.bool a) (.bool b) := by subst h; exact .bool _
theorem wrap_id {x : Int} (h1 : -9223372036854775808 ≤ x) (h2 : x ≤ 9223372036854775807) : IntKind.i64.wrap x = x := by
  have e : IntKind.i64.wrap x = (if x % 18446744073709551616 ≥ 9223372036854775808 then x % 18446744073709551616 - 18446744073709551616 else x % 18446744073709551616) := by
    simp [IntKind.wrap, IntKind.signed, IntKind.bits]
  rw [e]
  split <;> omega
theorem symIn_some {c : Int} {p : PV} (h : symIn c = some p) : p = .sym c ∧ IntKind.i64.wrap (SymV.ν + c) = SymV.ν + c := by
  unfold symIn at h
  split at h
  · rename_i hb
    simp only [Option.some.injEq] at h
    have := SymV.le
    exact ⟨h.symm, wrap_id (by omega) (by omega)⟩
  · cases h
theorem sym_of_wrap {c x : Int} {p : PV} (h : symIn c = some p) (e : x = SymV.ν + c) : ∀ (F : Fr) (v : Value), RP F (.int .i64 (IntKind.i64.wrap x)) v → RP F p v := by
  obtain ⟨rfl, hw⟩ := symIn_some h
  intro F v hv
  cases hv
  rw [e, hw]
  exact .sym c
theorem symSS_int {op : BinOp} {a b : Int} {p : PV} (h : symSS op a b = some p) : ∃ q, intBin op .i64 (SymV.ν + a) (SymV.ν + b) = some q ∧ ∀ (F : Fr) (v : Value), RP F q v → RP F p v := by
  cases op <;> simp only [symSS, Option.some.injEq] at h <;> try (cases h; done)
  all_goals
    subst h
    refine ⟨_, rfl, fun F v hv => ?_⟩
    cases hv
    refine RP.bool_eq ?_
  · by_cases e : a = b
    · subst e; simp
    · have e2 : ¬ SymV.ν + a = SymV.ν + b := by omega
      rw [beq_eq_false_iff_ne.2 e, beq_eq_false_iff_ne.2 e2]
  · by_cases e : a = b
    · subst e; simp
    · have e2 : ¬ SymV.ν + a = SymV.ν + b := by omega
      rw [bne_iff_ne.2 e, bne_iff_ne.2 e2]
  all_goals
    simp only [decide_eq_decide]
    omega
theorem symSI_int {op : BinOp} {a b : Int} {p : PV} (h : symSI op a b = some p) : ∃ q, intBin op .i64 (SymV.ν + a) b = some q ∧ ∀ (F : Fr) (v : Value), RP F q v → RP F p v := by
  have hb := SymV.le
  cases op <;> simp only [symSI] at h <;> try (cases h; done)
  case add => exact ⟨_, rfl, sym_of_wrap h (by omega)⟩
  case sub => exact ⟨_, rfl, sym_of_wrap h (by omega)⟩
  all_goals
    (repeat' split at h) <;> (first | (cases h; done) | skip)
    all_goals
      simp only [Option.some.injEq] at h
      subst h
      refine ⟨_, rfl, fun F v hv => ?_⟩
      cases hv
      refine RP.bool_eq ?_
      first
        | (simp only [bne_iff_ne, ne_eq, beq_eq_false_iff_ne, eq_iff_iff, Bool.false_eq, Bool.true_eq, decide_eq_false_iff_not, decide_eq_true_eq]; omega)
        | (simp; omega)
theorem symIS_int {op : BinOp} {a b : Int} {p : PV} (h : symIS op b a = some p) : ∃ q, intBin op .i64 b (SymV.ν + a) = some q ∧ ∀ (F : Fr) (v : Value), RP F q v → RP F p v := by
  have hb := SymV.le
  cases op <;> simp only [symIS] at h <;> try (cases h; done)
  case add => exact ⟨_, rfl, sym_of_wrap h (by omega)⟩
  all_goals
    (repeat' split at h) <;> (first | (cases h; done) | skip)
    all_goals
      simp only [Option.some.injEq] at h
      subst h
      refine ⟨_, rfl, fun F v hv => ?_⟩
      cases hv
      refine RP.bool_eq ?_
      first
        | (simp only [bne_iff_ne, ne_eq, beq_eq_false_iff_ne, eq_iff_iff, Bool.false_eq, Bool.true_eq, decide_eq_false_iff_not, decide_eq_true_eq]; omega)
        | (simp; omega)

theorem und_of {P : Program} {tb : Tabs} (H : TabsTy P tb) {t : TypeId} {ti : TI} (h : tb.ty t = some ti) : ∃ d, P.underlying t = some d ∧ KindOk P ti.k d := (H.ty _ _ h).und

/-- What the model's '==' and its guard give. -/
structure EqRun (P : Program) (w : World) (t : TypeId) (X Y : Operand) (u v : Value) (b : Bool) : Prop where
  g1 : (eqGuard .eql t X Y u v).run P w = .ok () w
  g2 : (eqGuard .neq t X Y u v).run P w = .ok () w
  e1 : (binOp .eql t u v).run P w = .ok (.bool b) w
  e2 : (binOp .neq t u v).run P w = .ok (.bool !b) w

theorem eqRun_of {P : Program} {w : World} {t : TypeId} {X Y : Operand} {u v : Value} {b : Bool} (he : (Op.equalIn (9999 + 1) t u v).run P w = .ok b w)
    (e1 : binOp .eql t u v = (do let r ← Op.equal t u v; pure (.bool r))) (e2 : binOp .neq t u v = (do let r ← Op.equal t u v; pure (.bool (!r))))
    (g1 : (eqGuard .eql t X Y u v).run P w = .ok () w) (g2 : (eqGuard .neq t X Y u v).run P w = .ok () w) : EqRun P w t X Y u v b := by
  have he' : (Op.equal t u v).run P w = .ok b w := he
  exact ⟨g1, g2, by rw [e1]; simp only [Sem.run_bind, he', Result.andThen_ok, Sem.run_pure], by rw [e2]; simp only [Sem.run_bind, he', Result.andThen_ok, Sem.run_pure]⟩
theorem eq_pn {P : Program} {w : World} {t e : TypeId} (hd : P.underlying t = some (.pointer e)) (d : Nat) (z : Addr) : (Op.equalIn (d + 1) t (.pointer (some z)) (.pointer none)).run P w = .ok false w := by simp [Op.equalIn, run_underlying hd]
theorem eq_np {P : Program} {w : World} {t e : TypeId} (hd : P.underlying t = some (.pointer e)) (d : Nat) (z : Option Addr) : (Op.equalIn (d + 1) t (.pointer none) (.pointer z)).run P w = .ok z.isNone w := by simp [Op.equalIn, run_underlying hd]
theorem eq_in {P : Program} {w : World} {t : TypeId} {ms : Array (String × TypeId)} (hd : P.underlying t = some (.interface ms)) (d : Nat) (q : TypeId) (z : Value) : (Op.equalIn (d + 1) t (.iface q z) .nilIface).run P w = .ok false w := by simp [Op.equalIn, run_underlying hd]
theorem eq_ni {P : Program} {w : World} {t : TypeId} {ms : Array (String × TypeId)} (hd : P.underlying t = some (.interface ms)) (d : Nat) (q : TypeId) (z : Value) : (Op.equalIn (d + 1) t .nilIface (.iface q z)).run P w = .ok false w := by simp [Op.equalIn, run_underlying hd]
theorem eq_nn {P : Program} {w : World} {t : TypeId} {ms : Array (String × TypeId)} (hd : P.underlying t = some (.interface ms)) (d : Nat) : (Op.equalIn (d + 1) t .nilIface .nilIface).run P w = .ok true w := by simp [Op.equalIn, run_underlying hd]

theorem run_eqV {P : Program} {t : TypeId} {ti : TI} (O : TyOk P t ti) {x y : AV} {b : Bool} {β : Bnd} {F : Fr} {u v : Value} (w : World) {X Y : Operand} (h : eqV (isConst X || isConst Y) ti x y = some b) (hx : R β F x u) (hy : R β F y v) : EqRun P w t X Y u v b := by
  obtain ⟨d, hd, hk⟩ := O.und
  unfold eqV at h
  split at h
  · -- bool
    rename_i hti
    rw [hti] at hk
    cases hk
    split at h
    · simp only [Option.some.injEq] at h
      subst h
      cases hx with | pv hx => cases hx; cases hy with | pv hy => cases hy; exact eqRun_of (run_equalIn_bool' w 9999 t _ _ hd) rfl rfl (by simp [eqGuard]) (by simp [eqGuard])
    · simp at h
  · split at h
    · split at h
      · rename_i hc
        obtain ⟨he, hl1, hl2⟩ := hc
        cases hx with
        | pv hx =>
          cases hx with
          | agg hla hoa ha =>
            cases hy with
            | pv hy =>
              cases hy with
              | agg hlb hob hb =>
                rename_i vs us
                have E := O.eq he F _ _ vs us b w hl1 hl2 h (F2.of_arr hla ha) (F2.of_arr hlb hb)
                exact eqRun_of E.1 rfl rfl (E.2 X Y).1 (E.2 X Y).2
      · simp at h
    · simp at h
  · -- ptr
    rename_i hti
    rw [hti] at hk
    obtain ⟨e, rfl⟩ := hk
    have isP : ∀ {x : AV} {u : Value}, R β F x u → isPtr x = true → ∃ z, u = .pointer (some z) := by
      intro x u hx hp
      cases hx with
      | p => exact ⟨_, rfl⟩
      | ep => exact ⟨_, rfl⟩
      | _ => simp [isPtr] at hp
    split at h
    · cases hy with
      | pv hy =>
        cases hy
        split at h
        · rename_i hp
          obtain ⟨z, rfl⟩ := isP hx hp
          simp only [Option.some.injEq] at h; subst h
          exact eqRun_of (eq_pn hd 9999 _) rfl rfl (by simp [eqGuard]) (by simp [eqGuard])
        · split at h
          · simp only [Option.some.injEq] at h; subst h
            cases hx with | pv hx => cases hx; exact eqRun_of (eq_np hd 9999 _) rfl rfl (by simp [eqGuard]) (by simp [eqGuard])
          · simp at h
    · split at h
      · rename_i hp
        obtain ⟨z, rfl⟩ := isP hy hp
        simp only [Option.some.injEq] at h; subst h
        cases hx with | pv hx => cases hx; exact eqRun_of (eq_np hd 9999 _) rfl rfl (by simp [eqGuard]) (by simp [eqGuard])
      · simp at h
    · simp at h
  · -- iface
    rename_i hti
    rw [hti] at hk
    obtain ⟨e, rfl⟩ := hk
    have isI : ∀ {x : AV} {u : Value}, R β F x u → isIfc x = true → ∃ q z, u = .iface q z := by
      intro x u hx hp
      cases hx with
      | ifc => exact ⟨_, _, rfl⟩
      | pv hx => cases hx <;> simp [isIfc] at hp; exact ⟨_, _, rfl⟩
      | _ => simp [isIfc] at hp
    split at h
    · cases hy with
      | pv hy =>
        cases hy
        split at h
        · rename_i hp
          obtain ⟨q, z, rfl⟩ := isI hx hp
          simp only [Option.some.injEq] at h; subst h
          exact eqRun_of (eq_in hd 9999 _ _) rfl rfl (by simp [eqGuard]) (by simp [eqGuard])
        · split at h
          · split at h
            · rename_i hc
              simp only [Option.some.injEq] at h; subst h
              cases hx with
              | pv hx =>
                cases hx
                have hg : ∀ op, (eqGuard op t X Y .nilIface .nilIface).run P w = .ok () w := by
                  intro op
                  simp only [Bool.or_eq_true] at hc
                  cases X <;> cases Y <;> simp [isConst] at hc <;> cases op <;> simp [eqGuard]
                exact eqRun_of (eq_nn hd 9999) rfl rfl (hg _) (hg _)
            · simp at h
          · simp at h
    · split at h
      · rename_i hp
        obtain ⟨q, z, rfl⟩ := isI hy hp
        simp only [Option.some.injEq] at h; subst h
        cases hx with | pv hx => cases hx; exact eqRun_of (eq_ni hd 9999 _ _) rfl rfl (by simp [eqGuard]) (by simp [eqGuard])
      · simp at h
    · simp at h
  · simp at h

theorem eqGuard_str {op : BinOp} {t : TypeId} {x y : Operand} (s : ByteArray) (v : Value) : eqGuard op t x y (.string s) v = pure () := by cases op <;> rfl
theorem ofVal_val {M M' : Mem} {v : AV} {r : Option AV} (h : ofVal M r = .val v M') : r = some v ∧ M' = M := by
  cases r with
  | none => simp [ofVal] at h
  | some v' => simp [ofVal] at h; exact ⟨by rw [h.1], h.2.symm⟩

section
variable {P : Program} {tb : Tabs} (H : TabsTy P tb) {o : Oper} {β : Bnd} {F : Fr} {M : Mem} {w : World} {T : List AV} {a : Act} (hT : RL β F T a.tmps.toList) (S : Sim β F M w) {v : AV} {M' : Mem} {fi : FnI}
include H hT S
set_option linter.unusedSectionVars false
theorem out_binOp {op : BinOp} {t t' : TypeId} {x y : Operand} (ho : o.op = .binOp op t x y t') (h : stepOp tb fi T M o.dst o.op = .val v M') : Out P o a.eval β F M w v M' := by
  rw [ho] at h
  simp only [stepOp] at h
  have hh := ofVal_val h
  clear h
  obtain ⟨h, e'⟩ := hh
  subst e'
  have hx := evalO_R hT x
  have hy := evalO_R hT y
  unfold binV at h
  split at h
  · rename_i k m k' n e1 e2
    rw [e1] at hx; rw [e2] at hy
    generalize hu : a.eval x = u at hx
    generalize hv : a.eval y = u' at hy
    cases hx with
    | pv hx =>
      cases hx
      cases hy with
      | pv hy =>
        cases hy
        split at h
        · rename_i e; subst e
          obtain ⟨p, hp, rfl⟩ := Option.map_eq_some_iff.1 h
          obtain ⟨r, hr, hR⟩ := run_intBin (P := P) hp t w
          exact .same (x := r) S (by simp [execOp, ho, hu, hv, eqGuard_at_int, hr]) (.pv (hR F))
        · simp at h
  · rename_i s s' e1 e2
    rw [e1] at hx; rw [e2] at hy
    generalize hu : a.eval x = u at hx
    generalize hv : a.eval y = u' at hy
    cases hx with
    | pv hx =>
      cases hx
      cases hy with
      | pv hy =>
        cases hy
        obtain ⟨p, hp, rfl⟩ := Option.map_eq_some_iff.1 h
        obtain ⟨r, hr, hR⟩ := run_strBin (P := P) hp t w
        exact .same (x := r) S (by simp [execOp, ho, hu, hv, eqGuard_str, hr]) (.pv (hR F))
  · rename_i m n e1 e2
    rw [e1] at hx; rw [e2] at hy
    generalize hu : a.eval x = u at hx
    generalize hv : a.eval y = u' at hy
    cases hx with
    | pv hx =>
      cases hx
      cases hy with
      | pv hy =>
        cases hy
        obtain ⟨p, hp, rfl⟩ := Option.map_eq_some_iff.1 h
        obtain ⟨q, hq, hqp⟩ := symSS_int hp
        obtain ⟨r, hr, hR⟩ := run_intBin (P := P) hq t w
        exact .same (x := r) S (by simp [execOp, ho, hu, hv, eqGuard_at_int, hr]) (.pv (hqp F r (hR F)))
  · rename_i m n e1 e2
    rw [e1] at hx; rw [e2] at hy
    generalize hu : a.eval x = u at hx
    generalize hv : a.eval y = u' at hy
    cases hx with
    | pv hx =>
      cases hx
      cases hy with
      | pv hy =>
        cases hy
        obtain ⟨p, hp, rfl⟩ := Option.map_eq_some_iff.1 h
        obtain ⟨q, hq, hqp⟩ := symSI_int hp
        obtain ⟨r, hr, hR⟩ := run_intBin (P := P) hq t w
        exact .same (x := r) S (by simp [execOp, ho, hu, hv, eqGuard_at_int, hr]) (.pv (hqp F r (hR F)))
  · rename_i m n e1 e2
    rw [e1] at hx; rw [e2] at hy
    generalize hu : a.eval x = u at hx
    generalize hv : a.eval y = u' at hy
    cases hx with
    | pv hx =>
      cases hx
      cases hy with
      | pv hy =>
        cases hy
        obtain ⟨p, hp, rfl⟩ := Option.map_eq_some_iff.1 h
        obtain ⟨q, hq, hqp⟩ := symIS_int hp
        obtain ⟨r, hr, hR⟩ := run_intBin (P := P) hq t w
        exact .same (x := r) S (by simp [execOp, ho, hu, hv, eqGuard_at_int, hr]) (.pv (hqp F r (hR F)))
  · split at h
    · rename_i ti hty
      cases hp : eqV (isConst x || isConst y) ti (evalO T x) (evalO T y) with
      | none => simp [hp] at h
      | some b =>
        simp only [hp, Option.map_some, Option.some.injEq] at h
        subst h
        have E := run_eqV (H.ty _ _ hty) w hp hx hy
        exact .same (x := .bool b) S (by simp [execOp, ho, E.g1, E.e1]) (.pv (.bool b))
    · rename_i ti hty
      cases hp : eqV (isConst x || isConst y) ti (evalO T x) (evalO T y) with
      | none => simp [hp] at h
      | some b =>
        simp only [hp, Option.map_some, Option.some.injEq] at h
        subst h
        have E := run_eqV (H.ty _ _ hty) w hp hx hy
        exact .same (x := .bool !b) S (by simp [execOp, ho, E.g2, E.e2]) (.pv (.bool _))
    · simp at h
end
end Go.Vm
