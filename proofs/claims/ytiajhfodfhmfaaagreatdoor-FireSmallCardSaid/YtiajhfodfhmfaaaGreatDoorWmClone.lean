/- slices.Clone: its one body, whatever the elements. -/
import Derived.Test.YtiajhfodfhmfaaaGreatDoorWmFast
set_option linter.unusedVariables false
set_option linter.unusedSimpArgs false
set_option linter.unusedSectionVars false
namespace Go.Vm
variable [SymB] [SymV]

def cloneOp (t : TypeId) (d : Nat) (op : Op) (pos : String) (af : Array Edge) : Oper := { dst := some d, op := op, type := t, pos := pos, after := af, guard := none }
def nilS : Operand := .const (.slice none 0 0)
def cl0 (t : TypeId) : Array Oper := #[cloneOp t 2 (.assign nilS) "slices.go:355" #[]]
def cl1 (t b : TypeId) : Array Oper := #[cloneOp t 3 (.move (.tmp 0)) "slices.go:357" #[], cloneOp b 4 (.binOp .eql t (.tmp 3) nilS t) "slices.go:357" #[{ on := 0, ground := .data }]]
def cl2 (t : TypeId) : Array Oper := #[cloneOp t 2 (.assign nilS) "slices.go:358" #[]]
def cl3 (t : TypeId) : Array Oper := #[cloneOp t 5 (.buildSlice t 0 #[]) "slices.go:362" #[], cloneOp t 6 (.move (.tmp 0)) "slices.go:362" #[],
  cloneOp t 7 (.call { callee := .builtin .append, args := #[.tmp 5, .tmp 6], argTypes := #[t, t] }) "slices.go:362" #[{ on := 0, ground := .data }, { on := 1, ground := .data }],
  cloneOp t 2 (.assign (.tmp 7)) "slices.go:362" #[{ on := 2, ground := .data }, { on := 2, ground := .chain }, { on := 0, ground := .phase }, { on := 1, ground := .phase }, { on := 2, ground := .phase }]]
def cloneBody (t b : TypeId) : Code :=
  .seq (.region 0 (cl0 t) false) (.seq (.seq (.region 1 (cl1 t b) false) (.cond (.tmp 4) (.seq (.region 2 (cl2 t) false) .ret) .skip)) (.seq (.region 3 (cl3 t) false) .ret))

def fiC : FnI := ⟨.skip, 8, [], [], [], false, false, false, false, false, [], [], 0⟩
def noRun : CallF := fun _ _ _ => none
def tbC (tb : Tabs) : Tabs := ⟨tb.ty, fun _ => none, fun _ => none⟩
theorem noRun_ok (P : Program) : RunOk P noRun := fun f args M r N β F w xs h => by cases h
theorem tbC_sound {P : Program} {tb : Tabs} (H : TabsTy P tb) : Sound P (tbC tb) := ⟨⟨fun t ti h => H.ty t ti h⟩, ⟨fun f g h => (by cases h), fun f fn h => (by cases h), fun f h => (by rcases h with h | h <;> cases h)⟩⟩

theorem eq_sl {P : Program} {w : World} {t e : TypeId} (hd : P.underlying t = some (.slice e)) (D : Nat) (a : Option Addr) (n c : Nat) : (Op.equalIn (D + 1) t (.slice a n c) (.slice none 0 0)).run P w = .ok a.isNone w := by
  cases a <;> simp [Op.equalIn, run_underlying hd]

theorem cloneOk_of {P : Program} {tb : Tabs} (H : TabsTy P tb) (hm : P.follows .mixedOrders = true) {f : FuncId} {fn : FnI} {t b : TypeId} (hown : fn.own = [t])
    (hF : ∃ F0, P.funcs[f]? = some F0 ∧ F0.body = some (cloneBody t b) ∧ F0.ntmps = 8 ∧ F0.results.toList = [.tmp 2]) : CloneOk P tb fn f := by
  intro β F M w x X es hes hok hx S
  obtain ⟨F0, h1, h2, h3, h4⟩ := hF
  -- what the room's test says
  unfold cloneRoom at hok
  rw [hown] at hok
  simp only at hok
  split at hok
  case h_2 => cases hok
  rename_i e _ _ _ _ _ hty
  split at hok
  case h_2 => cases hok
  rename_i ti hte
  simp only [Bool.and_eq_true, decide_eq_true_eq] at hok
  obtain ⟨⟨hhd, hroom⟩, hpos⟩ := hok
  obtain ⟨d, hd, hkd⟩ := (H.ty _ _ hty).und
  cases hkd
  obtain ⟨aX, cX, kX, vss, hX, hcX, E⟩ := R.els S hx hes
  have HC := tbC_sound H
  have HR := noRun_ok P
  have hlen8 : ∀ n, n = 8 → (#[X] ++ Array.replicate (n - #[X].size) undef).toList = [X, undef, undef, undef, undef, undef, undef, undef] := fun n hn => by subst hn; rfl
  have T0 : RL β F [x, .pv .top, .pv .top, .pv .top, .pv .top, .pv .top, .pv .top, .pv .top] (#[X] ++ Array.replicate (F0.ntmps - #[X].size) undef).toList := by
    rw [hlen8 _ h3]
    exact .cons hx (.cons (R.top _) (.cons (R.top _) (.cons (R.top _) (.cons (R.top _) (.cons (R.top _) (.cons (R.top _) (.cons (R.top _) .nil)))))))
  have fin : ∀ (s : St) (v : AV) (a' : Act) (w' : World), s.t[2]? = some v → Mid β F M w [] s a' w' → bodyPost P F0 (fun e w' => match e with | .returned u => ∃ β' F', Ext β F M w β' F' s.m w' ∧ Sim β' F' s.m w' ∧ R β' F' v u | _ => False) .ret a' w' := by
    intro s v a' w' hv I
    obtain ⟨β', F', X', S', hT'⟩ := I.ex
    obtain ⟨u, hu, hr⟩ := F2.get? hT' hv
    rw [Array.getElem?_toList] at hu
    have k3 : (results F0 a'.tmps).run P w' = .ok u w' := by
      have := run_results (P := P) (fn := F0) (tmps := a'.tmps) (w := w') (xs := [u]) (by rw [h4]; simp [resOne, Array.getD_eq_getD_getElem?, hu])
      simpa using this
    exact ⟨I.df, _, k3, β', F', X', S', hr⟩
  refine calls_of_wp h1 h2 ?_
  refine wp_seq (exec_wp HC HR hm (tb := tbC tb) (fi := fiC) (run := noRun) S 1 (.region 0 (cl0 t) false) rfl (s := ⟨_, M⟩) (s' := ⟨[x, .pv .top, .pv (.cl []), .pv .top, .pv .top, .pv .top, .pv .top, .pv .top], M⟩) (e := .normal) rfl ⟨⟨β, F, .refl .., S, T0⟩, rfl⟩ (Nat.le_refl _) fun a1 w1 I1 _ => ?_)
  refine wp_seq (wp_seq (wp_region ?_))
  obtain ⟨β1, F1, X1, S1, hT1⟩ := I1.ex
  show wpOps P (cl1 t b) _ [0, 1] a1 w1
  rw [wpOps_cons]
  refine runOp_wp HC HR (tb := tbC tb) (fi := fiC) (run := noRun) (ops := cl1 t b) (i := 0) rfl (s := ⟨_, M⟩) (s' := ⟨[x, .pv .top, .pv (.cl []), x, .pv .top, .pv .top, .pv .top, .pv .top], M⟩) (by
    cases x with
    | pv p => cases p <;> rfl
    | _ => rfl) hT1 S1 fun β2 F2' y w2 X2 S2 hT2 => ?_
  generalize ha2 : a1.put _ y = a2 at hT2
  have hdf2 : a2.defers = [] := by rw [← ha2, put_defers]; exact I1.df
  obtain ⟨Y, hY, hRY⟩ := F2.get? hT2 (show ([x, .pv .top, .pv (.cl []), x, .pv .top, .pv .top, .pv .top, .pv .top] : List AV)[3]? = some x from rfl)
  rw [Array.getElem?_toList] at hY
  obtain ⟨aY, cY, kY, vssY, hYv, _, EY⟩ := R.els S2 hRY (show elems M x = some es from hes)
  rw [wpOps_cons]
  have hev : a2.eval (.tmp 3) = .slice aY es.length cY := by simp [Act.eval, Array.getD_eq_getD_getElem?, hY, hYv]
  have hyld : (execOp a2.eval (cloneOp b 4 (.binOp .eql t (.tmp 3) nilS t) "slices.go:357" #[{ on := 0, ground := .data }])).run P w2 = .ok (.value (.bool aY.isNone)) w2 := by
    have E := eqRun_of (P := P) (X := .tmp 3) (Y := nilS) (eq_sl (w := w2) hd 9999 aY es.length cY) rfl rfl (by simp [eqGuard]) (by simp [eqGuard])
    have hn : a2.eval nilS = .slice none 0 0 := rfl
    simp [execOp, cloneOp, hev, hn, E.g1, E.e1]
  show wpOp P (cl1 t b) _ 1 _ a2 w2
  unfold wpOp
  simp only [show (cl1 t b)[1]? = some (cloneOp b 4 (.binOp .eql t (.tmp 3) nilS t) "slices.go:357" #[{ on := 0, ground := .data }]) from rfl]
  rw [show Region.wanted (cloneOp b 4 (.binOp .eql t (.tmp 3) nilS t) "slices.go:357" #[{ on := 0, ground := .data }]) (yielded (cl1 t b) a2.tmps) = true from rfl]
  simp only [if_true]
  refine .inl ?_
  unfold Oper.wp
  rw [hyld]
  show (Code.cond (.tmp 4) _ _).wp P _ (a2.put (some 4) (.bool aY.isNone)) w2
  have hT3 : RL β2 F2' [x, .pv .top, .pv (.cl []), x, .pv (.bool aY.isNone), .pv .top, .pv .top, .pv .top] (a2.put (some 4) (.bool aY.isNone)).tmps.toList := putT_R hT2 (.pv (.bool aY.isNone)) (some 4)
  have hev4 : (a2.put (some 4) (.bool aY.isNone)).eval (.tmp 4) = .bool aY.isNone := by
    obtain ⟨z, hz, hRz⟩ := F2.get? hT3 (show ([x, .pv .top, .pv (.cl []), x, .pv (.bool aY.isNone), .pv .top, .pv .top, .pv .top] : List AV)[4]? = some (.pv (.bool aY.isNone)) from rfl)
    rw [Array.getElem?_toList] at hz
    have : z = .bool aY.isNone := by cases hRz with | pv h => cases h; rfl
    subst this
    simp [Act.eval, Array.getD_eq_getD_getElem?, hz]
  have I3 : Mid β F M w [] ⟨[x, .pv .top, .pv (.cl []), x, .pv (.bool aY.isNone), .pv .top, .pv .top, .pv .top], M⟩ (a2.put (some 4) (.bool aY.isNone)) w2 := ⟨⟨β2, F2', X1.trans X2, S2, hT3⟩, (put_defers _ _ _).trans hdf2⟩
  cases hnil : aY.isNone with
  | true =>
    have hes0 : es = [] := by
      cases es with
      | nil => rfl
      | cons z zs =>
        have hl := F2.length EY.els
        obtain ⟨b', o', hb, _⟩ := EY.cell 0 _ (List.getElem?_eq_getElem (show 0 < vssY.length by rw [← hl]; simp))
        rw [hb] at hnil
        cases hnil
    subst hes0
    rw [hnil] at hev4 I3
    refine wp_cond_true hev4 (wp_seq (exec_wp HC HR hm (tb := tbC tb) (fi := fiC) (run := noRun) S 1 (.region 2 (cl2 t) false) rfl (s := ⟨_, M⟩) (s' := ⟨[x, .pv .top, .pv (.cl []), x, .pv (.bool true), .pv .top, .pv .top, .pv .top], M⟩) (e := .normal) rfl I3 (Nat.le_refl _) fun a4 w4 I4 _ => ?_))
    exact wp_ret (fin _ (.pv (.cl [])) a4 w4 rfl I4)
  | false =>
    rw [hnil] at hev4 I3
    refine wp_cond_false hev4 (wp_skip ?_)
    have hz : headOk ti.size es = true := hhd
    have hlast : execC (tbC tb) fiC noRun 1 (.region 3 (cl3 t) false) ⟨[x, .pv .top, .pv (.cl []), x, .pv (.bool false), .pv .top, .pv .top, .pv .top], M⟩ =
        some (.normal, ⟨[x, .pv .top, (if es.isEmpty then .pv (.cl []) else .gs M.length es.length 0 es.length), x, .pv (.bool false), .pv (.cl []), x, (if es.isEmpty then .pv (.cl []) else .gs M.length es.length 0 es.length)], if es.isEmpty then M else M ++ [.arr es 0]⟩) := by
      have hmv : ∀ d, assignV fiC M (some d) x = .val x M := fun d => by
        cases x with
        | pv p => cases p <;> rfl
        | _ => rfl
      have hb : stepOp (tbC tb) fiC [x, .pv .top, .pv (.cl []), x, .pv (.bool false), .pv .top, .pv .top, .pv .top] M (some 5) (.buildSlice t 0 #[]) = .val (.pv (.cl [])) M := by
        simp [stepOp, tbC, hty, hte, hpos, freezes, freezeL]
      have hap : appendV tb.ty M t (.pv (.cl [])) x = some ((if es.isEmpty then .pv (.cl []) else .gs M.length es.length 0 es.length), if es.isEmpty then M else M ++ [.arr es 0]) := by
        unfold appendV
        simp only [hty, hte, hes, hz, Bool.not_true, Bool.false_eq_true, if_false]
        by_cases he : es.isEmpty = true
        · simp [he]
        · simp [he, hroom, headOkP]
      have hbu : builtinV (tbC tb) M .append #[t, t] [.pv (.cl []), x] = .val (if es.isEmpty then .pv (.cl []) else .gs M.length es.length 0 es.length) (if es.isEmpty then M else M ++ [.arr es 0]) := by
        simp only [builtinV, tbC, hty]
        rw [hap]
        rfl
      have o0 : runOp (tbC tb) fiC noRun (cl3 t) (cloneOp t 5 (.buildSlice t 0 #[]) "slices.go:362" #[]) ⟨[x, .pv .top, .pv (.cl []), x, .pv (.bool false), .pv .top, .pv .top, .pv .top], M⟩ = some ⟨[x, .pv .top, .pv (.cl []), x, .pv (.bool false), .pv (.cl []), .pv .top, .pv .top], M⟩ := by
        unfold runOp
        simp only [cloneOp, wantedA, hb]
        rfl
      have o1 : runOp (tbC tb) fiC noRun (cl3 t) (cloneOp t 6 (.move (.tmp 0)) "slices.go:362" #[]) ⟨[x, .pv .top, .pv (.cl []), x, .pv (.bool false), .pv (.cl []), .pv .top, .pv .top], M⟩ = some ⟨[x, .pv .top, .pv (.cl []), x, .pv (.bool false), .pv (.cl []), x, .pv .top], M⟩ := by
        unfold runOp
        simp only [cloneOp, wantedA, stepOp]
        rw [show evalO [x, .pv .top, .pv (.cl []), x, .pv (.bool false), .pv (.cl []), .pv .top, .pv .top] (.tmp 0) = x from rfl, hmv]
        rfl
      have hap2 : stepOp (tbC tb) fiC [x, .pv .top, .pv (.cl []), x, .pv (.bool false), .pv (.cl []), x, .pv .top] M (some 7) (.call { callee := .builtin .append, args := #[.tmp 5, .tmp 6], argTypes := #[t, t] }) = .val (if es.isEmpty then .pv (.cl []) else .gs M.length es.length 0 es.length) (if es.isEmpty then M else M ++ [.arr es 0]) := by
        simp only [stepOp]
        exact hbu
      simp only [execC, runRegion, fiC, List.lookup, cl3]
      show (match runOps (tbC tb) fiC noRun (cl3 t) (cl3 t).toList _ with | some s' => some (Ex.normal, s') | none => none) = _
      rw [show (cl3 t).toList = [cloneOp t 5 (.buildSlice t 0 #[]) "slices.go:362" #[], cloneOp t 6 (.move (.tmp 0)) "slices.go:362" #[], cloneOp t 7 (.call { callee := .builtin .append, args := #[.tmp 5, .tmp 6], argTypes := #[t, t] }) "slices.go:362" #[{ on := 0, ground := .data }, { on := 1, ground := .data }], cloneOp t 2 (.assign (.tmp 7)) "slices.go:362" #[{ on := 2, ground := .data }, { on := 2, ground := .chain }, { on := 0, ground := .phase }, { on := 1, ground := .phase }, { on := 2, ground := .phase }]] from rfl]
      simp only [runOps, o0, o1]
      by_cases he : es.isEmpty = true
      · rw [if_pos he, if_pos he] at hap2
        simp only [he, if_true]
        simp only [runOp, cloneOp, wantedA, hap2]
        rfl
      · rw [if_neg he, if_neg he] at hap2
        simp only [he, Bool.false_eq_true, if_false]
        simp only [runOp, cloneOp, wantedA, hap2]
        rfl
    refine wp_seq (exec_wp HC HR hm (tb := tbC tb) (fi := fiC) (run := noRun) S 1 (.region 3 (cl3 t) false) rfl (s := ⟨_, M⟩) (e := .normal) hlast I3 (Nat.le_refl _) fun a4 w4 I4 _ => ?_)
    exact wp_ret (fin _ _ a4 w4 rfl I4)
end Go.Vm
