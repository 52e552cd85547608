/- Functions: what the machine gives, a call gives. -/
import Derived.Test.YtiajhfodfhmfaaaGreatDoorWmExec
set_option linter.unusedVariables false
set_option linter.unusedSimpArgs false
set_option linter.unusedSectionVars false
namespace Go.Vm
variable [SymB] [SymV]

/-- One result. -/
def resOne (tmps : Array Value) : ResultVar → Sem Value
  | .tmp t => pure (tmps.getD t undef)
  | .cell a t => do loadVar t (← asAddr (tmps.getD a undef))

theorem resultV_R {P : Program} {tb : Tabs} (H : TabsTy P tb) {β : Bnd} {F : Fr} {w : World} {s : St} {a : Act} (hT : RL β F s.t a.tmps.toList) (S : Sim β F s.m w) {r : ResultVar} {v : AV} (h : resultV tb s r = some v) :
    ∃ x, (resOne a.tmps r).run P w = .ok x w ∧ R β F v x := by
  cases r with
  | tmp t =>
    simp only [resultV] at h
    obtain ⟨x, hx, hr⟩ := F2.get? hT h
    rw [Array.getElem?_toList] at hx
    exact ⟨x, by simp [resOne, Array.getD_eq_getD_getElem?, hx], hr⟩
  | cell ad t =>
    simp only [resultV] at h
    split at h
    · rename_i ti u hty hu
      obtain ⟨x, hx, hr⟩ := F2.get? hT hu
      rw [Array.getElem?_toList] at hx
      obtain ⟨y, h1, h2⟩ := loadAt_R H hty S hr h
      refine ⟨y, ?_, h2⟩
      have hp : ∃ q, x = .pointer (some q) := by
        unfold loadAt at h
        split at h
        · cases hr; exact ⟨_, rfl⟩
        · cases hr; exact ⟨_, rfl⟩
        · simp at h
      obtain ⟨q, rfl⟩ := hp
      simp only [Instr.loadAt, Instr.sureAddr, Sem.run_bind, Sem.run_pure, Result.andThen] at h1
      simp only [resOne, Array.getD_eq_getD_getElem?, hx, Option.getD_some, asAddr, Sem.run_bind, Sem.run_pure, Result.andThen]
      exact h1
    · simp at h

theorem resultsV_R {P : Program} {tb : Tabs} (H : TabsTy P tb) {β : Bnd} {F : Fr} {w : World} {s : St} {a : Act} (hT : RL β F s.t a.tmps.toList) (S : Sim β F s.m w) : ∀ {rs : List ResultVar} {vs : List AV}, resultsV tb s rs = some vs →
    ∃ xs, (rs.mapM (resOne a.tmps)).run P w = .ok xs w ∧ RL β F vs xs
  | [], vs, h => by
    simp only [resultsV, Option.some.injEq] at h
    subst h
    exact ⟨[], by simp, .nil⟩
  | r :: rs, vs, h => by
    simp only [resultsV] at h
    split at h
    · rename_i v vs' h1 h2
      simp only [Option.some.injEq] at h
      subst h
      obtain ⟨x, k1, k2⟩ := resultV_R H hT S h1
      obtain ⟨xs, k3, k4⟩ := resultsV_R H hT S h2
      exact ⟨x :: xs, by simp [k1, k3], .cons k2 k4⟩
    · simp at h

theorem packed_R {β : Bnd} {F : Fr} {vs : List AV} {xs : List Value} (h : RL β F vs xs) : R β F (packed vs) (if h : xs.length = 1 then xs[0] else .tuple xs.toArray) := by
  cases h with
  | nil => simp only [List.length_nil, Nat.zero_ne_one, dite_false]; exact R.mkTup .nil
  | cons h1 t =>
    cases t with
    | nil => simpa [packed] using h1
    | cons h2 t2 =>
      simp only [List.length_cons, packed]
      rw [dif_neg (by omega)]
      exact R.mkTup (.cons h1 (.cons h2 t2))

theorem run_results {P : Program} {fn : Func} {tmps : Array Value} {w : World} {xs : List Value} (h : (fn.results.toList.mapM (resOne tmps)).run P w = .ok xs w) :
    (results fn tmps).run P w = .ok (if h : xs.length = 1 then xs[0] else .tuple xs.toArray) w := by
  have h1 : (fn.results.mapM (resOne tmps)).run P w = .ok xs.toArray w := by
    rw [Array.mapM_eq_mapM_toList]
    simp [h]
  have h2 : results fn tmps = (do let vs ← fn.results.mapM (resOne tmps); pure (if h : vs.size = 1 then vs[0] else .tuple vs)) := by
    unfold results
    rfl
  rw [h2]
  simp only [Sem.run_bind, h1, Result.andThen, Sem.run_pure]
  simp

/-- What is asked of the table of functions. -/
def FnsOk (P : Program) (tb : Tabs) : Prop := ∀ f fi, tb.fn f = some fi → ∃ F0, P.funcs[f]? = some F0 ∧ F0.body = some fi.body ∧ F0.ntmps = fi.ntmps ∧ F0.results.toList = fi.results ∧ codeOk fi fi.body = true

theorem run_sound {P : Program} {tb : Tabs} (H : Sound P tb) (hf : FnsOk P tb) (hm : P.follows .mixedOrders = true) : ∀ n, RunOk P (runF tb n)
  | 0 => fun f args M r N β F w xs h => by simp [runF] at h
  | n + 1 => fun f args M r N β F w xs h hx S => by
    simp only [runF] at h
    split at h
    · rename_i fi hfi
      obtain ⟨F0, h1, h2, h3, h4, h5⟩ := hf f fi hfi
      have hlen := F2.length hx
      have hT0 : RL β F (args ++ List.replicate (fi.ntmps - args.length) (.pv .top)) (xs ++ Array.replicate (F0.ntmps - xs.size) undef).toList := by
        rw [Array.toList_append, Array.toList_replicate, h3]
        have hlen' : args.length = xs.size := by rw [hlen]; exact Array.length_toList
        rw [hlen']
        exact F2.append hx (F2.replicate (R.top _) _)
      have fin : ∀ {e : Ex} {s : St}, execC tb fi (runF tb n) n fi.body ⟨args ++ List.replicate (fi.ntmps - args.length) (.pv .top), M⟩ = some (e, s) → (e = .normal ∨ e = .ret) → ∀ vs, resultsV tb s fi.results = some vs → r = packed (if fi.raw then vs else vs.map nrm) → N = s.m → CallsTo P f xs β F M w r N := by
        intro e s he hee vs hvs hr hN
        subst hr; subst hN
        refine calls_of_wp h1 h2 ?_
        refine exec_wp H (run_sound H hf hm n) hm (β0 := β) (F0 := F) (M0 := M) (w0 := w) (d0 := []) S n fi.body h5 he ⟨⟨β, F, .refl .., S, hT0⟩, rfl⟩ (Nat.le_refl _) fun a' w' I _ => ?_
        obtain ⟨β', F', X, S', hT'⟩ := I.ex
        obtain ⟨ys, k1, k2⟩ := resultsV_R H.ty hT' S' hvs
        have k3 := run_results (fn := F0) (by rw [h4]; exact k1)
        have k4 : RL β' F' (if fi.raw then vs else vs.map nrm) ys := by
          split
          · exact k2
          · exact k2.nrms''
        rcases hee with rfl | rfl
        · exact ⟨I.df, _, k3, β', F', X, S', packed_R k4⟩
        · exact ⟨I.df, _, k3, β', F', X, S', packed_R k4⟩
      split at h
      · rename_i s he
        split at h
        · rename_i vs hvs
          simp only [Option.some.injEq, Prod.mk.injEq] at h
          exact fin he (.inl rfl) vs hvs h.1.symm h.2.symm
        · simp at h
      · rename_i s he
        split at h
        · rename_i vs hvs
          simp only [Option.some.injEq, Prod.mk.injEq] at h
          exact fin he (.inr rfl) vs hvs h.1.symm h.2.symm
        · simp at h
      · simp at h
    · simp at h
end Go.Vm
