/- Code: what the machine gives, the model gives. -/
import Derived.Test.YtiajhfodfhmfaaaGreatDoorWmReg8
import Derived.Scope
set_option linter.unusedVariables false
set_option linter.unusedSimpArgs false
set_option linter.unusedSectionVars false
namespace Go.Vm
variable [SymB] [SymV]

def ancsOf (ops : Array Oper) : List (List Nat) := ops.toList.foldl (fun acc o => acc ++ [((after1 o).flatMap fun e => e :: acc.getD e []).eraseDups]) []
def codeOk (fi : FnI) : Code → Bool
  | .region id ops draw => match fi.chk.lookup id with
    | some c => draw && regOk fi ops c (ancsOf ops)
    | none => !draw || regOk fi ops ⟨[], [], []⟩ (ancsOf ops)
  | .seq a b => codeOk fi a && codeOk fi b
  | .cond _ a b => codeOk fi a && codeOk fi b
  | .block _ b => codeOk fi b
  | .loop b => codeOk fi b
  | .scope b => codeOk fi b
  | _ => true

def exOf : Ex → Exit
  | .normal => .normal
  | .exit id => .exit id
  | .ret => .ret

theorem restOf_nil (ops : Array Oper) : pickOps ops (restOf ops []) = ops.toList := by
  have h := pick_F2 (ops := ops) (l := restOf ops []) fun i hi => (restOf_mem.1 hi).1
  have hr : restOf ops [] = List.range ops.size := by simp [restOf]
  rw [hr] at h ⊢
  have hl := F2.length h
  simp only [List.length_range] at hl
  apply List.ext_getElem (by rw [← hl]; simp)
  intro n h1 h2
  have := F2.get h n (by rw [List.length_range]; omega) h1
  simp only [List.getElem_range] at this
  have h3 : n < ops.size := by omega
  rw [Array.getElem?_eq_getElem h3, Option.some.injEq] at this
  rw [← this]; simp

theorem runOps_states {tb : Tabs} {fi : FnI} {run : CallF} {ops : Array Oper} : ∀ {l : List Oper} {s s' : St}, runOps tb fi run ops l s = some s' → (states tb fi run ops l s)[l.length]? = some s'
  | [], s, s', h => by simpa [runOps, states] using h
  | o :: l, s, s', h => by
    simp only [runOps] at h
    split at h
    · rename_i s1 h1
      simp only [states, h1, List.length_cons, List.getElem?_cons_succ]
      exact runOps_states h
    · simp at h
theorem runReg_nil {tb : Tabs} {fi : FnI} {run : CallF} {ops : Array Oper} {s s' : St} (h : runOps tb fi run ops ops.toList s = some s') : runReg tb fi run ops ⟨[], [], []⟩ s = some s' := by
  have := runOps_states h
  simp only [runReg, pickOps, List.filterMap_nil, states, List.length_nil, List.getElem?_cons_zero, List.all_nil, Bool.and_self, if_true]
  have hr := restOf_nil ops
  unfold pickOps at hr
  rw [hr]
  exact this

theorem least {p : Nat → Prop} (h : ∃ n, p n) : ∃ n, p n ∧ ∀ k, p k → n ≤ k := by
  obtain ⟨n, hn⟩ := h
  induction n using Nat.strongRecOn with
  | _ n ih =>
    by_cases hk : ∃ k, k < n ∧ p k
    · obtain ⟨k, h1, h2⟩ := hk
      exact ih k h1 h2
    · exact ⟨n, hn, fun k h2 => Nat.le_of_not_lt fun h1 => hk ⟨k, h1, h2⟩⟩

section
variable {P : Program} {tb : Tabs} (H : Sound P tb) {fi : FnI} {run : CallF} (hrun : RunOk P run) (hm : P.follows .mixedOrders = true)
include H hrun hm

theorem region_wp {Q : Exit → Act → World → Prop} {id : Nat} {ops : Array Oper} {draw : Bool} (hok : codeOk fi (.region id ops draw) = true) {s s' : St} (h : runRegion tb fi run id ops s = some s') {β : Bnd} {F : Fr} {w : World} {a : Act} (hT : RL β F s.t a.tmps.toList) (S : Sim β F s.m w)
    (hQ : ∀ β' F' a' w', Ext β F s.m w β' F' s'.m w' → Sim β' F' s'.m w' → RL β' F' s'.t a'.tmps.toList → a'.defers = a.defers → Q .normal a' w') : (Code.region id ops draw).wp P Q a w := by
  have key : ∀ c A, regOk fi ops c A = true → runReg tb fi run ops c s = some s' → (Code.region id ops true).wp P Q a w := fun c A h1 h2 => by
    obtain ⟨C, G, hC0, hCn⟩ := reg_of h1 h2
    subst hC0; subst hCn
    exact Reg.wp H hrun G hm hT S hQ
  unfold runRegion at h
  unfold codeOk at hok
  cases hl : fi.chk.lookup id with
  | some c =>
    simp only [hl, Bool.and_eq_true] at h hok
    obtain ⟨h1, h2⟩ := hok
    subst h1
    exact key c _ h2 h
  | none =>
    simp only [hl, Bool.or_eq_true, Bool.not_eq_true'] at h hok
    cases draw with
    | true =>
      rcases hok with h1 | h1
      · simp at h1
      · exact key _ _ h1 (runReg_nil h)
    | false =>
      refine wp_region (runOps_wp H hrun (F2.of_get (by simp) fun i h1 h2 => ?_) h hT S hQ)
      have h3 : i < ops.size := by simpa using h1
      simp [h3]

omit H hrun hm in
theorem trim_sound {β0 β : Bnd} {F0 F : Fr} {M0 : Mem} {w0 w : World} {m : Nat} {s s' : St} {a : Act} (S0 : Sim β0 F0 M0 w0) (hm0 : M0.length ≤ m) {lv : Nat} (h : trim lv m s = some s') (X : Ext β0 F0 M0 w0 β F s.m w) (S : Sim β F s.m w) (hT : RL β F s.t a.tmps.toList) :
    ∃ β', Ext β0 F0 M0 w0 β' F s'.m w ∧ Sim β' F s'.m w ∧ RL β' F s'.t a.tmps.toList := by
  unfold trim at h
  split at h
  · rename_i hu
    simp only [Option.some.injEq] at h
    subst h
    refine ⟨β.cut m, X.cut S0 S hm0, S.cut hu, ?_⟩
    have key : ∀ (l : List AV) (k : Nat) (vs : List Value), RL β F l vs → RL (β.cut m) F (cutAll lv m k l) vs := by
      intro l
      induction l with
      | nil => intro k vs h; cases h; exact .nil
      | cons x r ih =>
        intro k vs h
        cases h with
        | cons hr ht =>
          refine .cons ?_ (ih _ _ ht)
          unfold cutTo
          split
          · unfold topUnless
            split
            · rename_i h1; exact hr.cut h1
            · exact R.top _
          · exact R.top _
    exact key _ _ _ hT
  · simp at h

/-- What a state of the machine and one of the model have in common, since a start. -/
structure Mid (β0 : Bnd) (F0 : Fr) (M0 : Mem) (w0 : World) (d0 : List Deferred) (s : St) (a : Act) (w : World) : Prop where
  ex : ∃ β F, Ext β0 F0 M0 w0 β F s.m w ∧ Sim β F s.m w ∧ RL β F s.t a.tmps.toList
  df : a.defers = d0

open Classical in
theorem exec_wp {β0 : Bnd} {F0 : Fr} {M0 : Mem} {w0 : World} {d0 : List Deferred} (S0 : Sim β0 F0 M0 w0) (lim : Nat) : ∀ (code : Code) {s s' : St} {e : Ex} {a : Act} {w : World} {Q : Exit → Act → World → Prop}, codeOk fi code = true → execC tb fi run lim code s = some (e, s') → Mid β0 F0 M0 w0 d0 s a w → M0.length ≤ s.m.length →
    (∀ a' w', Mid β0 F0 M0 w0 d0 s' a' w' → M0.length ≤ s'.m.length → Q (exOf e) a' w') → code.wp P Q a w
  | .skip, s, s', e, a, w, Q, _, h, I, hl, hQ => by
    simp only [execC, Option.some.injEq, Prod.mk.injEq] at h
    obtain ⟨rfl, rfl⟩ := h
    exact wp_skip (hQ a w I hl)
  | .region id ops draw, s, s', e, a, w, Q, hok, h, I, hl, hQ => by
    simp only [execC] at h
    split at h
    · rename_i s1 h1
      simp only [Option.some.injEq, Prod.mk.injEq] at h
      obtain ⟨rfl, rfl⟩ := h
      obtain ⟨β, F, X, S, hT⟩ := I.ex
      exact region_wp H hrun hm hok h1 hT S fun β' F' a' w' X' S' hT' hd => hQ a' w' ⟨⟨β', F', X.trans X', S', hT'⟩, hd.trans I.df⟩ (by have := X'.mlen; omega)
    · simp at h
  | .seq x y, s, s', e, a, w, Q, hok, h, I, hl, hQ => by
    simp only [codeOk, Bool.and_eq_true] at hok
    simp only [execC] at h
    split at h
    · rename_i s1 h1
      exact wp_seq (exec_wp S0 lim x hok.1 h1 I hl fun a' w' I' hl' => exec_wp S0 lim y hok.2 h I' hl' hQ)
    · rename_i hne
      refine wp_seq (exec_wp S0 lim x hok.1 h I hl fun a' w' I' hl' => ?_)
      cases e with
      | normal => exact absurd h (hne s')
      | exit id => exact hQ a' w' I' hl'
      | ret => exact hQ a' w' I' hl'
  | .cond cnd x y, s, s', e, a, w, Q, hok, h, I, hl, hQ => by
    simp only [codeOk, Bool.and_eq_true] at hok
    simp only [execC] at h
    obtain ⟨β, F, X, S, hT⟩ := I.ex
    have hR := evalO_R hT cnd
    split at h
    · rename_i hc
      rw [hc] at hR
      generalize hv : a.eval cnd = v at hR
      cases hR with
      | pv hR => cases hR; exact wp_cond_true hv (exec_wp S0 lim x hok.1 h I hl hQ)
    · rename_i hc
      rw [hc] at hR
      generalize hv : a.eval cnd = v at hR
      cases hR with
      | pv hR => cases hR; exact wp_cond_false hv (exec_wp S0 lim y hok.2 h I hl hQ)
    · simp at h
  | .block id b, s, s', e, a, w, Q, hok, h, I, hl, hQ => by
    simp only [codeOk] at hok
    simp only [execC] at h
    refine wp_block ?_
    split at h
    · rename_i id' s1 h1
      split at h
      · rename_i hid
        simp only [Option.some.injEq, Prod.mk.injEq] at h
        obtain ⟨rfl, rfl⟩ := h
        exact exec_wp S0 lim b hok h1 I hl fun a' w' I' hl' => by simp only [exOf, Exit.inBlock, hid, if_true]; exact hQ a' w' I' hl'
      · rename_i hid
        simp only [Option.some.injEq, Prod.mk.injEq] at h
        obtain ⟨rfl, rfl⟩ := h
        exact exec_wp S0 lim b hok h1 I hl fun a' w' I' hl' => by simp only [exOf, Exit.inBlock, hid, if_false]; exact hQ a' w' I' hl'
    · rename_i hne
      refine exec_wp S0 lim b hok h I hl fun a' w' I' hl' => ?_
      cases e with
      | normal => exact hQ a' w' I' hl'
      | exit id' => exact absurd h (hne id' s')
      | ret => exact hQ a' w' I' hl'
  | .loop b, s, s', e, a, w, Q, hok, h, I, hl, hQ => by
    simp only [codeOk] at hok
    simp only [execC] at h
    generalize hm' : s.m.length = m at h
    have hm0 : M0.length ≤ m := by omega
    let J : Nat → Act → World → Prop := fun n a w => ∃ st, loopN (execC tb fi run lim b) fi.trim fi.live m n st = some (e, s') ∧ Mid β0 F0 M0 w0 d0 st a w ∧ M0.length ≤ st.m.length
    let μ : Act → World → Nat := fun a w => if h : ∃ n, J n a w then Classical.choose (least h) else 0
    have hμ : ∀ {a w} (h : ∃ n, J n a w), J (μ a w) a w ∧ ∀ k, J k a w → μ a w ≤ k := fun {a w} h => by
      have := Classical.choose_spec (least h)
      simp only [μ, dif_pos h]
      exact this
    refine wp_loop (fun a w => ∃ n, J n a w) μ ⟨lim, s, h, I, hl⟩ fun a1 w1 h1 => ?_
    obtain ⟨hJ, hmin⟩ := hμ h1
    obtain ⟨st, k1, k2, k3⟩ := hJ
    generalize hn : μ a1 w1 = n at k1
    cases n with
    | zero => simp [loopN] at k1
    | succ n =>
      simp only [loopN] at k1
      have next : ∀ {a' w'}, J n a' w' → (∃ n, J n a' w') ∧ μ a' w' < n + 1 := fun {a' w'} hj => ⟨⟨n, hj⟩, Nat.lt_succ_of_le ((hμ ⟨n, hj⟩).2 n hj)⟩
      split at k1
      · rename_i s1 hs1
        refine exec_wp S0 lim b hok hs1 k2 k3 fun a' w' I' hl' => ?_
        show (∃ n, J n a' w') ∧ μ a' w' < n + 1
        split at k1
        · split at k1
          · rename_i s2 hs2
            obtain ⟨β, F, X, S, hT⟩ := I'.ex
            obtain ⟨β', X', S', hT'⟩ := trim_sound S0 hm0 hs2 X S hT
            exact next ⟨s2, k1, ⟨⟨β', F, X', S', hT'⟩, I'.df⟩, X'.mlen⟩
          · simp at k1
        · exact next ⟨s1, k1, I', hl'⟩
      · rename_i hne
        refine exec_wp S0 lim b hok k1 k2 k3 fun a' w' I' hl' => ?_
        cases e with
        | normal => exact absurd k1 (hne s')
        | exit id => exact hQ a' w' I' hl'
        | ret => exact hQ a' w' I' hl'
  | .exit id, s, s', e, a, w, Q, _, h, I, hl, hQ => by
    simp only [execC, Option.some.injEq, Prod.mk.injEq] at h
    obtain ⟨rfl, rfl⟩ := h
    exact wp_exit (hQ a w I hl)
  | .scope b, s, s', e, a, w, Q, hok, h, I, hl, hQ => by
    simp only [codeOk] at hok
    simp only [execC] at h
    refine wp_scope_straight (exec_wp S0 lim b hok h I hl fun a' w' I' hl' => ?_)
    cases e with
    | normal => exact hQ a' w' I' hl'
    | exit id' => exact hQ a' w' I' hl'
    | ret => exact hQ a' w' I' hl'
  | .ret, s, s', e, a, w, Q, _, h, I, hl, hQ => by
    simp only [execC, Option.some.injEq, Prod.mk.injEq] at h
    obtain ⟨rfl, rfl⟩ := h
    exact wp_ret (hQ a w I hl)
  | .rangeFunc .., s, s', e, a, w, Q, _, h, I, hl, hQ => by simp [execC] at h
  | .label _, s, s', e, a, w, Q, _, h, I, hl, hQ => by simp [execC] at h
  | .goto _, s, s', e, a, w, Q, _, h, I, hl, hQ => by simp [execC] at h
end
end Go.Vm
