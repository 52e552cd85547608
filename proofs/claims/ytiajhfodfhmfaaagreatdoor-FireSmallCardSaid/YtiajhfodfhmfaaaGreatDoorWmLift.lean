/- From runs of the machine to calls of the program, with no word of the machine. -/
import Derived.Test.YtiajhfodfhmfaaaGreatDoorWmClone
set_option linter.unusedVariables false
set_option linter.unusedSimpArgs false
set_option linter.unusedSectionVars false
namespace Go.Vm
variable [SymB] [SymV]

section
variable {α : Type} {Q : Nat → α → Prop} {lo hi f : Nat}
theorem ndA {m : Nat} {a b : Option α} (ha : lo ≤ f → f < m → ∀ x, a = some x → Q f x) (hb : m ≤ f → f < hi → ∀ x, b = some x → Q f x) (h1 : lo ≤ f) (h2 : f < hi) : ∀ x, (bif Nat.blt f m then a else b) = some x → Q f x := by
  intro x hx
  cases hc : Nat.blt f m with
  | true =>
    rw [hc] at hx
    exact ha h1 (by rw [← Nat.blt_eq]; exact hc) x hx
  | false =>
    rw [hc] at hx
    exact hb (by rw [← Bool.not_eq_true, Nat.blt_eq] at hc; omega) h2 x hx
theorem lfA {v : α} (h : Q lo v) (h1 : lo ≤ f) (h2 : f < lo + 1) : ∀ x, some v = some x → Q f x := by
  intro x hx
  cases hx
  have : f = lo := by omega
  subst this
  exact h
theorem nnA (h1 : lo ≤ f) (h2 : f < hi) : ∀ x, (none : Option α) = some x → Q f x := by
  intro x hx
  cases hx
/-- A table that ends at a number. -/
theorem topA {n : Nat} {t : Option α} (h : 0 ≤ f → f < n → ∀ x, t = some x → Q f x) : ∀ x, (bif Nat.blt f n then t else none) = some x → Q f x := by
  intro x hx
  cases hc : Nat.blt f n with
  | true =>
    rw [hc] at hx
    exact h (Nat.zero_le f) (by rw [← Nat.blt_eq]; exact hc) x hx
  | false => rw [hc] at hx; cases hx
end
theorem nocl {fn : FnI} {X : Prop} (e : fn.clone = false) (h : fn.clone = true) : X := by rw [e] at h; cases h

theorem sound_of {P : Program} {tb : Tabs} (ht : TabsTy P tb) (hp : ∀ f g, tb.prim f = some g → PrimOk P f g ∧ Enters P f) (hf : ∀ f fi, tb.fn f = some fi → FnOk P f fi) (hc : ∀ f fi, tb.fn f = some fi → fi.clone = true → CloneOk P tb fi f) : Sound P tb :=
  ⟨ht, ⟨fun f g h => (hp f g h).1, hc, fun f h => by
    rcases h with h | h
    · obtain ⟨g, hg⟩ := Option.isSome_iff_exists.1 h
      exact (hp f g hg).2
    · obtain ⟨fi, hfi⟩ := Option.isSome_iff_exists.1 h
      exact (hf f fi hfi).enters⟩⟩
theorem runOk_of {P : Program} {tb : Tabs} (S : Sound P tb) (hf : ∀ f fi, tb.fn f = some fi → FnOk P f fi) (hm : P.follows .mixedOrders = true) (gls : FuncId → Nat) (n : Nat) : RunOk P (runFE tb gls n) :=
  fun f args M r N β F w xs h => run_sound S (fnsOk_of hf) hm n f args M r N β F w xs (runFE_less tb gls n f args M (r, N) h)

omit [SymB] [SymV] in
theorem wrap_id' {x : Int} (h1 : -9223372036854775808 ≤ x) (h2 : x ≤ 9223372036854775807) : IntKind.i64.wrap x = x := by
  have e : IntKind.i64.wrap x = (if x % 18446744073709551616 ≥ 9223372036854775808 then x % 18446744073709551616 - 18446744073709551616 else x % 18446744073709551616) := by
    simp [IntKind.wrap, IntKind.signed, IntKind.bits]
  rw [e]
  split <;> omega

/-! ### True -/
def resB : Option (AV × Mem) → Bool
  | some (.pv (.bool b), _) => b
  | _ => false
theorem resB_some {x : Option (AV × Mem)} (h : resB x = true) : ∃ N, x = some (.pv (.bool true), N) := by
  unfold resB at h
  split at h
  · subst h; exact ⟨_, rfl⟩
  · cases h

theorem sim_start (w : World) : Sim Bnd.none_ (fun _ _ => none) [] w :=
  ⟨fun b o v h => (by cases h), fun g es fz bd h => (by simp at h), fun g es b h => (by simp at h), fun g n bd h => (by cases h), fun g b h => (by cases h), fun g g' b h => (own_none (.inl ⟨g, h⟩)).elim, fun g g' b h => (by cases h)⟩

theorem sim_startF (w : World) (F : Fr) (hF : ∀ b o v, F b o = some v → w.cell? ⟨b, o, none⟩ = some v) : Sim Bnd.none_ F [] w :=
  ⟨hF, fun g es fz bd h => (by simp at h), fun g es b h => (by simp at h), fun g n bd h => (by cases h), fun g b h => (by cases h), fun g g' b h => (own_none (.inl ⟨g, h⟩)).elim, fun g g' b h => (by cases h)⟩
/-- What is behind a call that has made new blocks alone. -/
structure After (w w' : World) : Prop where
  os : w'.os = w.os
  tape : w'.tape = w.tape
  output : w'.output = w.output
  size : w.heap.size ≤ w'.heap.size
  heap : ∀ b, b < w.heap.size → w'.heap[b]? = w.heap[b]?

theorem calls_true {P : Program} {run : CallF} (R : RunOk P run) {f : FuncId} {ps : List PV} (h : resB (run f (ps.map .pv) []) = true) {xs : Array Value} {F0 : Fr} (hx : RPL F0 ps xs.toList) (w : World) (hF : ∀ b o v, F0 b o = some v → w.cell? ⟨b, o, none⟩ = some v) :
    Calls P f xs w fun e w' => e = .returned (.bool true) ∧ After w w' := by
  obtain ⟨N, hN⟩ := resB_some h
  refine Calls.mono (R f _ [] _ N Bnd.none_ _ w xs hN (RL.of_pv hx) (sim_startF w F0 hF)) fun e w' h => ?_
  cases e with
  | returned v =>
    obtain ⟨β', F', X, S', r⟩ := h
    have hv : v = .bool true := by cases r with | pv r => cases r; rfl
    subst hv
    exact ⟨rfl, X.os, X.tape, X.output, X.size, fun b hb => X.heap b hb own_none⟩
  | panicked c => exact h.elim
  | outgrown => exact h.elim

/-! ### A body in parts -/
noncomputable def finishE (tb : Tabs) (gls : FuncId → Nat) (f : FuncId) (fi : FnI) (args : List AV) (x : Option (Ex × StE)) : Option (AV × Mem) :=
  match x with
  | some (.normal, s) | some (.ret, s) => if args.length ≤ fi.ntmps then match resultsE tb (gls f) fi.ntmps s fi.results with
    | some vs => some (packed (if fi.raw then vs else vs.map nrm), s.m)
    | none => none
    else none
  | _ => none
noncomputable def startE (gls : FuncId → Nat) (f : FuncId) (fi : FnI) (args : List AV) (M : Mem) : StE := ⟨putArgs (gls f) 0 args (ofL (args ++ List.replicate (fi.ntmps - args.length) (.pv .top))), M⟩
theorem runFE_eq {tb : Tabs} {gls : FuncId → Nat} {n : Nat} {f : FuncId} {fi : FnI} (hf : tb.fn f = some fi) (args : List AV) (M : Mem) : runFE tb gls (n + 1) f args M = finishE tb gls f fi args (execE tb fi (gls f) (runFE tb gls n) n fi.body (startE gls f fi args M)) := by
  simp only [runFE, hf, finishE, startE]
  rfl
theorem runFE_two {tb : Tabs} {gls : FuncId → Nat} {n : Nat} {f : FuncId} {fi : FnI} {a b c : Code} {s1 s2 : StE} {args : List AV} {M : Mem} (hf : tb.fn f = some fi) (hb : fi.body = .seq a (.seq b c)) (h1 : execE tb fi (gls f) (runFE tb gls n) n a (startE gls f fi args M) = some (.normal, s1))
    (h2 : execE tb fi (gls f) (runFE tb gls n) n b s1 = some (.normal, s2)) : runFE tb gls (n + 1) f args M = finishE tb gls f fi args (execE tb fi (gls f) (runFE tb gls n) n c s2) := by
  rw [runFE_eq hf, hb]
  simp only [execE, h1, h2]
/-- A law's body in three parts: behind the second one a number is known by its name alone. -/
theorem calls_true_abs {P : Program} {tb : Tabs} (S : Sound P tb) (hf : ∀ f fi, tb.fn f = some fi → FnOk P f fi) (hm : P.follows .mixedOrders = true) {gls : FuncId → Nat} {n : Nat} {f : FuncId} {fi : FnI} {a b c : Code} {k : Nat} {sA sB : StE} {ps : List PV}
    (hfi : tb.fn f = some fi) (hb : fi.body = .seq a (.seq b c)) (hlen : ps.length ≤ fi.ntmps) (hk : k < fi.ntmps)
    (h1 : execE tb fi (gls f) (runFE tb gls n) n a (startE gls f fi (ps.map .pv) []) = some (.normal, sA))
    (h2 : execE tb fi (gls f) (runFE tb gls n) n b sA = some (.normal, sB))
    {p p' : PV} (hν : get (gls f) sB.e k = .pv p) (habs : ∀ (F : Fr) (v : Value), RP F p v → RP F p' v)
    (h3 : resB (finishE tb gls f fi (ps.map .pv) (execE tb fi (gls f) (runFE tb gls n) n c ⟨put (gls f) k (.pv p') sB.e, sB.m⟩)) = true)
    {xs : Array Value} (hx : RPL (fun _ _ => none) ps xs.toList) (w : World) : Calls P f xs w fun e w' => e = .returned (.bool true) ∧ After w w' := by
  obtain ⟨F0, g1, g2, g3, g4, g5, _, _⟩ := hf f fi hfi
  have hrun : RunOk P (runF tb n) := run_sound S (fnsOk_of hf) hm n
  have less := runFE_less tb gls n
  have l0 : Like (gls f) fi.ntmps (startE gls f fi (ps.map .pv) []).e (ps.map .pv ++ List.replicate (fi.ntmps - (ps.map AV.pv).length) (AV.pv PV.top)) :=
    ⟨by simp; omega, putArgs_get _ _ 0 _ _ (fun j hj => by simp only [Nat.zero_add, List.getD, List.getElem?_append_left hj, List.getElem?_eq_getElem hj]; rfl) (get_ofL _ _)⟩
  obtain ⟨TA, kA, lA⟩ := execE_sound less n a _ _ _ _ l0 h1
  obtain ⟨TB, kB, lB⟩ := execE_sound less n b _ _ _ _ lA h2
  have lB' : Like (gls f) fi.ntmps (put (gls f) k (.pv p') sB.e) (putT TB (some k) (.pv p')) := putO_like lB (dst := some k) (by
    have : Nat.blt k fi.ntmps = true := by rw [Nat.blt_eq]; exact hk
    simp only [putO, this]
    rfl)
  have hTk : TB[k]? = some (.pv p) := by rw [lB.some hk, hν]
  -- the end
  obtain ⟨ee, sC, vs, hC, hee, hvs, hres⟩ : ∃ ee sC vs, execE tb fi (gls f) (runFE tb gls n) n c ⟨put (gls f) k (.pv p') sB.e, sB.m⟩ = some (ee, sC) ∧ (ee = .normal ∨ ee = .ret) ∧ resultsE tb (gls f) fi.ntmps sC fi.results = some vs ∧ packed (if fi.raw then vs else vs.map nrm) = .pv (.bool true) := by
    revert h3
    generalize execE tb fi (gls f) (runFE tb gls n) n c ⟨put (gls f) k (.pv p') sB.e, sB.m⟩ = q
    intro h3
    unfold finishE at h3
    split at h3
    · rename_i s
      split at h3
      · split at h3
        · rename_i vs hvs
          obtain ⟨N, hN⟩ := resB_some h3
          simp only [Option.some.injEq, Prod.mk.injEq] at hN
          exact ⟨_, s, vs, rfl, .inl rfl, hvs, hN.1⟩
        · cases h3
      · cases h3
    · rename_i s
      split at h3
      · split at h3
        · rename_i vs hvs
          obtain ⟨N, hN⟩ := resB_some h3
          simp only [Option.some.injEq, Prod.mk.injEq] at hN
          exact ⟨_, s, vs, rfl, .inr rfl, hvs, hN.1⟩
        · cases h3
      · cases h3
    · cases h3
  obtain ⟨TC, kC, lC⟩ := execE_sound less n c _ _ _ _ lB' hC
  have hvs' := resultsE_sound lC hvs
  rw [hb] at g2 g5
  simp only [codeOk, Bool.and_eq_true] at g5
  have S0 := sim_start w
  have hlen2 := F2.length hx
  have hT0 : RL Bnd.none_ (fun _ _ => none) (ps.map .pv ++ List.replicate (fi.ntmps - (ps.map AV.pv).length) (AV.pv PV.top)) (xs ++ Array.replicate (F0.ntmps - xs.size) undef).toList := by
    rw [Array.toList_append, Array.toList_replicate, g3]
    have : (ps.map AV.pv).length = xs.size := by rw [List.length_map, hlen2]; exact Array.length_toList
    rw [this]
    exact F2.append (RL.of_pv hx) (F2.replicate (R.top _) _)
  refine calls_of_wp g1 g2 ?_
  refine wp_seq (exec_wp S hrun hm (β0 := Bnd.none_) (F0 := fun _ _ => none) (M0 := []) (w0 := w) (d0 := []) S0 n a g5.1 kA ⟨⟨_, _, .refl .., S0, hT0⟩, rfl⟩ (Nat.le_refl _) fun a1 w1 I1 _ => ?_)
  refine wp_seq (exec_wp S hrun hm S0 n b g5.2.1 kB I1 (Nat.zero_le _) fun a2 w2 I2 _ => ?_)
  have I2' : Mid Bnd.none_ (fun _ _ => none) [] w [] ⟨putT TB (some k) (.pv p'), sB.m⟩ a2 w2 := by
    obtain ⟨β, F, X, S2, hT⟩ := I2.ex
    refine ⟨⟨β, F, X, S2, F2.of_get (by simp only [putT, List.length_set]; exact F2.length hT) fun i h1 h2 => ?_⟩, I2.df⟩
    have h1' : i < TB.length := by simpa [putT] using h1
    have hi := F2.get hT i h1' h2
    simp only [putT, List.getElem_set]
    split
    · rename_i hki
      subst hki
      rw [List.getElem?_eq_getElem h1', Option.some.injEq] at hTk
      rw [hTk] at hi
      generalize a2.tmps.toList[k] = v at hi
      cases hi with
      | pv hi => exact .pv (habs F v hi)
    · exact hi
  refine exec_wp S hrun hm S0 n c g5.2.2 kC I2' (Nat.zero_le _) fun a3 w3 I3 _ => ?_
  obtain ⟨β', F', X, S', hT'⟩ := I3.ex
  obtain ⟨ys, k1, k2⟩ := resultsV_R S.ty hT' S' hvs'
  have k3 := run_results (fn := F0) (by rw [g4]; exact k1)
  have k4 : RL β' F' (if fi.raw then vs else vs.map nrm) ys := by
    split
    · exact k2
    · exact k2.nrms''
  have k5 := packed_R k4
  rw [hres] at k5
  have hv : (if h : ys.length = 1 then ys[0] else .tuple ys.toArray) = .bool true := by
    revert k5
    generalize (if h : ys.length = 1 then ys[0] else Value.tuple ys.toArray) = v
    intro k5
    cases k5 with
    | pv r => cases r; rfl
  rw [hv] at k3
  rcases hee with rfl | rfl
  · exact ⟨I3.df, _, k3, rfl, X.os, X.tape, X.output, X.size, fun b hb => X.heap b hb own_none⟩
  · exact ⟨I3.df, _, k3, rfl, X.os, X.tape, X.output, X.size, fun b hb => X.heap b hb own_none⟩
/-! ### A body in a row of parts -/
def seqs : List Code → Code → Code
  | [], c => c
  | a :: r, c => .seq a (seqs r c)
noncomputable def runPre (tb : Tabs) (fi : FnI) (gl : Nat) (run : CallF) (lim : Nat) : List Code → StE → Option StE
  | [], s => some s
  | a :: r, s => match execE tb fi gl run lim a s with
    | some (.normal, s') => runPre tb fi gl run lim r s'
    | _ => none
theorem pre_wp {P : Program} {tb : Tabs} (S : Sound P tb) {fi : FnI} {gl : Nat} {run' run : CallF} (less : Less run' run) (hrun : RunOk P run) (hm : P.follows .mixedOrders = true) {w0 : World} {G : Fr} (hG : ∀ b o v, G b o = some v → w0.cell? ⟨b, o, none⟩ = some v) (n : Nat) {c : Code} {Q : Exit → Act → World → Prop} :
    ∀ (pre : List Code) {s s' : StE} {T : List AV} {a : Act} {w : World}, Like gl fi.ntmps s.e T → runPre tb fi gl run' n pre s = some s' → codeOk fi (seqs pre c) = true → Mid Bnd.none_ G [] w0 [] ⟨T, s.m⟩ a w →
    (∀ a' w', Mid Bnd.none_ G [] w0 [] ⟨toL gl fi.ntmps s'.e, s'.m⟩ a' w' → c.wp P Q a' w') → (seqs pre c).wp P Q a w
  | [], s, s', T, a, w, hl, h, _, I, k => by
    simp only [runPre, Option.some.injEq] at h
    subst h
    refine k a w ?_
    rw [hl.toL]
    exact I
  | x :: r, s, s', T, a, w, hl, h, hok, I, k => by
    simp only [runPre] at h
    split at h
    · rename_i s1 h1
      obtain ⟨T1, k1, l1⟩ := execE_sound less n x _ _ _ _ hl h1
      simp only [seqs, codeOk, Bool.and_eq_true] at hok
      exact wp_seq (exec_wp S hrun hm (sim_startF w0 G hG) n x hok.1 k1 I (Nat.zero_le _) fun a1 w1 I1 _ => pre_wp S less hrun hm hG n r l1 h hok.2 I1 k)
    · cases h
theorem RL.cutAll {β : Bnd} {F : Fr} (lv m : Nat) : ∀ (l : List AV) (k : Nat) (vs : List Value), RL β F l vs → RL β F (cutAll lv m k l) vs
  | [], k, vs, h => by cases h; exact .nil
  | x :: r, k, vs, h => by
    cases h with
    | cons hr ht =>
      refine .cons ?_ (RL.cutAll lv m r _ _ ht)
      unfold cutTo
      split
      · unfold topUnless
        split
        · exact hr
        · exact R.top _
      · exact R.top _
/-- What a body answers, at the end. -/
def endT (tb : Tabs) (fi : FnI) (x : Option (Ex × St)) : Bool :=
  match x with
  | some (.normal, s) | some (.ret, s) => match resultsV tb s fi.results with
    | some vs => (match packed (if fi.raw then vs else vs.map nrm) with | .pv (.bool b) => b | _ => false)
    | none => false
  | _ => false
theorem endT_some {tb : Tabs} {fi : FnI} {x : Option (Ex × St)} (h : endT tb fi x = true) : ∃ e s vs, x = some (e, s) ∧ (e = .normal ∨ e = .ret) ∧ resultsV tb s fi.results = some vs ∧ packed (if fi.raw then vs else vs.map nrm) = .pv (.bool true) := by
  have fin : ∀ (s : St), (match resultsV tb s fi.results with
    | some vs => (match packed (if fi.raw then vs else vs.map nrm) with | .pv (.bool b) => b | _ => false)
    | none => false) = true → ∃ vs, resultsV tb s fi.results = some vs ∧ packed (if fi.raw then vs else vs.map nrm) = .pv (.bool true) := by
    intro s h
    split at h
    · rename_i vs hvs
      refine ⟨vs, hvs, ?_⟩
      revert h
      generalize packed (if fi.raw then vs else vs.map nrm) = q
      intro h
      split at h
      · subst h; rfl
      · cases h
    · cases h
  unfold endT at h
  split at h
  · rename_i s
    obtain ⟨vs, h1, h2⟩ := fin s h
    exact ⟨_, s, vs, rfl, .inl rfl, h1, h2⟩
  · rename_i s
    obtain ⟨vs, h1, h2⟩ := fin s h
    exact ⟨_, s, vs, rfl, .inr rfl, h1, h2⟩
  · cases h
theorem calls_true_weak {P : Program} {tb : Tabs} (S : Sound P tb) (hf : ∀ f fi, tb.fn f = some fi → FnOk P f fi) (hm : P.follows .mixedOrders = true) {gls : FuncId → Nat} {n : Nat} {f : FuncId} {fi : FnI} {pre : List Code} {c : Code} {sB : StE} {ps : List PV} {lv m k : Nat} {p p' : PV} {T2 : List AV}
    (hfi : tb.fn f = some fi) (hb : fi.body = seqs pre c) (hlen : ps.length ≤ fi.ntmps)
    (h1 : runPre tb fi (gls f) (runFE tb gls n) n pre (startE gls f fi (ps.map .pv) []) = some sB)
    (hT : (cutAll lv m 0 (toL (gls f) fi.ntmps sB.e)).set k (.pv p') = T2)
    (hk : (toL (gls f) fi.ntmps sB.e)[k]? = some (.pv p)) (habs : ∀ (F : Fr) (v : Value), RP F p v → RP F p' v)
    (h3 : endT tb fi (execC tb fi (runF tb n) n c ⟨T2, sB.m⟩) = true)
    {xs : Array Value} {G : Fr} (hx : RPL G ps xs.toList) (w : World) (hG : ∀ b o v, G b o = some v → w.cell? ⟨b, o, none⟩ = some v) : Calls P f xs w fun e w' => e = .returned (.bool true) ∧ After w w' := by
  obtain ⟨F0, g1, g2, g3, g4, g5, _, _⟩ := hf f fi hfi
  have hrun : RunOk P (runF tb n) := run_sound S (fnsOk_of hf) hm n
  have less := runFE_less tb gls n
  have l0 : Like (gls f) fi.ntmps (startE gls f fi (ps.map .pv) []).e (ps.map .pv ++ List.replicate (fi.ntmps - (ps.map AV.pv).length) (AV.pv PV.top)) :=
    ⟨by simp; omega, putArgs_get _ _ 0 _ _ (fun j hj => by simp only [Nat.zero_add, List.getD, List.getElem?_append_left hj, List.getElem?_eq_getElem hj]; rfl) (get_ofL _ _)⟩
  obtain ⟨ee, sC, vs, kC, hee, hvs', hres⟩ := endT_some h3
  rw [hb] at g2 g5
  have S0 := sim_startF w G hG
  have hlen2 := F2.length hx
  have hT0 : RL Bnd.none_ G (ps.map .pv ++ List.replicate (fi.ntmps - (ps.map AV.pv).length) (AV.pv PV.top)) (xs ++ Array.replicate (F0.ntmps - xs.size) undef).toList := by
    rw [Array.toList_append, Array.toList_replicate, g3]
    have : (ps.map AV.pv).length = xs.size := by rw [List.length_map, hlen2]; exact Array.length_toList
    rw [this]
    exact F2.append (RL.of_pv hx) (F2.replicate (R.top _) _)
  have hcc : codeOk fi c = true := by
    have : ∀ (l : List Code), codeOk fi (seqs l c) = true → codeOk fi c = true := by
      intro l
      induction l with
      | nil => exact id
      | cons a r ih => intro h; simp only [seqs, codeOk, Bool.and_eq_true] at h; exact ih h.2
    exact this pre g5
  refine calls_of_wp g1 g2 ?_
  refine pre_wp S less hrun hm hG n pre l0 h1 g5 ⟨⟨_, _, .refl .., S0, hT0⟩, rfl⟩ fun a2 w2 I2 => ?_
  have I2' : Mid Bnd.none_ G [] w [] ⟨T2, sB.m⟩ a2 w2 := by
    obtain ⟨β, F, X, S2, hT'⟩ := I2.ex
    have hc := RL.cutAll lv m _ 0 _ hT'
    refine ⟨⟨β, F, X, S2, ?_⟩, I2.df⟩
    rw [← hT]
    refine F2.of_get (by rw [List.length_set]; exact F2.length hc) fun i h1 h2 => ?_
    have h1' : i < (cutAll lv m 0 (toL (gls f) fi.ntmps sB.e)).length := by rw [List.length_set] at h1; exact h1
    have hi := F2.get hc i h1' h2
    rw [List.getElem_set]
    split
    · rename_i hki
      subst hki
      have h1'' : k < (toL (gls f) fi.ntmps sB.e).length := by rw [cutAll_length] at h1'; exact h1'
      have hj := F2.get hT' k h1'' h2
      rw [List.getElem?_eq_getElem h1'', Option.some.injEq] at hk
      rw [hk] at hj
      cases hj with
      | pv hj => exact .pv (habs F _ hj)
    · exact hi
  refine exec_wp S hrun hm S0 n c hcc kC I2' (Nat.zero_le _) fun a3 w3 I3 _ => ?_
  obtain ⟨β', F', X, S', hT'⟩ := I3.ex
  obtain ⟨ys, k1, k2⟩ := resultsV_R S.ty hT' S' hvs'
  have k3 := run_results (fn := F0) (by rw [g4]; exact k1)
  have k4 : RL β' F' (if fi.raw then vs else vs.map nrm) ys := by
    split
    · exact k2
    · exact k2.nrms''
  have k5 := packed_R k4
  rw [hres] at k5
  have hv : (if h : ys.length = 1 then ys[0] else .tuple ys.toArray) = .bool true := by
    revert k5
    generalize (if h : ys.length = 1 then ys[0] else Value.tuple ys.toArray) = v
    intro k5
    cases k5 with
    | pv r => cases r; rfl
  rw [hv] at k3
  rcases hee with rfl | rfl
  · exact ⟨I3.df, _, k3, rfl, X.os, X.tape, X.output, X.size, fun b hb => X.heap b hb own_none⟩
  · exact ⟨I3.df, _, k3, rfl, X.os, X.tape, X.output, X.size, fun b hb => X.heap b hb own_none⟩
/-- A loop's round, out of the quick machine. -/
noncomputable def roundT (tb : Tabs) (fi : FnI) (gls : FuncId → Nat) (f n m : Nat) (b : Code) (s : St) : Option St :=
  match execE tb fi (gls f) (runFE tb gls n) n b ⟨ofL s.t, s.m⟩ with
  | some (.normal, s') => trim fi.live m ⟨toL (gls f) fi.ntmps s'.e, s'.m⟩
  | _ => none
theorem loop_round {tb : Tabs} {fi : FnI} {gls : FuncId → Nat} {f n m k : Nat} {b : Code} {s s' : St} (hc : fi.trim = true) (hl : s.t.length = fi.ntmps) (h : roundT tb fi gls f n m b s = some s') :
    loopN (execC tb fi (runF tb n) n b) fi.trim fi.live m (k + 1) s = loopN (execC tb fi (runF tb n) n b) fi.trim fi.live m k s' := by
  unfold roundT at h
  split at h
  · rename_i s1 h1
    obtain ⟨T', k1, k2⟩ := execE_sound (runFE_less tb gls n) n b _ _ _ s.t (Like.ofL (gls f) hl) h1
    rw [k2.toL] at h
    simp only [loopN, k1, hc, if_true, h]
  · cases h

theorem abs_sym {x c : Int} (h : x = SymV.ν + c) (F : Fr) (v : Value) (r : RP F (.int .i64 x) v) : RP F (.sym c) v := by
  cases r
  rw [h]
  exact .sym c
def fstC : Code → Code
  | .seq a _ => a
  | c => c
def sndC : Code → Code
  | .seq _ b => b
  | c => c
end Go.Vm
