/- From runs of the machine to calls of the program, with no word of the machine. -/
import Derived.Test.YtbkokdopdcegkaaGreatDoorVmClone
set_option linter.unusedVariables false
set_option linter.unusedSimpArgs false
namespace Go.Vm

section
variable {α : Type} {Q : Nat → α → Prop} {lo hi f : Nat}
theorem ndA {m : Nat} {a b : Option α} (ha : lo ≤ f → f < m → ∀ x, a = some x → Q f x) (hb : m ≤ f → f < hi → ∀ x, b = some x → Q f x) (h1 : lo ≤ f) (h2 : f < hi) : ∀ x, (bif Nat.blt f m then a else b) = some x → Q f x := by
  intro x hx
  cases hc : Nat.blt f m with
  | true =>
    rw [hc] at hx
    exact ha h1 (by rw [← Nat.blt_eq]; exact hc) x hx
  | false =>
    rw [hc] at hx
    exact hb (by rw [← Bool.not_eq_true, Nat.blt_eq] at hc; omega) h2 x hx
theorem lfA {v : α} (h : Q lo v) (h1 : lo ≤ f) (h2 : f < lo + 1) : ∀ x, some v = some x → Q f x := by
  intro x hx
  cases hx
  have : f = lo := by omega
  subst this
  exact h
theorem nnA (h1 : lo ≤ f) (h2 : f < hi) : ∀ x, (none : Option α) = some x → Q f x := by
  intro x hx
  cases hx
/-- A table that ends at a number. -/
theorem topA {n : Nat} {t : Option α} (h : 0 ≤ f → f < n → ∀ x, t = some x → Q f x) : ∀ x, (bif Nat.blt f n then t else none) = some x → Q f x := by
  intro x hx
  cases hc : Nat.blt f n with
  | true =>
    rw [hc] at hx
    exact h (Nat.zero_le f) (by rw [← Nat.blt_eq]; exact hc) x hx
  | false => rw [hc] at hx; cases hx
end
theorem nocl {fn : FnI} {X : Prop} (e : fn.clone = false) (h : fn.clone = true) : X := by rw [e] at h; cases h

theorem sound_of {P : Program} {tb : Tabs} (ht : TabsTy P tb) (hp : ∀ f g, tb.prim f = some g → PrimOk P f g ∧ Enters P f) (hf : ∀ f fi, tb.fn f = some fi → FnOk P f fi) (hc : ∀ f fi, tb.fn f = some fi → fi.clone = true → CloneOk P tb fi f) : Sound P tb :=
  ⟨ht, ⟨fun f g h => (hp f g h).1, hc, fun f h => by
    rcases h with h | h
    · obtain ⟨g, hg⟩ := Option.isSome_iff_exists.1 h
      exact (hp f g hg).2
    · obtain ⟨fi, hfi⟩ := Option.isSome_iff_exists.1 h
      exact (hf f fi hfi).enters⟩⟩
theorem runOk_of {P : Program} {tb : Tabs} (S : Sound P tb) (hf : ∀ f fi, tb.fn f = some fi → FnOk P f fi) (hm : P.follows .mixedOrders = true) (gls : FuncId → Nat) (n : Nat) : RunOk P (runFE tb gls n) :=
  fun f args M r N β F w xs h => run_sound S (fnsOk_of hf) hm n f args M r N β F w xs (runFE_less tb gls n f args M (r, N) h)

/-! ### True -/
def resB : Option (AV × Mem) → Bool
  | some (.pv (.bool b), _) => b
  | _ => false
theorem resB_some {x : Option (AV × Mem)} (h : resB x = true) : ∃ N, x = some (.pv (.bool true), N) := by
  unfold resB at h
  split at h
  · subst h; exact ⟨_, rfl⟩
  · cases h

theorem sim_start (w : World) : Sim Bnd.none_ (fun _ _ => none) [] w :=
  ⟨fun b o v h => (by cases h), fun g es fz bd h => (by simp at h), fun g es b h => (by simp at h), fun g n bd h => (by cases h), fun g b h => (by cases h), fun g g' b h => (own_none (.inl ⟨g, h⟩)).elim, fun g g' b h => (by cases h)⟩

/-- What is behind a call that has made new blocks alone. -/
structure After (w w' : World) : Prop where
  os : w'.os = w.os
  tape : w'.tape = w.tape
  output : w'.output = w.output
  size : w.heap.size ≤ w'.heap.size
  heap : ∀ b, b < w.heap.size → w'.heap[b]? = w.heap[b]?

theorem calls_true {P : Program} {run : CallF} (R : RunOk P run) {f : FuncId} {ps : List PV} (h : resB (run f (ps.map .pv) []) = true) {xs : Array Value} (hx : RPL (fun _ _ => none) ps xs.toList) (w : World) :
    Calls P f xs w fun e w' => e = .returned (.bool true) ∧ After w w' := by
  obtain ⟨N, hN⟩ := resB_some h
  refine Calls.mono (R f _ [] _ N Bnd.none_ _ w xs hN (RL.of_pv hx) (sim_start w)) fun e w' h => ?_
  cases e with
  | returned v =>
    obtain ⟨β', F', X, S', r⟩ := h
    have hv : v = .bool true := by cases r with | pv r => cases r; rfl
    subst hv
    exact ⟨rfl, X.os, X.tape, X.output, X.size, fun b hb => X.heap b hb own_none⟩
  | panicked c => exact h.elim
  | outgrown => exact h.elim

/-! ### A body in parts -/
noncomputable def finishE (tb : Tabs) (gls : FuncId → Nat) (f : FuncId) (fi : FnI) (args : List AV) (x : Option (Ex × StE)) : Option (AV × Mem) :=
  match x with
  | some (.normal, s) | some (.ret, s) => if args.length ≤ fi.ntmps then match resultsE tb (gls f) fi.ntmps s fi.results with
    | some vs => some (packed (if fi.raw then vs else vs.map nrm), s.m)
    | none => none
    else none
  | _ => none
noncomputable def startE (gls : FuncId → Nat) (f : FuncId) (fi : FnI) (args : List AV) (M : Mem) : StE := ⟨putArgs (gls f) 0 args (ofL (args ++ List.replicate (fi.ntmps - args.length) (.pv .top))), M⟩
theorem runFE_eq {tb : Tabs} {gls : FuncId → Nat} {n : Nat} {f : FuncId} {fi : FnI} (hf : tb.fn f = some fi) (args : List AV) (M : Mem) : runFE tb gls (n + 1) f args M = finishE tb gls f fi args (execE tb fi (gls f) (runFE tb gls n) n fi.body (startE gls f fi args M)) := by
  simp only [runFE, hf, finishE, startE]
  rfl
theorem runFE_two {tb : Tabs} {gls : FuncId → Nat} {n : Nat} {f : FuncId} {fi : FnI} {a b c : Code} {s1 s2 : StE} {args : List AV} {M : Mem} (hf : tb.fn f = some fi) (hb : fi.body = .seq a (.seq b c)) (h1 : execE tb fi (gls f) (runFE tb gls n) n a (startE gls f fi args M) = some (.normal, s1))
    (h2 : execE tb fi (gls f) (runFE tb gls n) n b s1 = some (.normal, s2)) : runFE tb gls (n + 1) f args M = finishE tb gls f fi args (execE tb fi (gls f) (runFE tb gls n) n c s2) := by
  rw [runFE_eq hf, hb]
  simp only [execE, h1, h2]
def fstC : Code → Code
  | .seq a _ => a
  | c => c
def sndC : Code → Code
  | .seq _ b => b
  | c => c
end Go.Vm
