/- Calls that are tables or contracts: what makes them primitives of the machine; rows out of the machine's own runs. -/
import Derived.Test.YtiajhfodfhmfaaaGreatDoorWmTabs
import Derived.Lib.ConvBytes
import Derived.Lib.Bytealg
import Derived.Lib.Atoi
set_option linter.unusedVariables false
set_option linter.unusedSimpArgs false
set_option linter.unusedSectionVars false
namespace Go.Vm
variable [SymB] [SymV]

theorem primOk_of {P : Program} {f : FuncId} {g : List PV → Option PV} (H : ∀ ps r, g ps = some r → ∀ (F : Fr) (w : World) (xs : Array Value), RPL F ps xs.toList → ∃ v, RP F r v ∧ Calls P f xs w fun e w' => e = .returned v ∧ w'.os = w.os ∧ w'.tape = w.tape ∧ w'.output = w.output ∧ w.heap.size ≤ w'.heap.size ∧ ∀ b, b < w.heap.size → w'.heap[b]? = w.heap[b]?) : PrimOk P f g := by
  intro ps r F w xs hg hx S
  obtain ⟨v, hv, hc⟩ := H ps r hg F w xs hx
  refine Calls.mono hc fun e w' h => ?_
  obtain ⟨rfl, ho, ht, hout, hsz, hh⟩ := h
  have B := S.beside (F' := F) (fun _ _ _ h => h) (fun b o v h => by
    have h1 := S.frz b o v h
    have h2 := World.block_lt_of_cell? w ⟨b, o, none⟩ h1
    rw [World.cell?_of_block (a := ⟨b, o, none⟩) (hh b h2)]
    exact h1) ho ht hout hsz hh (fun b o h1 h2 => absurd h1 h2)
  exact ⟨Bnd.none_, F, B.2, B.1, .pv hv⟩

theorem primOk_same {P : Program} {f : FuncId} {g : List PV → Option PV} (H : ∀ ps r, g ps = some r → ∀ (F : Fr) (w : World) (xs : Array Value), RPL F ps xs.toList → ∃ v, RP F r v ∧ Calls P f xs w fun e w' => e = .returned v ∧ w' = w) : PrimOk P f g :=
  primOk_of fun ps r hg F w xs hx => by
    obtain ⟨v, hv, hc⟩ := H ps r hg F w xs hx
    exact ⟨v, hv, Calls.mono hc fun e w' h => by obtain ⟨rfl, rfl⟩ := h; exact ⟨rfl, rfl, rfl, rfl, Nat.le_refl _, fun _ _ => rfl⟩⟩

/-! ### Three functions of the library -/
def cmpP : List PV → Option PV
  | [.str a, .str b] => some (.int .i64 (Lib.compareBytes a b))
  | _ => none
def idxFrom : List UInt8 → UInt8 → Nat → Int
  | [], _, _ => -1
  | b :: l, c, n => if b == c then n else idxFrom l c (n + 1)
theorem idxFrom_eq : ∀ (l : List UInt8) (c : UInt8) (n : Nat), idxFrom l c n = if Lib.indexByte l c = -1 then -1 else Lib.indexByte l c + n
  | [], c, n => rfl
  | b :: l, c, n => by
    have e : Lib.indexByte (b :: l) c = if b == c then 0 else if Lib.indexByte l c == -1 then -1 else Lib.indexByte l c + 1 := rfl
    have := Lib.indexByte_ge l c
    rw [e]
    simp only [idxFrom]
    generalize hz : Lib.indexByte l c = z at *
    by_cases h : (b == c) = true
    · simp only [h, if_true]; rw [if_neg (by omega)]; omega
    · simp only [h, Bool.false_eq_true, if_false]
      rw [idxFrom_eq l c (n + 1), hz]
      by_cases h1 : z = -1
      · simp [h1]
      · have h2 : (z == -1) = false := by simpa using h1
        simp only [h2, h1, Bool.false_eq_true, if_false]
        rw [if_neg (by omega)]
        omega
def idxP : List PV → Option PV
  | [.str s, .int .u8 c] => some (.int .i64 (idxFrom s c.toNat.toUInt8 0))
  | _ => none
def atoiP : List PV → Option PV
  | [.str s] => if s.length ≤ 18 then (Lib.atoi s).map fun n => .tup [.int .i64 n, .nili] else none
  | _ => none

theorem two_args {F : Fr} {a b : PV} {xs : Array Value} (h : RPL F [a, b] xs.toList) : ∃ x y, xs = #[x, y] ∧ RP F a x ∧ RP F b y := by
  generalize hl : xs.toList = l at h
  cases h with
  | cons h1 t => cases t with
    | cons h2 t => cases t; exact ⟨_, _, Array.ext' (by simpa using hl), h1, h2⟩
theorem one_arg {F : Fr} {a : PV} {xs : Array Value} (h : RPL F [a] xs.toList) : ∃ x, xs = #[x] ∧ RP F a x := by
  generalize hl : xs.toList = l at h
  cases h with
  | cons h1 t => cases t; exact ⟨_, Array.ext' (by simpa using hl), h1⟩

theorem cmp_ok {P : Program} {f : FuncId} (H : ∀ (a b : ByteArray) (w : World), Calls P f #[.string a, .string b] w fun e w' => e = .returned (.int .i64 (Lib.compareBytes a.data.toList b.data.toList)) ∧ w' = w) : PrimOk P f cmpP :=
  primOk_same fun ps r hg F w xs hx => by
    unfold cmpP at hg
    split at hg
    · obtain ⟨x, y, rfl, h1, h2⟩ := two_args hx
      cases h1; cases h2
      simp only [Option.some.injEq] at hg
      subst hg
      exact ⟨_, .int .., H _ _ w⟩
    · simp at hg
theorem idx_ok {P : Program} {f : FuncId} (H : ∀ (s : ByteArray) (c : Int) (w : World), Calls P f #[.string s, .int .u8 c] w fun e w' => e = .returned (.int .i64 (Lib.indexByte s.data.toList c.toNat.toUInt8)) ∧ w' = w) : PrimOk P f idxP :=
  primOk_same fun ps r hg F w xs hx => by
    unfold idxP at hg
    split at hg
    · obtain ⟨x, y, rfl, h1, h2⟩ := two_args hx
      cases h1; cases h2
      simp only [Option.some.injEq] at hg
      subst hg
      rw [idxFrom_eq]
      refine ⟨_, .int .., ?_⟩
      have e : ∀ z : Int, (if z = -1 then -1 else z + ((0 : Nat) : Int)) = z := fun z => by split <;> omega
      rw [e]
      exact H _ _ w
    · simp at hg
theorem atoi_ok {P : Program} {f : FuncId} {q : TypeId} (H : ∀ (s : ByteArray) (n : Int) (hl : s.size ≤ 18) (h : Lib.atoi s.data.toList = some n) (w : World), Calls P f #[.string s] w fun e w' => e = .returned (.tuple #[.int .i64 n, .nilIface]) ∧ ∃ t, w' = Lib.bytesWorld w q t) : PrimOk P f atoiP :=
  primOk_of fun ps r hg F w xs hx => by
    unfold atoiP at hg
    split at hg
    · obtain ⟨x, rfl, h1⟩ := one_arg hx
      cases h1
      rename_i s
      split at hg
      · rename_i hlen
        cases hat : Lib.atoi s.data.toList with
        | none => simp [hat] at hg
        | some n =>
          simp only [hat, Option.map_some, Option.some.injEq] at hg
          subst hg
          refine ⟨_, .tup (vs := #[.int .i64 n, .nilIface]) rfl fun i h1 h2 => ?_, Calls.mono (H s n (by simpa using hlen) hat w) fun e w' h => ?_⟩
          · match i, h1 with
            | 0, _ => exact .int ..
            | 1, _ => exact .nili
          · obtain ⟨rfl, t, rfl⟩ := h
            exact ⟨rfl, rfl, rfl, rfl, by rw [Lib.bytesWorld_size]; omega, fun b hb => Lib.bytesWorld_at_old w q t b hb⟩
      · simp at hg
    · simp at hg

/-! ### Rows -/
/-- What is proved of one call. -/
def RowOk (P : Program) (f : FuncId) (ps : List PV) (r : PV) : Prop := ∀ (F : Fr) (w : World) (xs : Array Value), RPL F ps xs.toList → Sim Bnd.none_ F [] w → CallsTo P f xs Bnd.none_ F [] w (.pv r) []

/-- Equality of values, told where it is (nothing else is told). -/
theorem beqL_eq {a b : List PV} (h : PV.beqL a b = true) : a = b := PV.beqL_eq a b h
def lookRow (ps : List PV) : List (List PV × PV) → Option PV
  | [] => none
  | (qs, r) :: l => if PV.beqL qs ps then some r else lookRow ps l
theorem lookRow_ok {P : Program} {f : FuncId} {l : List (List PV × PV)} (h : ∀ x ∈ l, RowOk P f x.1 x.2) : PrimOk P f fun ps => lookRow ps l := by
  intro ps r F w xs hg hx S
  induction l with
  | nil => simp [lookRow] at hg
  | cons x l ih =>
    simp only [lookRow] at hg
    split at hg
    · rename_i he
      simp only [Option.some.injEq] at hg
      subst hg
      have := beqL_eq he
      subst this
      exact h x List.mem_cons_self F w xs hx S
    · exact ih (fun y hy => h y (List.mem_cons_of_mem _ hy)) hg

/-- A row out of a run. -/
theorem rowOk_run {P : Program} {run : CallF} (R : RunOk P run) {f : FuncId} {ps : List PV} {r : PV} (h : run f (ps.map .pv) [] = some (.pv r, [])) : RowOk P f ps r :=
  fun F w xs hx S => R f _ [] (.pv r) [] Bnd.none_ F w xs h (RL.of_pv hx) S
def frozenP : Option (AV × Mem) → Option PV
  | some (r, N) => match freeze 5 N r with
    | some (v, _) => some (match r with | .pv u => u | _ => v)
    | none => none
  | none => none
theorem rowOk_frozen {P : Program} {run : CallF} (R : RunOk P run) {f : FuncId} {ps : List PV} {r : PV} (h : frozenP (run f (ps.map .pv) []) = some r) : RowOk P f ps r := by
  intro F w xs hx S
  unfold frozenP at h
  split at h
  · rename_i r0 N hrun
    split at h
    · rename_i v N' hfr
      refine (R f _ [] r0 N Bnd.none_ F w xs hrun (RL.of_pv hx) S).mono fun β' F' w' u X S' r' => ?_
      obtain ⟨F2', K, r2⟩ := freeze_sound 5 N _ _ N' F' _ hfr r' S'
      obtain ⟨S3, X3⟩ := S.apart (X.trans K.ext) K.sim
      refine ⟨Bnd.none_, F2', X3, S3, ?_⟩
      simp only [Option.some.injEq] at h
      subst h
      split
      · rename_i u
        cases r' with
        | pv r' => exact .pv (r'.mono K.fr)
      · exact .pv r2
    · simp at h
  · simp at h

/-! ### Functions, one by one -/
def FnOk (P : Program) (f : FuncId) (fi : FnI) : Prop := ∃ F0, P.funcs[f]? = some F0 ∧ F0.body = some fi.body ∧ F0.ntmps = fi.ntmps ∧ F0.results.toList = fi.results ∧ codeOk fi fi.body = true ∧ (F0.name == "runtime.NumGoroutine") = false ∧ F0.body.isNone = false
theorem FnOk.enters {P : Program} {f : FuncId} {fi : FnI} (h : FnOk P f fi) : Enters P f := by
  obtain ⟨F0, h1, _, _, _, _, h6, h7⟩ := h
  exact ⟨F0, h1, h6, h7⟩
theorem fnsOk_of {P : Program} {tb : Tabs} (h : ∀ f fi, tb.fn f = some fi → FnOk P f fi) : FnsOk P tb := fun f fi hf => by
  obtain ⟨F0, h1, h2, h3, h4, h5, _, _⟩ := h f fi hf
  exact ⟨F0, h1, h2, h3, h4, h5⟩
section
variable {Q : Nat → FnI → Prop} {lo hi f : Nat}
theorem nd {m : Nat} {a b : Option FnI} (ha : lo ≤ f → f < m → ∀ x, a = some x → Q f x) (hb : m ≤ f → f < hi → ∀ x, b = some x → Q f x) (h1 : lo ≤ f) (h2 : f < hi) : ∀ x, (bif Nat.blt f m then a else b) = some x → Q f x := by
  intro x hx
  cases hc : Nat.blt f m with
  | true =>
    rw [hc] at hx
    exact ha h1 (by rw [← Nat.blt_eq]; exact hc) x hx
  | false =>
    rw [hc] at hx
    exact hb (by rw [← Bool.not_eq_true, Nat.blt_eq] at hc; omega) h2 x hx
theorem lf {v : FnI} (h : Q lo v) (h1 : lo ≤ f) (h2 : f < lo + 1) : ∀ x, some v = some x → Q f x := by
  intro x hx
  cases hx
  have : f = lo := by omega
  subst this
  exact h
theorem nn (h1 : lo ≤ f) (h2 : f < hi) : ∀ x, (none : Option FnI) = some x → Q f x := by
  intro x hx
  cases hx
end
/-- Rows beside primitives. -/
theorem all_nil {P : Program} {f : FuncId} : ∀ x ∈ ([] : List (List PV × PV)), RowOk P f x.1 x.2 := fun _ h => by simp at h
theorem all_cons {P : Program} {f : FuncId} {ps : List PV} {r : PV} {l : List (List PV × PV)} (h : RowOk P f ps r) (t : ∀ x ∈ l, RowOk P f x.1 x.2) : ∀ x ∈ (ps, r) :: l, RowOk P f x.1 x.2 := by
  intro x hx
  rcases List.mem_cons.1 hx with rfl | hx
  · exact h
  · exact t x hx
end Go.Vm
