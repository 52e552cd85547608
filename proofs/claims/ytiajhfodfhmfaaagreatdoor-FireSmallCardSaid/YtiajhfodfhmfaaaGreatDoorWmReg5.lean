/- Regions that have no whole order: the steps. -/
import Derived.Test.YtiajhfodfhmfaaaGreatDoorWmReg4
set_option linter.unusedVariables false
set_option linter.unusedSimpArgs false
set_option linter.unusedSectionVars false
namespace Go.Vm
variable [SymB] [SymV]

theorem looks_operand {ops : Array Oper} {o : Oper} {t : Nat} (h : (Operand.tmp t) ∈ o.op.operands) : t ∈ o.looksAt ops :=
  List.mem_append_left _ (List.mem_filterMap.2 ⟨.tmp t, by simpa using h, rfl⟩)
theorem wantedA_congr {ops : Array Oper} {o : Oper} {T T' : List AV} (hl : T.length = T'.length) (h : ∀ d ∈ o.looksAt ops, T.getD d (.pv .top) = T'.getD d (.pv .top)) : wantedA ops T o = wantedA ops T' o := by
  unfold wantedA
  cases hg : o.guard with
  | none => rfl
  | some gb =>
    obtain ⟨j, b⟩ := gb
    dsimp only
    cases hj : ops[j]? with
    | none => rfl
    | some oj =>
      dsimp only
      cases hd : oj.dst with
      | none => rfl
      | some d =>
        dsimp only
        have h1 := h d (by simp [Oper.looksAt, hg, hj, hd])
        have : T[d]? = T'[d]? := by
          by_cases hlt : d < T.length
          · simp only [List.getD_eq_getElem?_getD, List.getElem?_eq_getElem hlt, List.getElem?_eq_getElem (hl ▸ hlt), Option.getD_some] at h1
            rw [List.getElem?_eq_getElem hlt, List.getElem?_eq_getElem (hl ▸ hlt), h1]
          · have a1 : T.length ≤ d := Nat.le_of_not_lt hlt
            have a2 : T'.length ≤ d := hl ▸ a1
            rw [List.getElem?_eq_none a1, List.getElem?_eq_none a2]
        rw [this]
theorem execV_congr {tb : Tabs} {fi : FnI} {run : CallF} {T T' : List AV} {M : Mem} {o : Oper} (h : ∀ x ∈ o.op.operands, evalO T x = evalO T' x) : execV tb fi run T M o = execV tb fi run T' M o := by
  unfold execV
  rw [stepOp_congr h]

section
variable {tb : Tabs} {fi : FnI} {run : CallF} {ops : Array Oper} {c : Chk} {A : List (List Nat)} {C : Nat → St}

def IsE (tb : Tabs) (fi : FnI) (ops : Array Oper) (c : Chk) (C : Nat → St) (p : Nat) : Prop :=
  ∃ i o, (restOf ops c.fs)[p]? = some i ∧ ops[i]? = some o ∧ wantedA ops (C (c.fs.length + p)).t o = some true ∧ calmAt tb fi (C (c.fs.length + p)).t o = false ∧ reads o = false

theorem next_E (a : Nat) : ∀ k, (restOf ops c.fs).length = a + k → ∃ f, a ≤ f ∧ f ≤ (restOf ops c.fs).length ∧ (f < (restOf ops c.fs).length → IsE tb fi ops c C f) ∧ ∀ p, a ≤ p → p < f → ¬ IsE tb fi ops c C p := by
  intro k
  induction k generalizing a with
  | zero => intro h; exact ⟨a, Nat.le_refl _, by omega, fun h' => by omega, fun p h1 h2 => by omega⟩
  | succ k ih =>
    intro h
    by_cases hE : IsE tb fi ops c C a
    · exact ⟨a, Nat.le_refl _, by omega, fun _ => hE, fun p h1 h2 => by omega⟩
    · obtain ⟨f, h1, h2, h3, h4⟩ := ih (a + 1) (by omega)
      refine ⟨f, by omega, h2, h3, fun p hp hp2 => ?_⟩
      by_cases e : p = a
      · subst e; exact hE
      · exact h4 p (by omega) hp2

variable (G : Reg tb fi run ops c A C)
include G

theorem Reg.calm_at {T : List AV} {o : Oper} (h : calm fi o = true) : calmAt tb fi T o = true := by unfold calmAt; rw [h]; rfl

theorem Reg.eord {p q i j : Nat} (hpq : p < q) (hp : IsE tb fi ops c C p) (hq : IsE tb fi ops c C q) (hi : (restOf ops c.fs)[p]? = some i) (hj : (restOf ops c.fs)[q]? = some j) : inA A i j = true := by
  obtain ⟨i', oi, h1, h2, h3, h4, h5⟩ := hp
  obtain ⟨j', oj, k1, k2, k3, k4, k5⟩ := hq
  rw [hi] at h1; simp only [Option.some.injEq] at h1; subst h1
  rw [hj] at k1; simp only [Option.some.injEq] at k1; subst k1
  cases hA : inA A i j with
  | true => rfl
  | false =>
    exfalso
    rcases G.prs p q i j oi oj hpq hi hj h2 k2 hA with h | h | h | h
    · rw [G.calm_at h] at h4; simp at h4
    · rw [G.calm_at h] at k4; simp at k4
    · rw [h.1] at h5; simp at h5
    · rcases h with h | h | h | h | h | h | h
      · rw [h3] at h; simp at h
      · rw [k3] at h; simp at h
      · rw [h4] at h; simp at h
      · rw [k4] at h; simp at h
      · rw [h5] at h; simp at h
      · rw [h5] at h; simp at h
      · rw [k5] at h; simp at h

theorem Reg.mem_same {p : Nat} (hp : p < (restOf ops c.fs).length) (h : ¬ IsE tb fi ops c C p) : (C (c.fs.length + p + 1)).m = (C (c.fs.length + p)).m := by
  have hi : (restOf ops c.fs)[p]? = some ((restOf ops c.fs)[p]) := List.getElem?_eq_getElem hp
  obtain ⟨o, ho⟩ := G.ordlt _ _ (G.rest_ord hi)
  rcases runOp_some (G.ch p _ o hi ho) with ⟨_, h2⟩ | ⟨v, M', hw, he, h2⟩
  · rw [h2]
  · rw [h2]
    by_cases hc : calmAt tb fi (C (c.fs.length + p)).t o = true
    · exact (calm_exec hc he).1
    · by_cases hr : reads o = true
      · exact (reads_exec hr he).2
      · exact absurd ⟨_, o, hi, ho, hw, by simpa using hc, by simpa using hr⟩ h

theorem Reg.mem_range {a : Nat} : ∀ {b : Nat}, a ≤ b → b ≤ (restOf ops c.fs).length → (∀ p, a ≤ p → p < b → ¬ IsE tb fi ops c C p) → (C (c.fs.length + b)).m = (C (c.fs.length + a)).m
  | 0, h, _, _ => by have : a = 0 := by omega
                     subst this; rfl
  | b + 1, h, hb, hn => by
    by_cases e : a = b + 1
    · subst e; rfl
    · have h1 := G.mem_same (p := b) (by omega) (hn b (by omega) (by omega))
      have h2 := Reg.mem_range (a := a) (b := b) (by omega) (by omega) fun p h1 h2 => hn p h1 (by omega)
      rw [show c.fs.length + (b + 1) = c.fs.length + b + 1 by omega, h1, h2]

/-- A reading operation at hand reads what it reads in the listed order. -/
theorem Reg.read_at {D : Array Bool} (hD : Closed ops D) {p i f : Nat} {o : Oper} {v : AV} {M' : Mem} (hi : (restOf ops c.fs)[p]? = some i) (ho : ops[i]? = some o) (hready : Ready o D) (hun : D.getD i false = false)
    (fle : f ≤ (restOf ops c.fs).length) (fE : f < (restOf ops c.fs).length → IsE tb fi ops c C f ∧ ∀ j, (restOf ops c.fs)[f]? = some j → D.getD j false = false)
    (fB : ∀ q, q < f → IsE tb fi ops c C q → ∀ j, (restOf ops c.fs)[q]? = some j → D.getD j false = true)
    (hw : wantedA ops (C (c.fs.length + p)).t o = some true) (hc : calmAt tb fi (C (c.fs.length + p)).t o = false) (hr : reads o = true) (he : execV tb fi run (C (c.fs.length + p)).t (C (c.fs.length + p)).m o = some (v, M')) :
    execV tb fi run (C (c.fs.length + p)).t (C (c.fs.length + f)).m o = some (v, (C (c.fs.length + f)).m) := by
  obtain ⟨hst, rfl⟩ := reads_exec hr he
  have hpl := (List.getElem?_eq_some_iff.1 hi).1
  have fin : (C (c.fs.length + f)).m = (C (c.fs.length + p)).m ∨ readSame tb fi (C (c.fs.length + p)).t (C (c.fs.length + p)).m (C (c.fs.length + f)).m o = true := by
    by_cases hfp : f ≤ p
    · -- the next one to act lies ahead
      have hfE := fE (by omega)
      obtain ⟨⟨j, oj, k1, k2, k3, k4, k5⟩, hfu⟩ := hfE
      have hne : f ≠ p := fun e => by
        subst e
        rw [hi] at k1; simp only [Option.some.injEq] at k1; subst k1
        rw [ho] at k2; simp only [Option.some.injEq] at k2; subst k2
        rw [hr] at k5; simp at k5
      have hA : inA A j i = false := by
        cases h : inA A j i with
        | false => rfl
        | true =>
          have := G.listed hD h fun o' ho' => by rw [ho] at ho'; simp only [Option.some.injEq] at ho'; rw [← ho']; exact hready
          rw [hfu j k1] at this; simp at this
      rcases G.prs f p j i oj o (by omega) k1 hi k2 ho hA with h | h | h | h
      · rw [G.calm_at h] at k4; simp at k4
      · rw [G.calm_at h] at hc; simp at hc
      · rw [h.1] at k5; simp at k5
      · rcases h with h | h | h | h | h | h | h
        · rw [k3] at h; simp at h
        · rw [hw] at h; simp at h
        · rw [k4] at h; simp at h
        · rw [hc] at h; simp at h
        · rw [k5] at h; simp at h
        · rw [k5] at h; simp at h
        · exact .inr h.2
    · -- it lies behind: what has acted since?
      have key : ∀ q, p < q → q ≤ f → (C (c.fs.length + q)).m = (C (c.fs.length + p)).m ∨ readSame tb fi (C (c.fs.length + p)).t (C (c.fs.length + p)).m (C (c.fs.length + q)).m o = true := by
        intro q
        induction q with
        | zero => intro h; omega
        | succ q ih =>
          intro h1 h2
          by_cases hE : IsE tb fi ops c C q
          · have hqp : q ≠ p := fun e => by
              subst e
              obtain ⟨j, oj, k1, k2, k3, k4, k5⟩ := hE
              rw [hi] at k1; simp only [Option.some.injEq] at k1; subst k1
              rw [ho] at k2; simp only [Option.some.injEq] at k2; subst k2
              rw [hr] at k5; simp at k5
            have hE' := hE
            obtain ⟨j, oj, k1, k2, k3, k4, k5⟩ := hE
            have hA : inA A i j = false := by
              cases h : inA A i j with
              | false => rfl
              | true =>
                have hj := fB q (by omega) hE' j k1
                have := G.listed hD h fun o' ho' => fun e he hb => hD j o' ho' hj e he hb
                rw [this] at hun; simp at hun
            rcases G.prs p q i j o oj (by omega) hi k1 ho k2 hA with h | h | h | h
            · rw [G.calm_at h] at hc; simp at hc
            · rw [G.calm_at h] at k4; simp at k4
            · rw [h.2] at k5; simp at k5
            · rcases h with h | h | h | h | h | h | h
              · rw [hw] at h; simp at h
              · rw [k3] at h; simp at h
              · rw [hc] at h; simp at h
              · rw [k4] at h; simp at h
              · rw [k5] at h; simp at h
              · exact .inr h.2
              · rw [k5] at h; simp at h
          · have h3 := G.mem_same (p := q) (by omega) hE
            rw [show c.fs.length + (q + 1) = c.fs.length + q + 1 by omega, h3]
            by_cases e : q = p
            · subst e; exact .inl rfl
            · exact ih (by omega) (by omega)
      exact key f (by omega) (Nat.le_refl _)
  rcases fin with h | h
  · rw [h]; exact he
  · unfold readSame at h
    rw [hst] at h
    split at h
    · rename_i v' _ u N e1 e2
      simp only [Res.val.injEq] at e1
      have := AV.beq_eq _ _ h
      rw [← e1.1] at this
      subst this
      have h5 := execV_val (run := run) e2
      have h6 := (reads_exec hr h5).2
      rw [h6] at h5
      exact h5
    · simp at h
end
end Go.Vm
