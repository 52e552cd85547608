/- Regions that have no whole order: their shape. -/
import Derived.Test.YtiajhfodfhmfaaaGreatDoorWmReg2
set_option linter.unusedVariables false
set_option linter.unusedSimpArgs false
set_option linter.unusedSectionVars false
namespace Go.Vm
variable [SymB] [SymV]

mutual
theorem PV.beq_eq : ∀ (a b : PV), PV.beq a b = true → a = b
  | .int k n, b, h => by cases b <;> simp_all [PV.beq]
  | .sym x, b, h => by cases b <;> simp_all [PV.beq]
  | .bool x, b, h => by cases b <;> simp_all [PV.beq]
  | .str s, b, h => by cases b <;> simp_all [PV.beq]
  | .agg l, b, h => by cases b <;> simp only [PV.beq] at h <;> first | (rw [PV.beqL_eq l _ h]) | simp at h
  | .tup l, b, h => by cases b <;> simp only [PV.beq] at h <;> first | (rw [PV.beqL_eq l _ h]) | simp at h
  | .sl l, b, h => by cases b <;> simp only [PV.beq] at h <;> first | (rw [PV.beqL_eq l _ h]) | simp at h
  | .cl l, b, h => by cases b <;> simp only [PV.beq] at h <;> first | (rw [PV.beqL_eq l _ h]) | simp at h
  | .nilp, b, h => by cases b <;> simp_all [PV.beq]
  | .nili, b, h => by cases b <;> simp_all [PV.beq]
  | .nilf, b, h => by cases b <;> simp_all [PV.beq]
  | .err, b, h => by cases b <;> simp_all [PV.beq]
  | .top, b, h => by cases b <;> simp_all [PV.beq]
theorem PV.beqL_eq : ∀ (a b : List PV), PV.beqL a b = true → a = b
  | [], b, h => by cases b <;> simp_all [PV.beqL]
  | x :: a, b, h => by
    cases b with
    | nil => simp [PV.beqL] at h
    | cons y b =>
      simp only [PV.beqL, Bool.and_eq_true] at h
      rw [PV.beq_eq x y h.1, PV.beqL_eq a b h.2]
end
mutual
theorem AV.beq_eq : ∀ (a b : AV), AV.beq a b = true → a = b
  | .pv x, b, h => by cases b <;> simp only [AV.beq] at h <;> first | (rw [PV.beq_eq x _ h]) | simp at h
  | .agg l, b, h => by cases b <;> simp only [AV.beq] at h <;> first | (rw [AV.beqL_eq l _ h]) | simp at h
  | .tup l, b, h => by cases b <;> simp only [AV.beq] at h <;> first | (rw [AV.beqL_eq l _ h]) | simp at h
  | AV.gs g n o l, b, h => by cases b <;> simp_all [AV.beq]
  | AV.p g n i o, b, h => by cases b <;> simp_all [AV.beq]
  | .ep x n, b, h => by
    cases b <;> simp only [AV.beq, Bool.and_eq_true, beq_iff_eq] at h <;> first | (rw [PV.beq_eq x _ h.1, h.2]) | simp at h
  | .fn f l, b, h => by
    cases b <;> simp only [AV.beq, Bool.and_eq_true, beq_iff_eq] at h <;> first | (rw [AV.beqL_eq l _ h.2, h.1]) | simp at h
  | .ifc t v, b, h => by
    cases b <;> simp only [AV.beq, Bool.and_eq_true, beq_iff_eq] at h <;> first | (rw [AV.beq_eq v _ h.2, h.1]) | simp at h
  | .mp g, b, h => by cases b <;> simp_all [AV.beq]
theorem AV.beqL_eq : ∀ (a b : List AV), AV.beqL a b = true → a = b
  | [], b, h => by cases b <;> simp_all [AV.beqL]
  | x :: a, b, h => by
    cases b with
    | nil => simp [AV.beqL] at h
    | cons y b =>
      simp only [AV.beqL, Bool.and_eq_true] at h
      rw [AV.beq_eq x y h.1, AV.beqL_eq a b h.2]
end
theorem MObj.beq_eq (a b : MObj) (h : MObj.beq a b = true) : a = b := by
  cases a <;> cases b <;> simp only [MObj.beq, Bool.and_eq_true, beq_iff_eq] at h <;> first | (rw [AV.beqL_eq _ _ h.1, h.2]) | rfl | simp at h
theorem MObj.beqL_eq : ∀ (a b : List MObj), MObj.beqL a b = true → a = b
  | [], b, h => by cases b <;> simp_all [MObj.beqL]
  | x :: a, b, h => by
    cases b with
    | nil => simp [MObj.beqL] at h
    | cons y b =>
      simp only [MObj.beqL, Bool.and_eq_true] at h
      rw [MObj.beq_eq x y h.1, MObj.beqL_eq a b h.2]

theorem states_chain {tb : Tabs} {fi : FnI} {run : CallF} {ops : Array Oper} : ∀ {l : List Oper} {s sN : St}, (states tb fi run ops l s)[l.length]? = some sN →
    (states tb fi run ops l s)[0]? = some s ∧ (∀ p, p ≤ l.length → ∃ a, (states tb fi run ops l s)[p]? = some a) ∧
    ∀ (p : Nat) o a b, l[p]? = some o → (states tb fi run ops l s)[p]? = some a → (states tb fi run ops l s)[p + 1]? = some b → runOp tb fi run ops o a = some b
  | [], s, sN, h => by
    refine ⟨by simp [states], fun p hp => ⟨s, ?_⟩, fun p o a b ho => by simp at ho⟩
    have : p = 0 := by simpa using hp
    subst this
    simp [states]
  | o :: l, s, sN, h => by
    simp only [states] at h ⊢
    cases hr : runOp tb fi run ops o s with
    | none => rw [hr] at h; simp at h
    | some s1 =>
      rw [hr] at h
      simp only [List.length_cons, List.getElem?_cons_succ] at h
      obtain ⟨h1, h2, h3⟩ := states_chain h
      refine ⟨rfl, fun p hp => ?_, fun p o' a b ho ha hb => ?_⟩
      · cases p with
        | zero => exact ⟨s, rfl⟩
        | succ p => simpa using h2 p (by simpa using hp)
      · cases p with
        | zero =>
          simp only [List.getElem?_cons_zero, Option.some.injEq, List.getElem?_cons_succ, Nat.zero_add] at ho ha hb
          rw [h1] at hb
          simp only [Option.some.injEq] at hb
          rw [← ho, ← ha, ← hb]; exact hr
        | succ p =>
          simp only [List.getElem?_cons_succ] at ho ha hb
          exact h3 p o' a b ho ha hb

theorem pick_F2 {ops : Array Oper} : ∀ {l : List Nat}, (∀ i ∈ l, i < ops.size) → F2 (fun i o => ops[i]? = some o) l (pickOps ops l)
  | [], _ => .nil
  | i :: l, h => by
    have hi : ops[i]? = some (ops[i]'(h i (by simp))) := Array.getElem?_eq_getElem (h i (by simp))
    have : pickOps ops (i :: l) = ops[i]'(h i (by simp)) :: pickOps ops l := by simp only [pickOps, List.filterMap_cons, hi]
    rw [this]
    exact .cons hi (pick_F2 fun j hj => h j (by simp [hj]))

def after1 (o : Oper) : List Nat := (o.after.toList.filter fun e => Region.binds .any e).map (·.on)
theorem mem_after1 {o : Oper} {k : Nat} : k ∈ after1 o ↔ ∃ e ∈ o.after, Region.binds .any e = true ∧ e.on = k := by
  simp only [after1, List.mem_map, List.mem_filter, Array.mem_toList_iff]
  exact ⟨fun ⟨e, ⟨h1, h2⟩, h3⟩ => ⟨e, h1, h2, h3⟩, fun ⟨e, h1, h2, h3⟩ => ⟨e, ⟨h1, h2⟩, h3⟩⟩
def inA (A : List (List Nat)) (k j : Nat) : Bool := (A.getD j []).contains k
def ordOf (ops : Array Oper) (c : Chk) : List Nat := c.fs ++ restOf ops c.fs
/-- What is asked of a region's data: they tell the ancestors; what touches one tmp has an order; each pair without one is looked at. -/
def regOk (fi : FnI) (ops : Array Oper) (c : Chk) (A : List (List Nat)) : Bool :=
  (List.range ops.size).all (fun j => match ops[j]? with
    | some o => (after1 o).all (fun k => decide (k < j)) && (A.getD j []).all (fun k => (after1 o).any fun e => e == k || inA A k e)
    | none => false)
  && (c.fs.all (fun k => match ops[k]? with | some o => (match o.op with | .alloc _ => true | _ => false) && o.guard.isNone | none => false)
  && (decide (c.fs.Nodup ∧ A.length ≤ ops.size)
  && ((List.range (ordOf ops c).length).all (fun q => (List.range q).all fun r => match ops[(ordOf ops c).getD r 0]?, ops[(ordOf ops c).getD q 0]? with
      | some x, some y => x.apart ops y || inA A ((ordOf ops c).getD r 0) ((ordOf ops c).getD q 0)
      | _, _ => false)
  && ((List.range (restOf ops c.fs).length).all (fun q => (List.range q).all fun p => match ops[(restOf ops c.fs).getD p 0]?, ops[(restOf ops c.fs).getD q 0]? with
      | some x, some y => inA A ((restOf ops c.fs).getD p 0) ((restOf ops c.fs).getD q 0) || (calm fi x || (calm fi y || ((reads x && reads y) || c.pairs.contains (p, q))))
      | _, _ => false)
  && (List.range c.fs.length).all (fun x => (List.range (restOf ops c.fs).length).all fun p => match ops[(restOf ops c.fs).getD p 0]? with
      | some o => inA A (c.fs.getD x 0) ((restOf ops c.fs).getD p 0) || (calm fi o || (reads o || c.keep.contains (x, p)))
      | none => false)))))

/-- Listed operations: none ahead of those it comes behind. -/
def Closed (ops : Array Oper) (D : Array Bool) : Prop := ∀ j o, ops[j]? = some o → D.getD j false = true → ∀ e ∈ o.after, Region.binds .any e = true → D.getD e.on false = true
theorem anc_listed {ops : Array Oper} {A : List (List Nat)} {D : Array Bool} (hA : ∀ j k, inA A k j = true → ∃ o, ops[j]? = some o ∧ ∃ e ∈ after1 o, e < j ∧ (e = k ∨ inA A k e = true)) (hD : Closed ops D) :
    ∀ (j k : Nat), inA A k j = true → (∀ o, ops[j]? = some o → ∀ e ∈ o.after, Region.binds .any e = true → D.getD e.on false = true) → D.getD k false = true := by
  intro j
  induction j using Nat.strongRecOn with
  | _ j ih =>
    intro k hk hj
    obtain ⟨o, ho, e, he, hlt, hek⟩ := hA j k hk
    obtain ⟨e', h1, h2, h3⟩ := mem_after1.1 he
    have hd := hj o ho e' h1 h2
    rw [h3] at hd
    rcases hek with rfl | hek
    · exact hd
    · exact ih e hlt k hek fun o' ho' e2 he2 hb2 => hD e o' ho' hd e2 he2 hb2

theorem restOf_mem {ops : Array Oper} {fs : List Nat} {i : Nat} : i ∈ restOf ops fs ↔ i < ops.size ∧ i ∉ fs := by
  simp [restOf]
theorem restOf_sorted (ops : Array Oper) (fs : List Nat) : (restOf ops fs).Pairwise (· < ·) := List.Pairwise.filter _ List.pairwise_lt_range
end Go.Vm
