/- Regions that have no whole order: any order gives what the listed one gives. -/
import Derived.Test.YtiajhfodfhmfaaaGreatDoorWmReg3
set_option linter.unusedVariables false
set_option linter.unusedSimpArgs false
set_option linter.unusedSectionVars false
namespace Go.Vm
variable [SymB] [SymV]

def PairFact (tb : Tabs) (fi : FnI) (ops : Array Oper) (oi oj : Oper) (si sj sk : St) : Prop :=
  wantedA ops si.t oi = some false ∨ wantedA ops sj.t oj = some false ∨ calmAt tb fi si.t oi = true ∨ calmAt tb fi sj.t oj = true ∨ (reads oi = true ∧ reads oj = true) ∨
  (reads oi = true ∧ readSame tb fi si.t si.m sk.m oi = true) ∨ (reads oj = true ∧ readSame tb fi sj.t sj.m si.m oj = true)

structure Reg (tb : Tabs) (fi : FnI) (run : CallF) (ops : Array Oper) (c : Chk) (A : List (List Nat)) (C : Nat → St) : Prop where
  anc1 : ∀ j o, ops[j]? = some o → ∀ e ∈ o.after, Region.binds .any e = true → e.on < j
  anc2 : ∀ j k, inA A k j = true → ∃ o, ops[j]? = some o ∧ ∃ e ∈ after1 o, e < j ∧ (e = k ∨ inA A k e = true)
  ordlt : ∀ (r : Nat) i, (ordOf ops c)[r]? = some i → ∃ o, ops[i]? = some o
  ordinj : ∀ (r q : Nat) i, (ordOf ops c)[r]? = some i → (ordOf ops c)[q]? = some i → r = q
  ordall : ∀ i, i < ops.size → ∃ r : Nat, (ordOf ops c)[r]? = some i
  conf : ∀ (r q : Nat) i j oi oj, r < q → (ordOf ops c)[r]? = some i → (ordOf ops c)[q]? = some j → ops[i]? = some oi → ops[j]? = some oj → oi.apart ops oj = true ∨ inA A i j = true
  al : ∀ (x : Nat) k o, c.fs[x]? = some k → ops[k]? = some o → (∃ t, o.op = .alloc t) ∧ o.guard = none ∧ ∃ v M', stepOp tb fi (C x).t (C x).m o.dst o.op = .val v M' ∧ C (x + 1) = ⟨putT (C x).t o.dst v, M'⟩
  ch : ∀ (p : Nat) i o, (restOf ops c.fs)[p]? = some i → ops[i]? = some o → runOp tb fi run ops o (C (c.fs.length + p)) = some (C (c.fs.length + p + 1))
  prs : ∀ (p q : Nat) i j oi oj, p < q → (restOf ops c.fs)[p]? = some i → (restOf ops c.fs)[q]? = some j → ops[i]? = some oi → ops[j]? = some oj → inA A i j = false →
    calm fi oi = true ∨ calm fi oj = true ∨ (reads oi = true ∧ reads oj = true) ∨ PairFact tb fi ops oi oj (C (c.fs.length + p)) (C (c.fs.length + q)) (C (c.fs.length + q + 1))
  kp : ∀ (x p : Nat) k i o, c.fs[x]? = some k → (restOf ops c.fs)[p]? = some i → ops[i]? = some o → inA A k i = false → calm fi o = true ∨ reads o = true ∨
    ((C (c.fs.length + p)).m.drop (C x).m.length).take ((C (x + 1)).m.length - (C x).m.length) = ((C (c.fs.length + p + 1)).m.drop (C x).m.length).take ((C (x + 1)).m.length - (C x).m.length)

theorem putT_length (T : List AV) (d : Option Tmp) (v : AV) : (putT T d v).length = T.length := by cases d <;> simp [putT]
theorem getD_put_ne {T : List AV} {d : Option Tmp} {v : AV} {t : Nat} (h : d ≠ some t) : (putT T d v).getD t (.pv .top) = T.getD t (.pv .top) := by
  cases d with
  | none => rfl
  | some d =>
    have : d ≠ t := fun e => h (by rw [e])
    simp [putT, List.getElem?_set_ne this]
theorem getD_put_eq {T : List AV} {v : AV} {t : Nat} (h : t < T.length) : (putT T (some t) v).getD t (.pv .top) = v := by
  simp [putT, h]
theorem getD_set_iff {D : Array Bool} {i j : Nat} (hi : i < D.size) : (D.setIfInBounds i true).getD j false = true ↔ j = i ∨ D.getD j false = true := by
  by_cases e : i = j
  · subst e; simp [hi]
  · rw [getD_set_ne false e]
    constructor
    · exact .inr
    · rintro (h | h)
      · exact absurd h.symm e
      · exact h

section
variable {tb : Tabs} {fi : FnI} {run : CallF} {ops : Array Oper} {c : Chk} {A : List (List Nat)} {C : Nat → St} (G : Reg tb fi run ops c A C)
include G

theorem Reg.fs_ord {x k : Nat} (h : c.fs[x]? = some k) : (ordOf ops c)[x]? = some k := by
  unfold ordOf
  rw [List.getElem?_append_left (List.getElem?_eq_some_iff.1 h).1]; exact h
theorem Reg.rest_ord {p i : Nat} (h : (restOf ops c.fs)[p]? = some i) : (ordOf ops c)[c.fs.length + p]? = some i := by
  unfold ordOf
  rw [List.getElem?_append_right (by omega)]
  simpa using h
theorem Reg.put {r i : Nat} {o : Oper} (hr : (ordOf ops c)[r]? = some i) (ho : ops[i]? = some o) : ∃ v, (C (r + 1)).t = putT (C r).t o.dst v := by
  unfold ordOf at hr
  by_cases h : r < c.fs.length
  · rw [List.getElem?_append_left h] at hr
    obtain ⟨_, _, v, M', _, h2⟩ := G.al r i o hr ho
    exact ⟨v, by rw [h2]⟩
  · rw [List.getElem?_append_right (by omega)] at hr
    have := G.ch _ i o hr ho
    rw [show c.fs.length + (r - c.fs.length) = r by omega] at this
    rcases runOp_some this with ⟨_, h2⟩ | ⟨v, M', _, _, h2⟩
    · exact ⟨.pv (.tup []), by rw [h2]⟩
    · exact ⟨v, by rw [h2]⟩
theorem Reg.len : ∀ {r : Nat}, r ≤ (ordOf ops c).length → (C r).t.length = (C 0).t.length
  | 0, _ => rfl
  | r + 1, h => by
    have hr : (ordOf ops c)[r]? = some ((ordOf ops c)[r]'(by omega)) := List.getElem?_eq_getElem (by omega)
    obtain ⟨o, ho⟩ := G.ordlt _ _ hr
    obtain ⟨v, hv⟩ := G.put hr ho
    rw [hv, putT_length, Reg.len (by omega)]
theorem Reg.nowrite {d : Nat} {r : Nat} : ∀ {q : Nat}, r ≤ q → q ≤ (ordOf ops c).length → (∀ (p i : Nat) o, r ≤ p → p < q → (ordOf ops c)[p]? = some i → ops[i]? = some o → o.dst ≠ some d) → (C q).t.getD d (.pv .top) = (C r).t.getD d (.pv .top)
  | 0, h, _, _ => by have : r = 0 := by omega
                     subst this; rfl
  | q + 1, h, hq, hw => by
    by_cases e : r = q + 1
    · subst e; rfl
    · have hr : (ordOf ops c)[q]? = some ((ordOf ops c)[q]'(by omega)) := List.getElem?_eq_getElem (by omega)
      obtain ⟨o, ho⟩ := G.ordlt _ _ hr
      obtain ⟨v, hv⟩ := G.put hr ho
      rw [hv, getD_put_ne (hw q _ o (by omega) (by omega) hr ho)]
      exact Reg.nowrite (by omega) (by omega) fun p i o h1 h2 => hw p i o h1 (by omega)

def Writes (ops : Array Oper) (c : Chk) (q d : Nat) (i : Nat) : Prop := (ordOf ops c)[q]? = some i ∧ ∃ o, ops[i]? = some o ∧ o.dst = some d
def Good (ops : Array Oper) (c : Chk) (C : Nat → St) (D : Array Bool) (T : List AV) : Prop :=
  T.length = (C 0).t.length ∧ ∀ r, r ≤ (ordOf ops c).length → ∀ d, (∀ q i, q < r → Writes ops c q d i → D.getD i false = true) → (∀ q i, r ≤ q → Writes ops c q d i → D.getD i false = false) → T.getD d (.pv .top) = (C r).t.getD d (.pv .top)
def Ready (o : Oper) (D : Array Bool) : Prop := ∀ e ∈ o.after, Region.binds .any e = true → D.getD e.on false = true

theorem Reg.listed {D : Array Bool} (hD : Closed ops D) {j k : Nat} (h : inA A k j = true) (hj : ∀ o, ops[j]? = some o → Ready o D) : D.getD k false = true := anc_listed G.anc2 hD j k h hj

/-- What the operation at hand looks at is as it is in the listed order. -/
theorem Reg.agree {D : Array Bool} {T : List AV} (hD : Closed ops D) (hg : Good ops c C D T) {r i : Nat} {o : Oper} (hr : (ordOf ops c)[r]? = some i) (ho : ops[i]? = some o) (hready : Ready o D) (hun : D.getD i false = false) {d : Nat} (hd : d ∈ o.looksAt ops) :
    T.getD d (.pv .top) = (C r).t.getD d (.pv .top) := by
  have hrl := (List.getElem?_eq_some_iff.1 hr).1
  refine hg.2 r (by omega) d (fun q j hq hw => ?_) (fun q j hq hw => ?_)
  · obtain ⟨h1, oq, h2, h3⟩ := hw
    rcases G.conf q r j i oq o hq h1 hr h2 ho with h | h
    · exact absurd hd ((Oper.apart_spec h).1 d h3)
    · exact G.listed hD h fun o' ho' => by rw [ho] at ho'; simp only [Option.some.injEq] at ho'; rw [← ho']; exact hready
  · obtain ⟨h1, oq, h2, h3⟩ := hw
    by_cases e : q = r
    · subst e
      rw [hr] at h1; simp only [Option.some.injEq] at h1
      rw [← h1]; exact hun
    · rcases G.conf r q i j o oq (by omega) hr h1 ho h2 with h | h
      · exact absurd hd ((Oper.apart_spec h).2.2 d h3)
      · cases hj : D.getD j false with
        | false => rfl
        | true =>
          have := G.listed hD h fun o' ho' => fun e he hb => hD j o' ho' hj e he hb
          rw [this] at hun; simp at hun

theorem Reg.good_step {D : Array Bool} {T : List AV} (hsz : D.size = ops.size) (hD : Closed ops D) (hg : Good ops c C D T) {r i : Nat} {o : Oper} (hr : (ordOf ops c)[r]? = some i) (ho : ops[i]? = some o) (hready : Ready o D) (hun : D.getD i false = false) {v : AV} (hv : (C (r + 1)).t = putT (C r).t o.dst v) :
    Good ops c C (D.setIfInBounds i true) (putT T o.dst v) := by
  have hi : i < D.size := by rw [hsz]; exact (Array.getElem?_eq_some_iff.1 ho).1
  have hrl := (List.getElem?_eq_some_iff.1 hr).1
  refine ⟨by rw [putT_length]; exact hg.1, fun r' hr' d h1 h2 => ?_⟩
  by_cases hd : o.dst = some d
  · have hw : Writes ops c r d i := ⟨hr, o, ho, hd⟩
    have hlt : r < r' := by
      rcases Nat.lt_or_ge r r' with h | h
      · exact h
      · have := h2 r i h hw
        rw [(getD_set_iff hi).2 (.inl rfl)] at this; simp at this
    -- no other writer between
    have hno : ∀ (p j : Nat) oj, r + 1 ≤ p → p < r' → (ordOf ops c)[p]? = some j → ops[j]? = some oj → oj.dst ≠ some d := fun p j oj hp1 hp2 hj hoj he => by
      have hl := h1 p j hp2 ⟨hj, oj, hoj, he⟩
      rcases (getD_set_iff hi).1 hl with e | hl
      · rw [e] at hj
        have := G.ordinj p r i hj hr
        omega
      · rcases G.conf r p i j o oj (by omega) hr hj ho hoj with h | h
        · exact (Oper.apart_spec h).2.1 d hd he
        · have := G.listed hD h fun o' ho' => fun e he hb => hD j o' ho' hl e he hb
          rw [this] at hun; simp at hun
    rw [G.nowrite (by omega) hr' hno, hv]
    by_cases hdl : d < T.length
    · rw [hd, getD_put_eq hdl, getD_put_eq (by rw [G.len (by omega), ← hg.1]; exact hdl)]
    · have h3 : (putT T o.dst v).length ≤ d := by rw [putT_length]; omega
      have h4 : (putT (C r).t o.dst v).length ≤ d := by rw [putT_length, G.len (by omega), ← hg.1]; omega
      simp only [List.getD_eq_getElem?_getD, List.getElem?_eq_none h3, List.getElem?_eq_none h4]
  · rw [getD_put_ne hd]
    refine hg.2 r' hr' d (fun q j hq hw => ?_) (fun q j hq hw => ?_)
    · rcases (getD_set_iff hi).1 (h1 q j hq hw) with e | h
      · obtain ⟨_, oj, h3, h4⟩ := hw
        rw [e, ho] at h3; simp only [Option.some.injEq] at h3
        rw [← h3] at h4; exact absurd h4 hd
      · exact h
    · cases hj : D.getD j false with
      | false => rfl
      | true =>
        have := h2 q j hq hw
        rw [(getD_set_iff hi).2 (.inr hj)] at this; simp at this
end
end Go.Vm
