/- Regions that have no whole order: whichever order, the same. -/
import Derived.Test.YtiajhfodfhmfaaaGreatDoorWmReg5
set_option linter.unusedVariables false
set_option linter.unusedSimpArgs false
set_option linter.unusedSectionVars false
namespace Go.Vm
variable [SymB] [SymV]

structure InvAt (tb : Tabs) (fi : FnI) (ops : Array Oper) (c : Chk) (C : Nat → St) (β0 : Bnd) (F0 : Fr) (w0 : World) (D : Array Bool) (a : Act) (w : World) (β : Bnd) (F : Fr) (T : List AV) (f : Nat) : Prop where
  size : D.size = ops.size
  closed : Closed ops D
  fle : f ≤ (restOf ops c.fs).length
  fE : f < (restOf ops c.fs).length → IsE tb fi ops c C f ∧ ∀ j, (restOf ops c.fs)[f]? = some j → D.getD j false = false
  fB : ∀ q, q < f → IsE tb fi ops c C q → ∀ j, (restOf ops c.fs)[q]? = some j → D.getD j false = true
  sim : Sim β F (C (c.fs.length + f)).m w
  rl : RL β F T a.tmps.toList
  good : Good ops c C D T
  ext : ExtW β0 F0 (C 0).m w0 β F (C (c.fs.length + f)).m w
  bnd : ∀ g n bd, g < (C 0).m.length → β.arr g n = some bd → ∃ n0 bd0, β0.arr g n0 = some bd0
  unb : ∀ x k, c.fs[x]? = some k → D.getD k false = false → Unborn β (C x).m.length (C (x + 1)).m.length ∧
    ((C (c.fs.length + f)).m.drop (C x).m.length).take ((C (x + 1)).m.length - (C x).m.length) = (C (x + 1)).m.drop (C x).m.length

section
variable {P : Program} {tb : Tabs} (H : Sound P tb) {fi : FnI} {run : CallF} (hrun : RunOk P run) {ops : Array Oper} {c : Chk} {A : List (List Nat)} {C : Nat → St} (G : Reg tb fi run ops c A C)
include H G

theorem Reg.grow1 {x : Nat} (hx : x < c.fs.length) : ∃ obs, (C (x + 1)).m = (C x).m ++ obs := by
  have hk : c.fs[x]? = some (c.fs[x]) := List.getElem?_eq_getElem hx
  obtain ⟨o, ho⟩ := G.ordlt _ _ (G.fs_ord hk)
  obtain ⟨⟨t, hop⟩, _, v, M', h1, h2⟩ := G.al x _ o hk ho
  obtain ⟨obs, hM, _⟩ := alloc_born H.ty hop h1
  exact ⟨obs, by rw [h2]; exact hM⟩
theorem Reg.grow {x : Nat} : ∀ {y : Nat}, x ≤ y → y ≤ c.fs.length → (C x).m.length ≤ (C y).m.length
  | 0, h, _ => by have : x = 0 := by omega
                  subst this; exact Nat.le_refl _
  | y + 1, h, hy => by
    by_cases e : x = y + 1
    · subst e; exact Nat.le_refl _
    · obtain ⟨obs, ho⟩ := Reg.grow1 H G (x := y) (by omega)
      have := Reg.grow (x := x) (y := y) (by omega) (by omega)
      rw [ho, List.length_append]; omega

theorem closed_step {D : Array Bool} (hsz : D.size = ops.size) (hD : Closed ops D) {i : Nat} {o : Oper} (ho : ops[i]? = some o) (hready : Ready o D) : Closed ops (D.setIfInBounds i true) := by
  have hi : i < D.size := by rw [hsz]; exact (Array.getElem?_eq_some_iff.1 ho).1
  intro j oj hj hdj e he hb
  rcases (getD_set_iff hi).1 hdj with rfl | h
  · rw [ho] at hj; simp only [Option.some.injEq] at hj; subst hj
    exact (getD_set_iff hi).2 (.inr (hready e he hb))
  · exact (getD_set_iff hi).2 (.inr (hD j oj hj h e he hb))

include hrun in
theorem Reg.step {Q : Exit → Act → World → Prop} {β0 : Bnd} {F0 : Fr} {w0 : World} {D : Array Bool} {a : Act} {w : World} {β : Bnd} {F : Fr} {T : List AV} {f : Nat} (I : InvAt tb fi ops c C β0 F0 w0 D a w β F T f) {i : Nat} {o : Oper} (ho : ops[i]? = some o) (hready : Ready o D) (hun : D.getD i false = false)
    {K : Act → World → Prop} (hK : ∀ a' w' β' F' T' f', InvAt tb fi ops c C β0 F0 w0 (D.setIfInBounds i true) a' w' β' F' T' f' → a'.defers = a.defers → K a' w') : wpOp P ops Q i K a w := by
  have hi : i < D.size := by rw [I.size]; exact (Array.getElem?_eq_some_iff.1 ho).1
  have hset : ∀ j, (D.setIfInBounds i true).getD j false = true ↔ j = i ∨ D.getD j false = true := fun j => getD_set_iff hi
  have hsetf : ∀ j, (D.setIfInBounds i true).getD j false = false → j ≠ i ∧ D.getD j false = false := fun j h => by
    constructor
    · intro e; rw [(hset j).2 (.inl e)] at h; simp at h
    · cases hd : D.getD j false with
      | false => rfl
      | true => rw [(hset j).2 (.inr hd)] at h; simp at h
  have hsetn : ∀ j, j ≠ i → D.getD j false = false → (D.setIfInBounds i true).getD j false = false := fun j h1 h2 => by
    cases hd : (D.setIfInBounds i true).getD j false with
    | false => rfl
    | true => rcases (hset j).1 hd with h | h
              · exact absurd h h1
              · rw [h2] at h; simp at h
  have hcl := closed_step H G I.size I.closed ho hready
  have hszz : (D.setIfInBounds i true).size = ops.size := by simp [I.size]
  obtain ⟨r, hr⟩ := G.ordall i (Array.getElem?_eq_some_iff.1 ho).1
  have hrl := (List.getElem?_eq_some_iff.1 hr).1
  have hag : ∀ d ∈ o.looksAt ops, T.getD d (.pv .top) = (C r).t.getD d (.pv .top) := fun d hd => G.agree I.closed I.good hr ho hready hun hd
  have hev : ∀ x ∈ o.op.operands, evalO T x = evalO (C r).t x := fun x hx => evalO_tmp fun t e => hag t (looks_operand (by rw [← e]; exact hx))
  have hlen : T.length = (C r).t.length := I.good.1.trans (G.len (by omega)).symm
  have hwa : wantedA ops T o = wantedA ops (C r).t o := wantedA_congr hlen hag
  unfold wpOp
  simp only [ho]
  by_cases hx : r < c.fs.length
  · -- a variable of those made ahead of time
    have hk : c.fs[r]? = some i := by
      unfold ordOf at hr
      rwa [List.getElem?_append_left hx] at hr
    obtain ⟨⟨t, hop⟩, hg, v, M', h1, h2⟩ := G.al r i o hk ho
    obtain ⟨obs, hM, hborn⟩ := alloc_born H.ty hop h1
    have hC : (C (r + 1)).m = (C r).m ++ obs := by rw [h2]; exact hM
    obtain ⟨u1, u2⟩ := I.unb r i hk hun
    have hl1 : (C (r + 1)).m.length = (C r).m.length + obs.length := by rw [hC]; simp
    have hat : AtMem (C (c.fs.length + f)).m (C r).m.length obs := fun j hj => by
      have : (((C (c.fs.length + f)).m.drop (C r).m.length).take ((C (r + 1)).m.length - (C r).m.length))[j]? = obs[j]? := by rw [u2, hC]; simp
      rw [List.getElem?_take, if_pos (by omega), List.getElem?_drop] at this
      exact this
    obtain ⟨β', w', x, hx1, hx2, hx3, hx4, hx5⟩ := hborn a.eval I.sim hat (by rw [← hl1]; exact u1)
    have hw : Region.wanted o (yielded ops a.tmps) = true := wanted_R I.rl (by unfold wantedA; rw [hg])
    rw [hw]
    simp only [if_true]
    left
    unfold Oper.wp
    rw [hx1]
    refine hK _ w' β' F (putT T o.dst v) f ⟨hszz, hcl, I.fle, fun hf => ?_, fun q hq hE j hj => (hset j).2 (.inr (I.fB q hq hE j hj)), hx2, putT_R (RL.mono hx3.bnd (.refl _) I.rl) hx5 o.dst, G.good_step I.size I.closed I.good hr ho hready hun (by rw [h2]), I.ext.trans hx3, fun g n bd hgl hb => ?_, fun y k hy hd => ?_⟩ (put_defers a o.dst x)
    · obtain ⟨hE, hu⟩ := I.fE hf
      refine ⟨hE, fun j hj => hsetn j (fun e => ?_) (hu j hj)⟩
      have := G.ordinj _ _ _ (G.rest_ord hj) (by rw [e]; exact hr)
      omega
    · have := Reg.grow H G (x := 0) (y := r) (by omega) (by omega)
      exact I.bnd g n bd hgl (hx4 g n bd (by omega) hb)
    · obtain ⟨hne, hd'⟩ := hsetf k hd
      obtain ⟨v1, v2⟩ := I.unb y k hy hd'
      have hyl := (List.getElem?_eq_some_iff.1 hy).1
      have hyr : y ≠ r := fun e => by rw [e, hk] at hy; simp only [Option.some.injEq] at hy; exact hne hy.symm
      refine ⟨fun g n g1 g2 => ?_, v2⟩
      cases hb : β'.arr g n with
      | none => rfl
      | some bd =>
        have hout : g < (C r).m.length ∨ (C r).m.length + obs.length ≤ g := by
          rcases Nat.lt_or_gt_of_ne hyr with h | h
          · have := Reg.grow H G (x := y + 1) (y := r) (by omega) (by omega)
            exact .inl (by omega)
          · have := Reg.grow H G (x := r + 1) (y := y) (by omega) (by omega)
            exact .inr (by omega)
        have := hx4 g n bd hout hb
        rw [v1 g n g1 g2] at this; simp at this
  · -- one of the others
    obtain ⟨p, rfl⟩ : ∃ p, r = c.fs.length + p := ⟨r - c.fs.length, by omega⟩
    have hp : (restOf ops c.fs)[p]? = some i := by
      unfold ordOf at hr
      rw [List.getElem?_append_right (by omega)] at hr
      simpa using hr
    have hpl := (List.getElem?_eq_some_iff.1 hp).1
    -- steps that leave the memory
    have stay : ¬ IsE tb fi ops c C p → ∀ {β' : Bnd} {F' : Fr} {x : Value} {w' : World} {v : AV}, (C (c.fs.length + p + 1)).t = putT (C (c.fs.length + p)).t o.dst v → Ext β F (C (c.fs.length + f)).m w β' F' (C (c.fs.length + f)).m w' → Sim β' F' (C (c.fs.length + f)).m w' → R β' F' v x → K (a.put o.dst x) w' := by
      intro hnE β' F' x w' v hv X S' hR
      refine hK _ w' β' F' (putT T o.dst v) f ⟨hszz, hcl, I.fle, fun hf => ?_, fun q hq hE j hj => (hset j).2 (.inr (I.fB q hq hE j hj)), S', putT_R (RL.mono X.bnd X.fr I.rl) hR o.dst, G.good_step I.size I.closed I.good hr ho hready hun hv, I.ext.trans X.toExtW, fun g n bd hgl hb => ?_, fun y k hy hd => ?_⟩ (put_defers a o.dst x)
      · obtain ⟨hE, hu⟩ := I.fE hf
        refine ⟨hE, fun j hj => hsetn j (fun e => ?_) (hu j hj)⟩
        have := G.ordinj _ _ _ (G.rest_ord hj) (by rw [e]; exact hr)
        have : f = p := by omega
        subst this
        exact hnE hE
      · obtain ⟨n1, bd1, hb1⟩ := X.bound g n bd (by have := I.ext.mlen; omega) hb
        exact I.bnd g n1 bd1 hgl hb1
      · obtain ⟨hne, hd'⟩ := hsetf k hd
        obtain ⟨v1, v2⟩ := I.unb y k hy hd'
        refine ⟨fun g n g1 g2 => ?_, v2⟩
        cases hb : β'.arr g n with
        | none => rfl
        | some bd =>
          have hl := congrArg List.length v2
          simp only [List.length_take, List.length_drop] at hl
          obtain ⟨n1, bd1, hb1⟩ := X.bound g n bd (by omega) hb
          rw [v1 g n1 g1 g2] at hb1; simp at hb1
    rcases runOp_some (G.ch p i o hp ho) with ⟨hw, h2⟩ | ⟨v, M', hw, he, h2⟩
    · rw [wanted_R I.rl (hwa.trans hw)]
      simp only [Bool.false_eq_true, if_false]
      refine stay (fun hE => ?_) (v := .pv (.tup [])) (by rw [h2]) (.refl ..) I.sim (undef_R β F)
      obtain ⟨i', o', k1, k2, k3, _⟩ := hE
      rw [hp] at k1; simp only [Option.some.injEq] at k1; subst k1
      rw [ho] at k2; simp only [Option.some.injEq] at k2; subst k2
      rw [hw] at k3; simp at k3
    · rw [wanted_R I.rl (hwa.trans hw)]
      simp only [if_true]
      left
      by_cases hc : calmAt tb fi (C (c.fs.length + p)).t o = true
      · have h3 := (calm_exec hc he).2 (C (c.fs.length + f)).m
        rw [← execV_congr hev] at h3
        refine execV_wp H hrun I.rl I.sim h3 fun β' F' x w' X S' hR => stay (fun hE => ?_) (by rw [h2]) X S' hR
        obtain ⟨i', o', k1, k2, _, k4, _⟩ := hE
        rw [hp] at k1; simp only [Option.some.injEq] at k1; subst k1
        rw [ho] at k2; simp only [Option.some.injEq] at k2; subst k2
        rw [hc] at k4; simp at k4
      · by_cases hrd : reads o = true
        · have h3 := G.read_at I.closed hp ho hready hun I.fle I.fE I.fB hw (by simpa using hc) hrd he
          rw [← execV_congr hev] at h3
          refine execV_wp H hrun I.rl I.sim h3 fun β' F' x w' X S' hR => stay (fun hE => ?_) (by rw [h2]) X S' hR
          obtain ⟨i', o', k1, k2, _, _, k5⟩ := hE
          rw [hp] at k1; simp only [Option.some.injEq] at k1; subst k1
          rw [ho] at k2; simp only [Option.some.injEq] at k2; subst k2
          rw [hrd] at k5; simp at k5
        · -- it acts: it is the next one to
          have hE : IsE tb fi ops c C p := ⟨i, o, hp, ho, hw, by simpa using hc, by simpa using hrd⟩
          have hfp : f = p := by
            rcases Nat.lt_trichotomy f p with h | h | h
            · obtain ⟨hEf, hu⟩ := I.fE (by omega)
              obtain ⟨j, oj, k1, _⟩ := hEf
              have := G.eord h (I.fE (by omega)).1 hE k1 hp
              have := G.listed I.closed this fun o' ho' => by rw [ho] at ho'; simp only [Option.some.injEq] at ho'; rw [← ho']; exact hready
              rw [hu j k1] at this; simp at this
            · exact h
            · have := I.fB p h hE i hp
              rw [hun] at this; simp at this
          subst hfp
          have hCm : (C (c.fs.length + f + 1)).m = M' := by rw [h2]
          rw [← execV_congr hev] at he
          obtain ⟨f', g1, g2, g3, g4⟩ := next_E (tb := tb) (fi := fi) (ops := ops) (c := c) (C := C) (f + 1) ((restOf ops c.fs).length - (f + 1)) (by omega)
          have hmem : (C (c.fs.length + f')).m = M' := by
            rw [G.mem_range g1 g2 g4, ← hCm]; rfl
          refine execV_wp H hrun I.rl I.sim he fun β' F' x w' X S' hR => hK _ w' β' F' (putT T o.dst v) f' ⟨hszz, hcl, g2, fun hf => ⟨g3 hf, fun j hj => ?_⟩, fun q hq hEq j hj => ?_, by rw [hmem]; exact S', putT_R (RL.mono X.bnd X.fr I.rl) hR o.dst, G.good_step I.size I.closed I.good hr ho hready hun (by rw [h2]), by rw [hmem]; exact I.ext.trans X.toExtW, fun g n bd hgl hb => ?_, fun y k hy hd => ?_⟩ (put_defers a o.dst x)
          · have hji : j ≠ i := fun e => by
              have := G.ordinj _ _ _ (G.rest_ord hj) (by rw [e]; exact hr)
              omega
            refine hsetn j hji ?_
            cases hd : D.getD j false with
            | false => rfl
            | true =>
              obtain ⟨j', oj, k1, k2, _⟩ := g3 hf
              rw [hj] at k1; simp only [Option.some.injEq] at k1; subst k1
              have := G.listed I.closed (G.eord (by omega) hE (g3 hf) hp hj) fun o' ho' => fun e he hb => I.closed j o' ho' hd e he hb
              rw [hun] at this; simp at this
          · rcases Nat.lt_trichotomy q f with h | h | h
            · exact (hset j).2 (.inr (I.fB q h hEq j hj))
            · subst h
              rw [hp] at hj; simp only [Option.some.injEq] at hj
              exact (hset j).2 (.inl hj.symm)
            · exact absurd hEq (g4 q (by omega) hq)
          · obtain ⟨n1, bd1, hb1⟩ := X.bound g n bd (by have := I.ext.mlen; omega) hb
            exact I.bnd g n1 bd1 hgl hb1
          · obtain ⟨hne, hd'⟩ := hsetf k hd
            obtain ⟨v1, v2⟩ := I.unb y k hy hd'
            have hA : inA A k i = false := by
              cases h : inA A k i with
              | false => rfl
              | true =>
                have := G.listed I.closed h fun o' ho' => by rw [ho] at ho'; simp only [Option.some.injEq] at ho'; rw [← ho']; exact hready
                rw [hd'] at this; simp at this
            have hkp : ((C (c.fs.length + f)).m.drop (C y).m.length).take ((C (y + 1)).m.length - (C y).m.length) = ((C (c.fs.length + f + 1)).m.drop (C y).m.length).take ((C (y + 1)).m.length - (C y).m.length) := by
              rcases G.kp y f k i o hy hp ho hA with h | h | h
              · exact absurd (G.calm_at h) hc
              · exact absurd h hrd
              · exact h
            refine ⟨fun g n g1 g2 => ?_, by rw [hmem, ← hCm, ← hkp]; exact v2⟩
            cases hb : β'.arr g n with
            | none => rfl
            | some bd =>
              have hl := congrArg List.length v2
              simp only [List.length_take, List.length_drop] at hl
              obtain ⟨n1, bd1, hb1⟩ := X.bound g n bd (by omega) hb
              rw [v1 g n1 g1 g2] at hb1; simp at hb1
end
end Go.Vm
