/- Operations in a row; new variables that the memory holds ahead of time. -/
import Derived.Test.YtiajhfodfhmfaaaGreatDoorWmCall
set_option linter.unusedVariables false
set_option linter.unusedSimpArgs false
set_option linter.unusedSectionVars false
namespace Go.Vm
variable [SymB] [SymV]

def execV (tb : Tabs) (fi : FnI) (run : CallF) (T : List AV) (M : Mem) (o : Oper) : Option (AV × Mem) :=
  match stepOp tb fi T M o.dst o.op with
  | .val v M' => some (v, M')
  | .call f args => doCall tb fi run f args M
  | .fail => none

theorem runOp_some {tb : Tabs} {fi : FnI} {run : CallF} {ops : Array Oper} {o : Oper} {s s' : St} (h : runOp tb fi run ops o s = some s') :
    (wantedA ops s.t o = some false ∧ s' = ⟨putT s.t o.dst (.pv (.tup [])), s.m⟩) ∨ ∃ v M', wantedA ops s.t o = some true ∧ execV tb fi run s.t s.m o = some (v, M') ∧ s' = ⟨putT s.t o.dst v, M'⟩ := by
  unfold runOp at h
  split at h
  · simp at h
  · rename_i hw
    simp only [Option.some.injEq] at h
    exact .inl ⟨hw, h.symm⟩
  · rename_i hw
    refine .inr ?_
    unfold execV
    split at h
    · rename_i v M e
      simp only [Option.some.injEq] at h
      exact ⟨v, M, hw, by rw [e], h.symm⟩
    · rename_i f args e
      split at h
      · rename_i v M e2
        simp only [Option.some.injEq] at h
        exact ⟨v, M, hw, by rw [e]; exact e2, h.symm⟩
      · simp at h
    · simp at h

theorem undef_R (β : Bnd) (F : Fr) : R β F (.pv (.tup [])) undef := .pv (.tup rfl fun i h1 h2 => by simp at h1)
theorem put_defers (a : Act) (d : Option Tmp) (v : Value) : (a.put d v).defers = a.defers := by cases d <;> rfl

structure Sound (P : Program) (tb : Tabs) : Prop where
  ty : TabsTy P tb
  call : CallOk P tb

theorem wanted_R {ops : Array Oper} {β : Bnd} {F : Fr} {T : List AV} {a : Act} (hT : RL β F T a.tmps.toList) {o : Oper} {b : Bool} (h : wantedA ops T o = some b) : Region.wanted o (yielded ops a.tmps) = b := by
  unfold wantedA at h
  unfold Region.wanted
  split at h
  · rename_i hg
    simp only [Option.some.injEq] at h
    simp [hg, h]
  · rename_i j b' hg
    simp only [hg]
    split at h
    · rename_i oj hj
      split at h
      · rename_i d hd
        split at h
        · rename_i c hc
          obtain ⟨x, hx, hr⟩ := F2.get? hT hc
          rw [Array.getElem?_toList] at hx
          cases hr with
          | pv hr =>
            cases hr
            simp only [Option.some.injEq] at h
            have : yielded ops a.tmps j = some c := by simp [yielded, hj, hd, hx]
            rw [this, ← h]
            rfl
        · rename_i hc
          obtain ⟨x, hx, hr⟩ := F2.get? hT hc
          rw [Array.getElem?_toList] at hx
          cases hr with
          | pv hr =>
            cases hr
            simp only [Option.some.injEq] at h
            have : yielded ops a.tmps j = none := by simp [yielded, hj, hd, hx]
            rw [this, ← h]
            rfl
        · simp at h
      · simp at h
    · simp at h

section
variable {P : Program} {tb : Tabs} (H : Sound P tb) {fi : FnI} {run : CallF} (hrun : RunOk P run)
include H hrun

theorem execV_wp {o : Oper} {T : List AV} {M M' : Mem} {v : AV} {β : Bnd} {F : Fr} {w : World} {a : Act} (hT : RL β F T a.tmps.toList) (S : Sim β F M w) (h : execV tb fi run T M o = some (v, M')) {K : Act → World → Prop} {Q : Exit → Act → World → Prop}
    (hK : ∀ β' F' x w', Ext β F M w β' F' M' w' → Sim β' F' M' w' → R β' F' v x → K (a.put o.dst x) w') : o.wp P a w K Q := by
  unfold execV at h
  split at h
  · rename_i v' N e
    simp only [Option.some.injEq, Prod.mk.injEq] at h
    obtain ⟨rfl, rfl⟩ := h
    obtain ⟨β', F', w', x, hy, X, S', r⟩ := step_val H.ty hT S e
    unfold Oper.wp
    rcases hy with hy | ⟨hy, rfl⟩
    · rw [hy]; exact hK β' F' x w' X S' r
    · rw [hy]; exact hK β' F' undef w' X S' r
  · rename_i f args e
    have hent : Enters P f := H.call.ent f (by
      unfold doCall at h
      split at h
      · rename_i g hg; exact .inl (by rw [hg]; rfl)
      · split at h
        · rename_i fn hfn; exact .inr (by rw [hfn]; rfl)
        · simp at h)
    obtain ⟨xs, hy, hx⟩ := step_call H.ty hT S hent e
    unfold Oper.wp
    rw [hy]
    refine Calls.mono (doCall_sound H.call hrun h hx S) fun e w' he => ?_
    cases e with
    | returned x => obtain ⟨β', F', X, S', r⟩ := he; exact hK β' F' x w' X S' r
    | panicked c => exact he.elim
    | outgrown => exact he.elim
  · simp at h

theorem runOp_wp {ops : Array Oper} {Q : Exit → Act → World → Prop} {i : Nat} {o : Oper} (hi : ops[i]? = some o) {s s' : St} (h : runOp tb fi run ops o s = some s') {β : Bnd} {F : Fr} {w : World} {a : Act} (hT : RL β F s.t a.tmps.toList) (S : Sim β F s.m w) {K : Act → World → Prop}
    (hK : ∀ β' F' x w', Ext β F s.m w β' F' s'.m w' → Sim β' F' s'.m w' → RL β' F' s'.t (a.put o.dst x).tmps.toList → K (a.put o.dst x) w') : wpOp P ops Q i K a w := by
  unfold wpOp
  simp only [hi]
  rcases runOp_some h with ⟨hw, rfl⟩ | ⟨v, M', hw, he, rfl⟩
  · rw [wanted_R hT hw]
    simp only [Bool.false_eq_true, if_false]
    exact hK β F undef w (.refl ..) S (putT_R hT (undef_R β F) o.dst)
  · rw [wanted_R hT hw]
    simp only [if_true]
    exact .inl (execV_wp H hrun hT S he fun β' F' x w' X S' r => hK β' F' x w' X S' (putT_R (RL.mono X.bnd X.fr hT) r o.dst))

/-- A region whose order is the listed one. -/
theorem runOps_wp {ops : Array Oper} {Q : Exit → Act → World → Prop} : ∀ {l : List Oper} {idx : List Nat} {s s' : St} {β : Bnd} {F : Fr} {w : World} {a : Act}, F2 (fun o i => ops[i]? = some o) l idx → runOps tb fi run ops l s = some s' → RL β F s.t a.tmps.toList → Sim β F s.m w →
    (∀ β' F' a' w', Ext β F s.m w β' F' s'.m w' → Sim β' F' s'.m w' → RL β' F' s'.t a'.tmps.toList → a'.defers = a.defers → Q .normal a' w') → wpOps P ops Q idx a w
  | [], _, s, s', β, F, w, a, .nil, h, hT, S, hQ => by
    simp only [runOps, Option.some.injEq] at h
    subst h
    exact hQ β F a w (.refl ..) S hT rfl
  | o :: l, i :: idx, s, s', β, F, w, a, .cons hi ht, h, hT, S, hQ => by
    simp only [runOps] at h
    split at h
    · rename_i s1 h1
      rw [wpOps_cons]
      refine runOp_wp H hrun hi h1 hT S fun β' F' x w' X S' hT' => ?_
      exact runOps_wp ht h hT' S' fun β2 F2 a2 w2 X2 S2 hT2 hd => hQ β2 F2 a2 w2 (X.trans X2) S2 hT2 (hd.trans (put_defers a o.dst x))
    · simp at h
end

/-! ### What is made ahead of time -/
/-- Objects that lie in the memory from a place on; none lies in a block. -/
def AtMem (M : Mem) (lo : Nat) (obs : List MObj) : Prop := ∀ i, i < obs.length → M[lo + i]? = obs[i]?
def Unborn (β : Bnd) (lo hi : Nat) : Prop := ∀ g n, lo ≤ g → g < hi → β.arr g n = none
/-- Only arrays of these places come to lie in a block. -/
def Born (β β' : Bnd) (lo hi : Nat) : Prop := ∀ g n bd, (g < lo ∨ hi ≤ g) → β'.arr g n = some bd → β.arr g n = some bd
theorem Born.trans {β β1 β2 : Bnd} {lo hi : Nat} (h : Born β β1 lo hi) (k : Born β1 β2 lo hi) : Born β β2 lo hi := fun g n bd hg hb => h g n bd hg (k g n bd hg hb)
theorem Born.mono {β β' : Bnd} {lo hi lo' hi' : Nat} (h : Born β β' lo hi) (h1 : lo' ≤ lo) (h2 : hi ≤ hi') : Born β β' lo' hi' := fun g n bd hg hb => h g n bd (by omega) hb

/-- A frozen list comes to be an array that the memory holds. -/
theorem Sim.clipAt {β : Bnd} {F : Fr} {M : Mem} {w : World} (S : Sim β F M w) {g : Nat} {es : List PV} {a : Option Addr} {c : Nat} (h : RP F (.cl es) (.slice a es.length c)) (hg : M[g]? = some (.arr (es.map .pv) es.length)) (hu : Unborn β g (g + 1)) :
    ∃ β', Sim β' F M w ∧ ExtW β F M w β' F M w ∧ Born β β' g (g + 1) ∧ R β' F (.gs g es.length 0 es.length) (.slice a es.length c) := by
  have hun : ∀ n, β.arr g n = none := fun n => hu g n (Nat.le_refl _) (by omega)
  cases h with
  | cl b o k vs ha hk hF hr =>
    let bd : Bind := ⟨if 0 < es.length then some (b, o) else none, es.length, k, false⟩
    have hk' : ∀ i (hi : i < (es.map AV.pv).length), (cells (es.map AV.pv)[i]).length = bd.k := fun i hi => by
      have hi' : i < es.length := by simpa using hi
      simp only [List.getElem_map, cells_pv, List.length_map]
      exact hk i hi'
    have hlen : (es.map AV.pv).length = es.length := by simp
    have hT : TurnT β F M M w (fun _ => False) g (es.map .pv) es.length bd M w := by
      refine ⟨hg, fun _ _ => rfl, .inr ⟨_, _, hg, Nat.le_refl _⟩, fun bd' h => by rw [hun] at h; simp at h, rfl, rfl, rfl, Nat.le_refl _, fun b' hb => ?_, fun _ _ _ _ h => h, fun _ h => h.elim, fun _ h => h, fun _ _ _ => rfl, fun _ _ _ _ => rfl, fun _ _ _ h => h.elim, ?_, fun b' h => by simp [bd] at h, Nat.le_refl _⟩
      · obtain ⟨es', fz', bd', h1, h2, h3⟩ := hb
        rw [hun] at h2; simp at h2
      · refine ⟨by simp [bd], by intro h; simpa [bd] using h, .inr ⟨rfl, b, o, fun hp => ?_, by simp [bd], by simp, hk', fun i hi j hj => ?_⟩⟩
        · simp only [bd]; rw [if_pos (by simpa using hp)]
        · have hi' : i < es.length := by simpa using hi
          have e : cells (es.map AV.pv)[i] = (pcells es[i]).map .pv := by simp [cells_pv]
          have hj' : j < (pcells es[i]).length := by rw [e] at hj; simpa using hj
          obtain ⟨f1, f2⟩ := hF i j hi' (by rw [← hk i hi']; exact hj')
          refine ⟨vs i j, f1, f2, ?_⟩
          have e2 : (cells (es.map AV.pv)[i])[j] = .pv (pcells es[i])[j] := by simp [cells_pv]
          rw [e2]
          exact .pv (hr i hi' j hj')
    obtain ⟨S', X⟩ := hT.simW S
    refine ⟨_, S', X, fun g' n bd' hg' hb => ?_, ?_⟩
    · rw [Bnd.put_ne β (by omega)] at hb; exact hb
    · have hb := Bnd.put_self β g (es.map AV.pv).length bd
      rw [hlen] at hb ⊢
      refine R.gs hb ⟨by simp [bd], Nat.le_refl _, fun hlt => ?_⟩
      simp only [bd] at hlt ⊢
      rw [if_pos hlt, ha hlt]
      simp

theorem ownFields_mem : ∀ (own : List Nat) {M M' : Mem} {cs cs' : List AV}, ownFields M cs own = (cs', M') → ∃ obs, M' = M ++ obs ∧ ∀ {β : Bnd} {F : Fr} {N : Mem} {w : World} {us : List Value}, Sim β F N w → RL β F cs us → AtMem N M.length obs → Unborn β M.length (M.length + obs.length) →
    ∃ β', Sim β' F N w ∧ ExtW β F N w β' F N w ∧ Born β β' M.length (M.length + obs.length) ∧ RL β' F cs' us
  | [], M, M', cs, cs', h => by
    simp only [ownFields, Prod.mk.injEq] at h
    obtain ⟨rfl, rfl⟩ := h
    exact ⟨[], by simp, fun {β F N w us} S hr _ _ => ⟨β, S, (Ext.refl ..).toExtW, fun _ _ _ _ h => h, hr⟩⟩
  | o :: own, M, M', cs, cs', h => by
    simp only [ownFields] at h
    split at h
    · rename_i es hes
      obtain ⟨obs, hM, hob⟩ := ownFields_mem own h
      refine ⟨.arr (es.map .pv) es.length :: obs, by simp [hM], fun {β F N w us} S hr hat hu => ?_⟩
      obtain ⟨x, hx, hR⟩ := F2.get? hr hes
      simp only [List.length_cons, List.length_append, List.length_nil] at hat hu hob ⊢
      cases hR with
      | pv hR =>
        have hsl : ∃ ad c, x = .slice ad es.length c := by cases hR; exact ⟨_, _, rfl⟩
        obtain ⟨ad, c, rfl⟩ := hsl
        obtain ⟨β1, S1, X1, B1, r1⟩ := S.clipAt (g := M.length) hR (by have := hat 0 (by simp); simpa using this) (fun g n h1 h2 => hu g n h1 (by omega))
        have hr1 : RL β1 F (cs.set o (.gs M.length es.length 0 es.length)) us := by
          have := F2.set (RL.mono X1.bnd (.refl _) hr) r1 o
          have e : us.set o (.slice ad es.length c) = us := by
            obtain ⟨hlt, he⟩ := List.getElem?_eq_some_iff.1 hx
            rw [← he]; exact List.set_getElem_self hlt
          rwa [e] at this
        obtain ⟨β2, S2, X2, B2, r2⟩ := hob S1 hr1 (fun i hi => by
          have := hat (i + 1) (by simpa using hi)
          simpa [Nat.add_assoc, Nat.add_comm 1 i] using this) (fun g n h1 h2 => by
          cases hb : β1.arr g n with
          | none => rfl
          | some bd =>
            have h3 := B1 g n bd (by omega) hb
            rw [hu g n (by omega) (by omega)] at h3
            simp at h3)
        exact ⟨β2, S2, X1.trans X2, (B1.mono (Nat.le_refl _) (by omega)).trans (B2.mono (by omega) (by omega)), r2⟩
    · exact ownFields_mem own h
end Go.Vm

namespace Go.Vm
variable [SymB] [SymV]
/-- A variable's block is made. -/
theorem Sim.varAt {β : Bnd} {F : Fr} {N : Mem} {w w1 : World} (S : Sim β F N w) {g : Nat} {e : AV} {vs : List Value} {E : TypeId} (hg : N[g]? = some (.arr [e] 0)) (hu : Unborn β g (g + 1)) (hw1 : w1.heap = w.heap.push (.cells vs.toArray E)) (hos : w1.os = w.os) (ht : w1.tape = w.tape) (hout : w1.output = w.output)
    (hr : RL β F (cells e) vs) (ho : allOne vs) : ∃ β', Sim β' F N w1 ∧ ExtW β F N w β' F N w1 ∧ Born β β' g (g + 1) ∧ R β' F (.p g 1 0 0) (.pointer (some ⟨w.heap.size, 0, none⟩)) := by
  have hun : ∀ n, β.arr g n = none := fun n => hu g n (Nat.le_refl _) (by omega)
  have hl := F2.length hr
  have hold : ∀ b, b < w.heap.size → w1.heap[b]? = w.heap[b]? := fun b hb => by rw [hw1]; simp [Array.getElem?_push, Nat.ne_of_lt hb]
  let bd : Bind := ⟨some (w.heap.size, 0), 1, vs.length, true⟩
  have hle : β.le (β.put g [e].length bd) := Bnd.le_put (.inl (hun _))
  have O : OwnOk (β.put g [e].length bd) F [e] 0 bd w1 w.heap.size := own_new S hle hw1 (fun i hi => by
      have : i = 0 := by simpa using hi
      subst this
      simpa using hl) (by simp) (by simp) (fun i hi j hj => by
      have : i = 0 := by simpa using hi
      subst this
      have hj' : j < (cells e).length := by simpa using hj
      have hj2 : j < vs.length := by omega
      exact ⟨vs[j], by simp [hj2], ho _ (List.getElem_mem _), by simpa using F2.get hr j hj' hj2⟩)
  have hT : TurnT β F N N w (fun _ => False) g [e] 0 bd N w1 := by
    refine ⟨hg, fun _ _ => rfl, .inr ⟨_, _, hg, Nat.le_refl _⟩, fun bd' h => by rw [hun] at h; simp at h, hos, ht, hout, by rw [hw1]; simp, fun b' hb => ?_, fun _ _ _ _ h => h, fun _ h => h.elim, fun _ h => h, fun b hb _ => hold b hb, fun b ents clock h => hold b (Array.getElem?_eq_some_iff.1 h).1, fun _ _ _ h => h.elim, ?_, fun b' _ h => .inl (by simp [bd] at h; omega), Nat.le_refl _⟩
    · obtain ⟨es', fz', bd', h1, h2, h3⟩ := hb
      rw [hun] at h2; simp at h2
    · exact ⟨by simp [bd], by simp, .inl ⟨rfl, w.heap.size, O⟩⟩
  obtain ⟨S', X⟩ := hT.simW S
  refine ⟨_, S', X, fun g' n bd' hg' hb => ?_, ?_⟩
  · rw [Bnd.put_ne β (by omega)] at hb; exact hb
  · have hb := Bnd.put_self β g [e].length bd
    have := R.p (F := F) (i := 0) (off := 0) hb (b := w.heap.size) (o := 0) rfl
    simpa using this

theorem alloc_born {P : Program} {tb : Tabs} (H : TabsTy P tb) {fi : FnI} {T : List AV} {M M' : Mem} {v : AV} {o : Oper} {t : TypeId} (ho : o.op = .alloc t) (h : stepOp tb fi T M o.dst o.op = .val v M') :
    ∃ obs, M' = M ++ obs ∧ ∀ {β : Bnd} {F : Fr} {N : Mem} {w : World} (ρ : Operand → Value), Sim β F N w → AtMem N M.length obs → Unborn β M.length (M.length + obs.length) →
      ∃ β' w' x, (execOp ρ o).run P w = .ok (.value x) w' ∧ Sim β' F N w' ∧ ExtW β F N w β' F N w' ∧ Born β β' M.length (M.length + obs.length) ∧ R β' F v x := by
  rw [ho] at h
  simp only [stepOp] at h
  split at h
  · rename_i ti hty
    obtain ⟨i, z, h1, h2, h3, h4, h5, h6, h7, h8, h9⟩ := (H.ty _ _ hty).info
    have hrun : ∀ (ρ : Operand → Value) (w : World), (execOp ρ o).run P w = .ok (.value (.pointer (some ⟨w.heap.size, 0, none⟩))) (w.alloc (.cells z.cells.toList.toArray t)) := fun ρ w => by
      simp [execOp, ho, Instr.alloc, zeroValue, typeInfo, h1, h4, newVar, newRow]
    generalize hl : ownOf fi o.dst = l at h
    cases l with
    | nil =>
      simp only [Res.val.injEq] at h
      obtain ⟨rfl, rfl⟩ := h
      refine ⟨_, rfl, fun {β F N w} ρ S hat hu => ?_⟩
      have hz : RL β F (cells (.pv (zeroOf ti))) z.cells.toList := zero_nrm (T := []) (a := { tmps := #[], defers := [] }) H .nil S hty (RL.of_pv (h5 F))
      obtain ⟨β', S', X, B, r⟩ := S.varAt (g := M.length) (w1 := w.alloc (.cells z.cells.toList.toArray t)) (by have := hat 0 (by simp); simpa using this) hu rfl rfl rfl rfl hz h6
      exact ⟨β', _, _, hrun ρ w, S', X, B, r⟩
    | cons l0 l =>
      rcases hof : ownFields M (ti.zero.map .pv) (l0 :: l) with ⟨cs', M1⟩
      simp only [hof] at h
      obtain ⟨obs, hM1, hob⟩ := ownFields_mem _ hof
      have key : ∀ e : AV, (∀ {β : Bnd} {F : Fr}, RL β F cs' z.cells.toList → RL β F (cells e) z.cells.toList) → v = .p M1.length 1 0 0 → M' = M1 ++ [.arr [e] 0] →
          ∃ obs, M' = M ++ obs ∧ ∀ {β : Bnd} {F : Fr} {N : Mem} {w : World} (ρ : Operand → Value), Sim β F N w → AtMem N M.length obs → Unborn β M.length (M.length + obs.length) →
            ∃ β' w' x, (execOp ρ o).run P w = .ok (.value x) w' ∧ Sim β' F N w' ∧ ExtW β F N w β' F N w' ∧ Born β β' M.length (M.length + obs.length) ∧ R β' F v x := by
        intro e he hv hM'
        subst hv
        refine ⟨obs ++ [.arr [e] 0], by rw [hM', hM1, List.append_assoc], fun {β F N w} ρ S hat hu => ?_⟩
        have hl1 : M1.length = M.length + obs.length := by rw [hM1]; simp
        simp only [List.length_append, List.length_cons, List.length_nil] at hu ⊢
        obtain ⟨β1, S1, X1, B1, r1⟩ := hob S (RL.of_pv (h5 F)) (fun i hi => by
          have := hat i (by simp; omega)
          rwa [List.getElem?_append_left hi] at this) (fun g n g1 g2 => hu g n g1 (by omega))
        obtain ⟨β2, S2, X2, B2, r2⟩ := S1.varAt (g := M1.length) (w1 := w.alloc (.cells z.cells.toList.toArray t)) (by
            have := hat obs.length (by simp)
            rw [hl1]; simpa using this) (fun g n g1 g2 => by
            cases hb : β1.arr g n with
            | none => rfl
            | some bd =>
              have h3 := B1 g n bd (by omega) hb
              rw [hu g n (by omega) (by omega)] at h3
              simp at h3) rfl rfl rfl rfl (he r1) h6
        exact ⟨β2, _, _, hrun ρ w, S2, X1.trans X2, (B1.mono (Nat.le_refl _) (by omega)).trans (B2.mono (by omega) (by omega)), r2⟩
      split at h
      · simp only [Res.val.injEq] at h
        obtain ⟨rfl, rfl⟩ := h
        exact key _ (fun hr => by rw [cells_mkAgg]; exact RL.nrms'' hr) rfl rfl
      · split at h
        · rename_i c
          simp only [Res.val.injEq] at h
          obtain ⟨rfl, rfl⟩ := h
          refine key _ (fun {β F} r => ?_) rfl rfl
          cases hzc : z.cells.toList with
          | nil => rw [hzc] at r; cases r
          | cons x l =>
            rw [hzc] at r h6
            cases r with
            | cons hr ht =>
              cases ht
              rw [hr.nrm.cells_one (h6 x (by simp))]
              exact .cons hr.nrm .nil
        · simp at h
  · simp at h
end Go.Vm
