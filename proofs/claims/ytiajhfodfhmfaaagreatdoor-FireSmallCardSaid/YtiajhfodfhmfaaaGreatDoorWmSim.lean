/- The memory side by side with the world; what stays, what is new; freezing. -/
import Derived.Test.YtiajhfodfhmfaaaGreatDoorWmRel
set_option linter.unusedVariables false
set_option linter.unusedSimpArgs false
set_option linter.unusedSectionVars false
namespace Go.Vm
variable [SymB] [SymV]

/-! ### The memory and the world -/
structure OwnOk (β : Bnd) (F : Fr) (es : List AV) (fz : Nat) (bd : Bind) (w : World) (b : Nat) : Prop where
  base : bd.base = some (b, 0)
  lt : b < w.heap.size
  there : ∀ o, o < bd.cap * bd.k → (w.cell? ⟨b, o, none⟩).isSome = true ∧ w.frozen? ⟨b, o, none⟩ = false
  len : ∀ i (hi : i < es.length), (cells es[i]).length = bd.k
  val : ∀ i (hi : i < es.length) j (hj : j < (cells es[i]).length), ∃ v, w.cell? ⟨b, i * bd.k + j, none⟩ = some v ∧ v.oneCell' = true ∧ R β F (cells es[i])[j] v
  free : ∀ o, fz * bd.k ≤ o → F b o = none
structure FrOk (β : Bnd) (F : Fr) (es : List AV) (fz : Nat) (bd : Bind) (b o : Nat) : Prop where
  base : 0 < es.length → bd.base = some (b, o)
  cap : bd.cap = es.length
  fz : es.length ≤ fz
  len : ∀ i (hi : i < es.length), (cells es[i]).length = bd.k
  val : ∀ i (hi : i < es.length) j (hj : j < (cells es[i]).length), ∃ v, F b (o + i * bd.k + j) = some v ∧ v.oneCell' = true ∧ R β F (cells es[i])[j] v
structure ArrOk (β : Bnd) (F : Fr) (es : List AV) (fz : Nat) (bd : Bind) (w : World) : Prop where
  room : es.length ≤ bd.cap
  empty : es = [] → bd.cap = 0
  kind : (bd.own = true ∧ ∃ b, OwnOk β F es fz bd w b) ∨ (bd.own = false ∧ ∃ b o, FrOk β F es fz bd b o)
def MapOk (F : Fr) (es : List (PV × PV)) (w : World) (b : Nat) : Prop :=
  ∃ ents clock, w.heap[b]? = some (.map ents clock) ∧ F2 (fun (p : PV × PV) (e : MapEntry) => RP F p.1 e.key ∧ RP F p.2 e.val) es ents.toList

/-- Block b is an array's own, or a map. -/
def OwnA (β : Bnd) (M : Mem) (g b : Nat) : Prop := ∃ es fz bd, M[g]? = some (.arr es fz) ∧ β.arr g es.length = some bd ∧ bd.own = true ∧ bd.base = some (b, 0)
def Own (β : Bnd) (M : Mem) (b : Nat) : Prop := (∃ g, OwnA β M g b) ∨ (∃ g es, M[g]? = some (.map es) ∧ β.map g = some b)

structure Sim (β : Bnd) (F : Fr) (M : Mem) (w : World) : Prop where
  frz : ∀ b o v, F b o = some v → w.cell? ⟨b, o, none⟩ = some v
  arr : ∀ g es fz bd, M[g]? = some (.arr es fz) → β.arr g es.length = some bd → ArrOk β F es fz bd w
  map : ∀ g es b, M[g]? = some (.map es) → β.map g = some b → MapOk F es w b
  ver : ∀ g n bd, β.arr g n = some bd → M[g]? = some .dead ∨ ∃ es fz, M[g]? = some (.arr es fz) ∧ n ≤ es.length
  vem : ∀ g b, β.map g = some b → ∃ es, M[g]? = some (.map es)
  inj : ∀ g g' b, OwnA β M g b → OwnA β M g' b → g = g'
  inm : ∀ g g' b, β.map g = some b → β.map g' = some b → g = g'

theorem Sim.dom {β : Bnd} {F : Fr} {M : Mem} {w : World} (S : Sim β F M w) {g n : Nat} {bd : Bind} (h : β.arr g n = some bd) : g < M.length := by
  rcases S.ver g n bd h with h | ⟨_, _, h, _⟩ <;> exact (List.getElem?_eq_some_iff.1 h).1

structure ExtW (β : Bnd) (F : Fr) (M : Mem) (w : World) (β' : Bnd) (F' : Fr) (M' : Mem) (w' : World) : Prop where
  bnd : β.le β'
  fr : F.le F'
  os : w'.os = w.os
  tape : w'.tape = w.tape
  output : w'.output = w.output
  size : w.heap.size ≤ w'.heap.size
  heap : ∀ b, b < w.heap.size → ¬ Own β M b → w'.heap[b]? = w.heap[b]?
  new : ∀ b o, F b o = none → F' b o ≠ none → w.heap.size ≤ b ∨ Own β M b
  own : ∀ b, Own β' M' b → w.heap.size ≤ b ∨ Own β M b
  mlen : M.length ≤ M'.length
/-- Besides: no array that lay in no block has come to lie in one. -/
structure Ext (β : Bnd) (F : Fr) (M : Mem) (w : World) (β' : Bnd) (F' : Fr) (M' : Mem) (w' : World) : Prop extends ExtW β F M w β' F' M' w' where
  bound : ∀ g n bd, g < M.length → β'.arr g n = some bd → ∃ n0 bd0, β.arr g n0 = some bd0

theorem Ext.refl (β : Bnd) (F : Fr) (M : Mem) (w : World) : Ext β F M w β F M w :=
  ⟨⟨.refl _, .refl _, rfl, rfl, rfl, Nat.le_refl _, fun _ _ _ => rfl, fun _ _ h k => absurd h k, fun _ h => .inr h, Nat.le_refl _⟩, fun _ n bd _ h => ⟨n, bd, h⟩⟩
theorem ExtW.trans {β β1 β2 : Bnd} {F F1 F2 : Fr} {M M1 M2 : Mem} {w w1 w2 : World} (h : ExtW β F M w β1 F1 M1 w1) (k : ExtW β1 F1 M1 w1 β2 F2 M2 w2) : ExtW β F M w β2 F2 M2 w2 where
  bnd := h.bnd.trans k.bnd
  fr := h.fr.trans k.fr
  os := k.os.trans h.os
  tape := k.tape.trans h.tape
  output := k.output.trans h.output
  size := Nat.le_trans h.size k.size
  heap b hb hn := by
    rw [k.heap b (Nat.lt_of_lt_of_le hb h.size) fun ho => (h.own b ho).elim (fun hl => by omega) hn, h.heap b hb hn]
  new b o hF hF' := by
    cases h1 : F1 b o with
    | none => exact (k.new b o h1 hF').elim (fun hl => .inl (Nat.le_trans h.size hl)) (h.own b)
    | some v => exact h.new b o hF (by simp [h1])
  own b ho := (k.own b ho).elim (fun hl => .inl (Nat.le_trans h.size hl)) (h.own b)
  mlen := Nat.le_trans h.mlen k.mlen
theorem Ext.trans {β β1 β2 : Bnd} {F F1 F2 : Fr} {M M1 M2 : Mem} {w w1 w2 : World} (h : Ext β F M w β1 F1 M1 w1) (k : Ext β1 F1 M1 w1 β2 F2 M2 w2) : Ext β F M w β2 F2 M2 w2 :=
  ⟨h.toExtW.trans k.toExtW, fun g n bd hg hb => by
    obtain ⟨n1, bd1, h1⟩ := k.bound g n bd (by have := h.mlen; omega) hb
    exact h.bound g n1 bd1 hg h1⟩

/-- What was the memory's is the elder memory's. -/
theorem Ext.from_ {β β' : Bnd} {F F' : Fr} {M0 M M' : Mem} {w w' : World} (h : Ext β F M w β' F' M' w') (k : ∀ b, Own β M b → Own β M0 b) (hl : M0.length ≤ M.length) : Ext β F M0 w β' F' M' w' :=
  ⟨⟨h.bnd, h.fr, h.os, h.tape, h.output, h.size, fun b hb hn => h.heap b hb fun ho => hn (k b ho), fun b o h1 h2 => (h.new b o h1 h2).imp id (k b), fun b hb => (h.own b hb).imp id (k b), Nat.le_trans hl h.mlen⟩, fun g n bd hg => h.bound g n bd (Nat.lt_of_lt_of_le hg hl)⟩

/-- Only the heap counts. -/
theorem cell?_heap {w w' : World} (h : w'.heap = w.heap) (a : Addr) : w'.cell? a = w.cell? a := by simp [World.cell?, h]
theorem frozen?_heap {w w' : World} (h : w'.heap = w.heap) (a : Addr) : w'.frozen? a = w.frozen? a := by simp [World.frozen?, h]
theorem Sim.of_heap {β : Bnd} {F : Fr} {M : Mem} {w w' : World} (S : Sim β F M w) (h : w'.heap = w.heap) : Sim β F M w' where
  frz b o v hv := by rw [cell?_heap h]; exact S.frz b o v hv
  arr g es fz bd hg hb := by
    have A := S.arr g es fz bd hg hb
    refine ⟨A.room, A.empty, A.kind.imp ?_ id⟩
    rintro ⟨ho, b, O⟩
    exact ⟨ho, b, O.base, by rw [h]; exact O.lt, fun o hl => by rw [cell?_heap h, frozen?_heap h]; exact O.there o hl, O.len, fun i hi j hj => by rw [cell?_heap h]; exact O.val i hi j hj, O.free⟩
  map g es b hg hb := by
    obtain ⟨ents, clock, h1, h2⟩ := S.map g es b hg hb
    exact ⟨ents, clock, by rw [h]; exact h1, h2⟩
  ver := S.ver
  vem := S.vem
  inj := S.inj
  inm := S.inm
theorem Ext.of_heap {β : Bnd} {F : Fr} {M : Mem} {w w' : World} (h : w'.heap = w.heap) (ho : w'.os = w.os) (ht : w'.tape = w.tape) (hout : w'.output = w.output) : Ext β F M w β F M w' :=
  ⟨⟨.refl _, .refl _, ho, ht, hout, by rw [h]; exact Nat.le_refl _, fun _ _ _ => by rw [h], fun _ _ h k => absurd h k, fun _ h => .inr h, Nat.le_refl _⟩, fun _ n bd _ h => ⟨n, bd, h⟩⟩

/-- Where an element's cells lie. -/
theorem ArrOk.read {β : Bnd} {F : Fr} {es : List AV} {fz : Nat} {bd : Bind} {w : World} (A : ArrOk β F es fz bd w) (hz : ∀ b o v, F b o = some v → w.cell? ⟨b, o, none⟩ = some v) {i : Nat} (hi : i < es.length) :
    ∃ b o, bd.base = some (b, o) ∧ (cells es[i]).length = bd.k ∧ ∀ j (hj : j < (cells es[i]).length), ∃ v, w.cell? ⟨b, o + i * bd.k + j, none⟩ = some v ∧ v.oneCell' = true ∧ R β F (cells es[i])[j] v := by
  rcases A.kind with ⟨_, b, O⟩ | ⟨_, b, o, O⟩
  · exact ⟨b, 0, O.base, O.len i hi, fun j hj => by simpa using O.val i hi j hj⟩
  · refine ⟨b, o, O.base (by omega), O.len i hi, fun j hj => ?_⟩
    obtain ⟨v, h1, h2⟩ := O.val i hi j hj
    exact ⟨v, hz _ _ _ h1, h2⟩

theorem getArr_some {M : Mem} {g n : Nat} {es : List AV} {fz : Nat} (h : getArr M g n = some (es, fz)) : M[g]? = some (.arr es fz) ∧ es.length = n := by
  unfold getArr at h
  split at h
  · rename_i es' fz' hg
    split at h
    · rename_i hl
      simp only [Option.some.injEq, Prod.mk.injEq] at h
      obtain ⟨rfl, rfl⟩ := h
      exact ⟨hg, hl⟩
    · simp at h
  · simp at h
theorem getMap_some {M : Mem} {g : Nat} {es : List (PV × PV)} (h : getMap M g = some es) : M[g]? = some (.map es) := by
  unfold getMap at h
  split at h
  · rename_i es' hg; simp only [Option.some.injEq] at h; rw [← h]; exact hg
  · simp at h

/-! ### Marks alone -/
/-- M' is M, but that more may be written no more. -/
def Fz (M M' : Mem) : Prop := M'.length = M.length ∧ ∀ g : Nat, (∃ es fz fz', M[g]? = some (.arr es fz) ∧ M'[g]? = some (.arr es fz') ∧ fz ≤ fz') ∨ M'[g]? = M[g]?
theorem Fz.refl (M : Mem) : Fz M M := ⟨rfl, fun _ => .inr rfl⟩
theorem Fz.trans {M M1 M2 : Mem} (h : Fz M M1) (k : Fz M1 M2) : Fz M M2 := by
  refine ⟨k.1.trans h.1, fun g => ?_⟩
  rcases h.2 g with ⟨es, fz, fz', h1, h2, h3⟩ | h1 <;> rcases k.2 g with ⟨es', fz1, fz2, k1, k2, k3⟩ | k1
  · rw [h2] at k1; simp only [Option.some.injEq, MObj.arr.injEq] at k1; obtain ⟨rfl, rfl⟩ := k1
    exact .inl ⟨es, fz, fz2, h1, k2, Nat.le_trans h3 k3⟩
  · exact .inl ⟨es, fz, fz', h1, by rw [k1]; exact h2, h3⟩
  · exact .inl ⟨es', fz1, fz2, by rw [← h1]; exact k1, k2, k3⟩
  · exact .inr (k1.trans h1)
theorem Fz.set {M : Mem} {g : Nat} {es : List AV} {fz fz' : Nat} (hg : M[g]? = some (.arr es fz)) (h : fz ≤ fz') : Fz M (M.set g (.arr es fz')) := by
  have hl := (List.getElem?_eq_some_iff.1 hg).1
  refine ⟨by simp, fun g' => ?_⟩
  by_cases e : g' = g
  · subst e; exact .inl ⟨es, fz, fz', hg, by simp [hl], h⟩
  · exact .inr (by rw [List.getElem?_set_ne (Ne.symm e)])
theorem Fz.ownA {M M' : Mem} (h : Fz M M') {β : Bnd} {g b : Nat} : OwnA β M' g b ↔ OwnA β M g b := by
  constructor
  · rintro ⟨es, fz, bd, h1, h2⟩
    rcases h.2 g with ⟨es', fz1, fz2, k1, k2, _⟩ | k1
    · rw [k2] at h1; simp only [Option.some.injEq, MObj.arr.injEq] at h1; obtain ⟨rfl, rfl⟩ := h1
      exact ⟨es', fz1, bd, k1, h2⟩
    · exact ⟨es, fz, bd, by rw [← k1]; exact h1, h2⟩
  · rintro ⟨es, fz, bd, h1, h2⟩
    rcases h.2 g with ⟨es', fz1, fz2, k1, k2, _⟩ | k1
    · rw [k1] at h1; simp only [Option.some.injEq, MObj.arr.injEq] at h1; obtain ⟨rfl, rfl⟩ := h1
      exact ⟨es', fz2, bd, k2, h2⟩
    · exact ⟨es, fz, bd, by rw [k1]; exact h1, h2⟩
theorem Fz.own {M M' : Mem} (h : Fz M M') {β : Bnd} {b : Nat} : Own β M' b ↔ Own β M b := by
  unfold Own
  refine or_congr (exists_congr fun g => h.ownA) (exists_congr fun g => exists_congr fun es => and_congr_left fun _ => ?_)
  rcases h.2 g with ⟨es', fz1, fz2, k1, k2, _⟩ | k1
  · simp [k1, k2]
  · rw [k1]

/-- More stays, on the blocks of arrays of the memory alone. -/
theorem Sim.fz {β : Bnd} {F F' : Fr} {M M' : Mem} {w : World} (S : Sim β F M w) (hM : Fz M M') (hF : F.le F') (hz : ∀ b o v, F' b o = some v → w.cell? ⟨b, o, none⟩ = some v)
    (hfree : ∀ g es fz bd b, M'[g]? = some (.arr es fz) → β.arr g es.length = some bd → bd.own = true → bd.base = some (b, 0) → ∀ o, fz * bd.k ≤ o → F' b o = none) : Sim β F' M' w where
  frz := hz
  arr g es fz bd hg hb := by
    have key : ∀ fz0, M[g]? = some (.arr es fz0) → fz0 ≤ fz → ArrOk β F' es fz bd w := by
      intro fz0 h0 hle
      have A := S.arr g es fz0 bd h0 hb
      refine ⟨A.room, A.empty, ?_⟩
      rcases A.kind with ⟨ho, b, O⟩ | ⟨ho, b, o, O⟩
      · exact .inl ⟨ho, b, O.base, O.lt, O.there, O.len, fun i hi j hj => by
          obtain ⟨v, h1, h2, h3⟩ := O.val i hi j hj
          exact ⟨v, h1, h2, h3.mono (.refl _) hF⟩, hfree g es fz bd b hg hb ho O.base⟩
      · exact .inr ⟨ho, b, o, O.base, O.cap, Nat.le_trans O.fz hle, O.len, fun i hi j hj => by
          obtain ⟨v, h1, h2, h3⟩ := O.val i hi j hj
          exact ⟨v, hF _ _ _ h1, h2, h3.mono (.refl _) hF⟩⟩
    rcases hM.2 g with ⟨es', fz1, fz2, k1, k2, k3⟩ | k1
    · rw [k2] at hg; simp only [Option.some.injEq, MObj.arr.injEq] at hg; obtain ⟨rfl, rfl⟩ := hg
      exact key fz1 k1 k3
    · exact key fz (by rw [← k1]; exact hg) (Nat.le_refl _)
  map g es b hg hb := by
    have h0 : M[g]? = some (.map es) := by
      rcases hM.2 g with ⟨es', fz1, fz2, k1, k2, k3⟩ | k1
      · rw [k2] at hg; simp at hg
      · rw [← k1]; exact hg
    obtain ⟨ents, clock, h1, h2⟩ := S.map g es b h0 hb
    exact ⟨ents, clock, h1, F2.mono h2 fun _ _ _ h => ⟨h.1.mono hF, h.2.mono hF⟩⟩
  ver g n bd hb := by
    rcases hM.2 g with ⟨es', fz1, fz2, k1, k2, k3⟩ | k1
    · rcases S.ver g n bd hb with h | ⟨es, fz, h, hn⟩
      · rw [k1] at h; simp at h
      · rw [k1] at h; simp only [Option.some.injEq, MObj.arr.injEq] at h; obtain ⟨rfl, rfl⟩ := h
        exact .inr ⟨_, _, k2, hn⟩
    · rw [k1]; exact S.ver g n bd hb
  vem g b hb := by
    obtain ⟨es, h⟩ := S.vem g b hb
    rcases hM.2 g with ⟨es', fz1, fz2, k1, k2, k3⟩ | k1
    · rw [k1] at h; simp at h
    · exact ⟨es, by rw [k1]; exact h⟩
  inj g g' b h h' := S.inj g g' b (hM.ownA.1 h) (hM.ownA.1 h')
  inm := S.inm

/-! ### Freezing -/
/-- A value whose cells these are. -/
theorem R.of_cells {β : Bnd} {F : Fr} {e : AV} {vs : List Value} (h : RL β F (Vm.cells e) vs) (ho : allOne vs) : ∃ x : Value, R β F e x ∧ x.cells.toList = vs ∧ (x.oneCell' = true ∨ Vm.isAgg e = true) := by
  by_cases ha : Vm.isAgg e = true
  · have key : ∃ cs, Vm.cells e = cs ∧ (e = .agg cs ∨ ∃ ps, e = .pv (.agg ps) ∧ cs = ps.map .pv) := by
      cases e with
      | pv p => cases p <;> simp [Vm.isAgg] at ha
                exact ⟨_, rfl, .inr ⟨_, rfl, rfl⟩⟩
      | agg cs => exact ⟨_, rfl, .inl rfl⟩
      | _ => simp [Vm.isAgg] at ha
    obtain ⟨cs, hcs, he⟩ := key
    rw [hcs] at h
    refine ⟨.agg vs.toArray, ?_, rfl, .inr ha⟩
    rcases he with rfl | ⟨ps, rfl, rfl⟩
    · exact .agg (by simpa using h.length) (fun i hi => ho _ (by simp)) fun i h1 h2 => by simpa using F2.get h i h1 (by simpa using h2)
    · have h' := RPL.of_RL h
      exact .pv (.agg (by simpa using h'.length) (fun i hi => ho _ (by simp)) fun i h1 h2 => by simpa using F2.get h' i h1 (by simpa using h2))
  · have hc : Vm.cells e = [e] := by
      cases e with
      | pv p => cases p <;> first | rfl | simp [Vm.isAgg] at ha
      | agg => simp [Vm.isAgg] at ha
      | _ => rfl
    rw [hc] at h
    cases h with
    | cons h t => cases t with
      | nil => exact ⟨_, h, by rw [Vm.cells_one (ho _ (by simp))], .inl (ho _ (by simp))⟩

def ElsOk (β : Bnd) (F : Fr) : List AV → List (List Value) → Prop := F2 fun e vs => RL β F (cells e) vs ∧ allOne vs

/-- What freezing gives: more stays, marks alone turn. -/
structure Frozen (β : Bnd) (F : Fr) (M : Mem) (w : World) (F' : Fr) (M' : Mem) : Prop where
  fz : Fz M M'
  sim : Sim β F' M' w
  fr : F.le F'
  new : ∀ b o, F b o = none → F' b o ≠ none → Own β M b
theorem Frozen.refl {β : Bnd} {F : Fr} {M : Mem} {w : World} (S : Sim β F M w) : Frozen β F M w F M := ⟨.refl _, S, .refl _, fun _ _ h k => absurd h k⟩
theorem Frozen.trans {β : Bnd} {F F1 F2 : Fr} {M M1 M2 : Mem} {w : World} (h : Frozen β F M w F1 M1) (k : Frozen β F1 M1 w F2 M2) : Frozen β F M w F2 M2 :=
  ⟨h.fz.trans k.fz, k.sim, h.fr.trans k.fr, fun b o hF hF' => by
    cases h1 : F1 b o with
    | none => exact h.fz.own.1 (k.new b o h1 hF')
    | some v => exact h.new b o hF (by simp [h1])⟩
theorem Frozen.ext {β : Bnd} {F F' : Fr} {M M' : Mem} {w : World} (h : Frozen β F M w F' M') : Ext β F M w β F' M' w :=
  ⟨⟨.refl _, h.fr, rfl, rfl, rfl, Nat.le_refl _, fun _ _ _ => rfl, fun b o h1 h2 => .inr (h.new b o h1 h2), fun b hb => .inr (h.fz.own.1 hb), Nat.le_of_eq h.fz.1.symm⟩, fun _ n bd _ h => ⟨n, bd, h⟩⟩

theorem freezeL_sound {β : Bnd} {w : World} {f : Mem → AV → Option (PV × Mem)}
    (hf : ∀ M a p M' F x, f M a = some (p, M') → R β F a x → Sim β F M w → ∃ F', Frozen β F M w F' M' ∧ RP F' p x) :
    ∀ (l : List AV) (M : Mem) (ps : List PV) (M' : Mem) (F : Fr) (xs : List Value), freezeL f M l = some (ps, M') → RL β F l xs → Sim β F M w → ∃ F', Frozen β F M w F' M' ∧ RPL F' ps xs
  | [], M, ps, M', F, xs, h, hr, S => by
    simp only [freezeL, Option.some.injEq, Prod.mk.injEq] at h
    obtain ⟨rfl, rfl⟩ := h
    cases hr
    exact ⟨F, .refl S, .nil⟩
  | a :: l, M, ps, M', F, xs, h, hr, S => by
    simp only [freezeL] at h
    cases h1 : f M a with
    | none => simp [h1] at h
    | some q =>
      obtain ⟨p, M1⟩ := q
      simp only [h1] at h
      cases h2 : freezeL f M1 l with
      | none => simp [h2] at h
      | some q2 =>
        obtain ⟨ps', M2⟩ := q2
        simp only [h2, Option.some.injEq, Prod.mk.injEq] at h
        obtain ⟨rfl, rfl⟩ := h
        cases hr with
        | cons hr ht =>
          obtain ⟨F1, k1, r1⟩ := hf M a p M1 F _ h1 hr S
          obtain ⟨F2, k2, r2⟩ := freezeL_sound hf l M1 ps' M2 F1 _ h2 (RL.mono (.refl _) k1.fr ht) k1.sim
          exact ⟨F2, k1.trans k2, .cons (r1.mono k2.fr) r2⟩

theorem RP.cells_of {F : Fr} {p : PV} {x : Value} {vs : List Value} (h : RP F p x) (hx : x.cells.toList = vs) (ho : allOne vs) (h1 : x.oneCell' = true ∨ ∃ cs, p = .agg cs) : RPL F (pcells p) vs := by
  subst hx
  rcases h1 with h1 | ⟨cs, rfl⟩
  · rw [h.cells_one h1, Vm.cells_one h1]; exact .cons h .nil
  · cases h with
    | agg hl ho h => exact F2.of_arr hl h

theorem freeze_agg : ∀ (d : Nat) (M : Mem) (e : AV) (p : PV) (M' : Mem), freeze d M e = some (p, M') → isAgg e = true → ∃ cs, p = .agg cs
  | d, M, .pv v, p, M', h, ha => by
    cases v <;> simp [isAgg] at ha
    simp only [freeze, nrmP, Option.some.injEq, Prod.mk.injEq] at h
    exact ⟨_, h.1.symm⟩
  | 0, M, .agg cs, p, M', h, ha => by simp [freeze] at h
  | d + 1, M, .agg cs, p, M', h, ha => by
    simp only [freeze] at h
    split at h
    · simp only [Option.some.injEq, Prod.mk.injEq] at h; exact ⟨_, h.1.symm⟩
    · simp at h
  | _, _, .tup _, _, _, _, ha | _, _, .gs .., _, _, _, ha | _, _, .p .., _, _, _, ha | _, _, .ep .., _, _, _, ha | _, _, .fn .., _, _, _, ha | _, _, .ifc .., _, _, _, ha | _, _, .mp _, _, _, _, ha => by simp [isAgg] at ha

/-- Elements, frozen one behind the other: their cells. -/
theorem freezeEls_sound {β : Bnd} {w : World} {d : Nat}
    (hf : ∀ M a p M' F x, freeze d M a = some (p, M') → R β F a x → Sim β F M w → ∃ F', Frozen β F M w F' M' ∧ RP F' p x) :
    ∀ (l : List AV) (M : Mem) (ps : List PV) (M' : Mem) (F : Fr) (vss : List (List Value)), freezeL (freeze d) M l = some (ps, M') → ElsOk β F l vss → Sim β F M w → ∃ F', Frozen β F M w F' M' ∧ F2 (fun p vs => RPL F' (pcells p) vs) ps vss
  | [], M, ps, M', F, xs, h, hr, S => by
    simp only [freezeL, Option.some.injEq, Prod.mk.injEq] at h
    obtain ⟨rfl, rfl⟩ := h
    cases hr
    exact ⟨F, .refl S, .nil⟩
  | a :: l, M, ps, M', F, xs, h, hr, S => by
    simp only [freezeL] at h
    cases h1 : freeze d M a with
    | none => simp [h1] at h
    | some q =>
      obtain ⟨p, M1⟩ := q
      simp only [h1] at h
      cases h2 : freezeL (freeze d) M1 l with
      | none => simp [h2] at h
      | some q2 =>
        obtain ⟨ps', M2⟩ := q2
        simp only [h2, Option.some.injEq, Prod.mk.injEq] at h
        obtain ⟨rfl, rfl⟩ := h
        cases hr with
        | cons hr ht =>
          obtain ⟨x, hx, hxc, hxo⟩ := R.of_cells hr.1 hr.2
          obtain ⟨F1, k1, r1⟩ := hf M a p M1 F x h1 hx S
          have hcell : RPL F1 (pcells p) _ := r1.cells_of hxc hr.2 (hxo.imp id fun ha => freeze_agg d M a p M1 h1 ha)
          obtain ⟨F2, k2, r2⟩ := freezeEls_sound hf l M1 ps' M2 F1 _ h2 (F2.mono ht fun _ _ _ h => ⟨h.1.mono (.refl _) k1.fr, h.2⟩) k1.sim
          exact ⟨F2, k1.trans k2, .cons (hcell.mono k2.fr) r2⟩

/-- The cells of an array's elements. -/
theorem ArrOk.els {β : Bnd} {F : Fr} {es : List AV} {fz : Nat} {bd : Bind} {w : World} (A : ArrOk β F es fz bd w) (hz : ∀ b o v, F b o = some v → w.cell? ⟨b, o, none⟩ = some v) (hne : 0 < es.length) :
    ∃ b o vss, bd.base = some (b, o) ∧ ElsOk β F es vss ∧ (∀ i vs, vss[i]? = some vs → vs.length = bd.k ∧ ∀ j v, vs[j]? = some v → w.cell? ⟨b, o + i * bd.k + j, none⟩ = some v) := by
  have hb : ∃ b o, bd.base = some (b, o) := by obtain ⟨b, o, h, _⟩ := A.read hz hne; exact ⟨b, o, h⟩
  obtain ⟨b, o, hb⟩ := hb
  have hl : ∀ i (hi : i < es.length), (cells es[i]).length = bd.k := fun i hi => by obtain ⟨_, _, _, h, _⟩ := A.read hz hi; exact h
  have hv : ∀ i (hi : i < es.length) j (hj : j < (cells es[i]).length), ∃ v, w.cell? ⟨b, o + i * bd.k + j, none⟩ = some v ∧ v.oneCell' = true ∧ R β F (cells es[i])[j] v := fun i hi j hj => by
    obtain ⟨b', o', h, _, h2⟩ := A.read hz hi
    rw [hb] at h; simp only [Option.some.injEq, Prod.mk.injEq] at h; obtain ⟨rfl, rfl⟩ := h
    exact h2 j hj
  let cell (i j : Nat) : Value := (w.cell? ⟨b, o + i * bd.k + j, none⟩).getD undef
  let row (i : Nat) : List Value := (List.range bd.k).map (cell i)
  refine ⟨b, o, (List.range es.length).map row, hb, ?_, ?_⟩
  · refine F2.of_get (by simp) fun i h1 h2 => ?_
    have hrow : ((List.range es.length).map row)[i]'h2 = row i := by simp
    rw [hrow]
    refine ⟨F2.of_get (by simp [row, hl i h1]) fun j g1 g2 => ?_, fun v hv' => ?_⟩
    · obtain ⟨v, e1, e2, e3⟩ := hv i h1 j g1
      have : (row i)[j]'g2 = v := by simp [row, cell, e1]
      rw [this]; exact e3
    · obtain ⟨j, hj, rfl⟩ := List.mem_map.1 hv'
      obtain ⟨v, e1, e2, e3⟩ := hv i h1 j (by rw [hl i h1]; simpa using hj)
      simp [cell, e1, e2]
  · intro i vs hvs
    obtain ⟨hi, rfl⟩ := List.getElem?_eq_some_iff.1 hvs
    have hi' : i < es.length := by simpa using hi
    refine ⟨by simp [row], fun j v hjv => ?_⟩
    simp only [List.getElem_map, List.getElem_range, row, List.getElem?_map, List.getElem?_range] at hjv
    by_cases hj : j < bd.k
    · simp [hj] at hjv
      obtain ⟨v', e1, _⟩ := hv i hi' j (by rw [hl i hi']; exact hj)
      simp [cell, e1] at hjv
      rw [e1, hjv]
    · simp [hj] at hjv

/-- A list that stays, out of its elements' cells. -/
theorem RP.sl_of {F : Fr} {ps : List PV} {vss : List (List Value)} {a : Option Addr} {b o k cap : Nat} (h : F2 (fun p vs => RPL F (pcells p) vs) ps vss)
    (hv : ∀ i vs, vss[i]? = some vs → vs.length = k ∧ ∀ j v, vs[j]? = some v → F b (o + i * k + j) = some v ∧ v.oneCell' = true) (ha : 0 < ps.length → a = some ⟨b, o, none⟩) (hc : ps.length ≤ cap) :
    RP F (.sl ps) (.slice a ps.length cap) := by
  have hg : ∀ i (hi : i < ps.length), ∃ vs, vss[i]? = some vs ∧ RPL F (pcells ps[i]) vs := fun i hi => h.get? (List.getElem?_eq_getElem hi)
  have hl : ∀ i (hi : i < ps.length), (pcells ps[i]).length = k := fun i hi => by
    obtain ⟨vs, h1, h2⟩ := hg i hi
    rw [h2.length, (hv i vs h1).1]
  have hlen := h.length
  refine .sl b o k (fun i j => ((vss[i]?.getD [])[j]?).getD undef) hc ha hl (fun i j hi hj => ?_) fun i hi j hj => ?_
  · obtain ⟨vs, h1, h2⟩ := hg i hi
    have hj' : j < vs.length := by rw [(hv i vs h1).1]; exact hj
    have := (hv i vs h1).2 j vs[j] (List.getElem?_eq_getElem hj')
    simpa [h1, List.getElem?_eq_getElem hj'] using this
  · obtain ⟨vs, h1, h2⟩ := hg i hi
    have hj' : j < vs.length := by rw [(hv i vs h1).1, ← hl i hi]; exact hj
    simpa [h1, List.getElem?_eq_getElem hj'] using h2.get j hj hj'
theorem RP.cl_of {F : Fr} {ps : List PV} {vss : List (List Value)} {a : Option Addr} {b o k : Nat} (h : F2 (fun p vs => RPL F (pcells p) vs) ps vss)
    (hv : ∀ i vs, vss[i]? = some vs → vs.length = k ∧ ∀ j v, vs[j]? = some v → F b (o + i * k + j) = some v ∧ v.oneCell' = true) (ha : 0 < ps.length → a = some ⟨b, o, none⟩) :
    RP F (.cl ps) (.slice a ps.length ps.length) := by
  have hs := RP.sl_of h hv ha (Nat.le_refl _)
  cases hs with
  | sl b o k vs hc ha hk hF h => exact .cl b o k vs ha hk hF h

theorem ElsOk.one {β : Bnd} {F : Fr} {l : List AV} {vss : List (List Value)} (h : ElsOk β F l vss) {i : Nat} {vs : List Value} (hv : vss[i]? = some vs) : allOne vs := by
  obtain ⟨h2, rfl⟩ := List.getElem?_eq_some_iff.1 hv
  exact (F2.get h i (by rw [F2.length h]; exact h2) h2).2

theorem freeze_sound {β : Bnd} {w : World} : ∀ (d : Nat) (M : Mem) (a : AV) (p : PV) (M' : Mem) (F : Fr) (x : Value), freeze d M a = some (p, M') → R β F a x → Sim β F M w → ∃ F', Frozen β F M w F' M' ∧ RP F' p x := by
  intro d
  induction d with
  | zero =>
    intro M a p M' F x h hr S
    cases a with
    | pv v =>
      simp only [freeze, Option.some.injEq, Prod.mk.injEq] at h
      obtain ⟨rfl, rfl⟩ := h
      cases hr with | pv hr => exact ⟨F, .refl S, hr.nrmP⟩
    | _ => simp [freeze] at h
  | succ d ih =>
    intro M a p M' F x h hr S
    cases a with
    | pv v =>
      simp only [freeze, Option.some.injEq, Prod.mk.injEq] at h
      obtain ⟨rfl, rfl⟩ := h
      cases hr with | pv hr => exact ⟨F, .refl S, hr.nrmP⟩
    | agg cs =>
      simp only [freeze] at h
      split at h
      · rename_i ps M1 h1
        simp only [Option.some.injEq, Prod.mk.injEq] at h
        obtain ⟨rfl, rfl⟩ := h
        cases hr with
        | agg hl ho hr =>
          obtain ⟨F', k, r⟩ := freezeL_sound ih cs M ps M1 F _ h1 (F2.of_arr hl hr) S
          exact ⟨F', k, .agg (by simpa using r.length) ho fun i h1 h2 => by have := r.get i h1 (by simpa using h2); rwa [Array.getElem_toList] at this⟩
      · simp at h
    | tup cs =>
      simp only [freeze] at h
      split at h
      · rename_i ps M1 h1
        simp only [Option.some.injEq, Prod.mk.injEq] at h
        obtain ⟨rfl, rfl⟩ := h
        cases hr with
        | tup hl hr =>
          obtain ⟨F', k, r⟩ := freezeL_sound ih cs M ps M1 F _ h1 (F2.of_arr hl hr) S
          exact ⟨F', k, .tup (by simpa using r.length) fun i h1 h2 => by have := r.get i h1 (by simpa using h2); rwa [Array.getElem_toList] at this⟩
      · simp at h
    | gs g n off len =>
      simp only [freeze] at h
      split at h
      · rename_i es fz0 hg
        obtain ⟨hg, hn⟩ := getArr_some hg
        split at h
        · rename_i hle
          split at h
          · rename_i ps M1 h1
            split at h
            · rename_i es' fz hg1
              obtain ⟨hg1, hn1⟩ := getArr_some hg1
              simp only [Option.some.injEq, Prod.mk.injEq] at h
              obtain ⟨rfl, rfl⟩ := h
              cases hr with
              | gs hβ hs =>
                rename_i a c bd
                have hβ' : β.arr g es.length = some bd := by rw [hn]; exact hβ
                have A := S.arr g es fz0 bd hg hβ'
                obtain ⟨hc, hlc, hsa⟩ := hs
                have hrm := A.room
                -- the elements, frozen
                have key : ∃ F1 b o vss, Frozen β F M w F1 M1 ∧ (0 < len → bd.base = some (b, o)) ∧ F2 (fun p vs => RPL F1 (pcells p) vs) ps vss ∧
                    (∀ i vs, vss[i]? = some vs → vs.length = bd.k ∧ allOne vs ∧ ∀ j v, vs[j]? = some v → w.cell? ⟨b, o + (off + i) * bd.k + j, none⟩ = some v) ∧ ps.length = len := by
                  by_cases hne : 0 < len
                  · obtain ⟨b, o, vss, hb, he, hcell⟩ := A.els S.frz (by omega)
                    have he' : ElsOk β F ((es.drop off).take len) ((vss.drop off).take len) := F2.take (F2.drop he off) len
                    obtain ⟨F1, k, r⟩ := freezeEls_sound ih _ M ps M1 F _ h1 he' S
                    refine ⟨F1, b, o, _, k, fun _ => hb, r, fun i vs hvs => ?_, ?_⟩
                    · have hi : i < len := by
                        have := (List.getElem?_eq_some_iff.1 hvs).1
                        simp at this; omega
                      have hvs' : vss[off + i]? = some vs := by
                        rw [List.getElem?_take_of_lt hi, List.getElem?_drop] at hvs; exact hvs
                      exact ⟨(hcell _ _ hvs').1, he.one hvs', (hcell _ _ hvs').2⟩
                    · have h2 := r.length; rw [h2, ← F2.length he']; simp; omega
                  · have h0 : len = 0 := by omega
                    subst h0
                    simp only [List.take_zero, freezeL, Option.some.injEq, Prod.mk.injEq] at h1
                    obtain ⟨rfl, rfl⟩ := h1
                    exact ⟨F, 0, 0, [], .refl S, fun h => absurd h (by omega), .nil, fun i vs h => by simp at h, rfl⟩
                obtain ⟨F1, b, o, vss, k, hb, r, hcell, hpl⟩ := key
                have A1 : ArrOk β F1 es' fz bd w := k.sim.arr g es' fz bd hg1 (by rw [hn1]; exact hβ)
                -- what stays now
                have hfz : Fz M1 (if off + len ≤ fz then M1 else M1.set g (.arr es' (off + len))) := by
                  split
                  · exact .refl _
                  · exact .set hg1 (by omega)
                have hset : ∀ fz', (if off + len ≤ fz then M1 else M1.set g (.arr es' (off + len)))[g]? = some (.arr es' fz') → off + len ≤ fz' ∧ fz ≤ fz' := by
                  intro fz' h
                  have hgl := (List.getElem?_eq_some_iff.1 hg1).1
                  split at h
                  · rw [hg1] at h; simp only [Option.some.injEq, MObj.arr.injEq, true_and] at h; subst h; omega
                  · simp [hgl] at h; omega
                let F2' : Fr := fun b' o' => if bd.own = true ∧ bd.base = some (b', 0) ∧ o' < (off + len) * bd.k ∧ (w.cell? ⟨b', o', none⟩).isSome then w.cell? ⟨b', o', none⟩ else F1 b' o'
                have hF : F1.le F2' := by
                  intro b' o' v hv
                  simp only [F2']
                  split
                  · exact k.sim.frz b' o' v hv
                  · exact hv
                have hz : ∀ b' o' v, F2' b' o' = some v → w.cell? ⟨b', o', none⟩ = some v := by
                  intro b' o' v hv
                  simp only [F2'] at hv
                  split at hv
                  · exact hv
                  · exact k.sim.frz b' o' v hv
                have hfree : ∀ g' es'' fz' bd' b', (if off + len ≤ fz then M1 else M1.set g (.arr es' (off + len)))[g']? = some (.arr es'' fz') → β.arr g' es''.length = some bd' → bd'.own = true → bd'.base = some (b', 0) → ∀ o', fz' * bd'.k ≤ o' → F2' b' o' = none := by
                  intro g' es'' fz' bd' b' h1' h2' h3' h4' o' h5'
                  by_cases e : g' = g
                  · subst e
                    have hes : es'' = es' := by
                      rcases hfz.2 g' with ⟨e1, f1, f2, k1, k2, k3⟩ | k1
                      · rw [k2] at h1'; rw [hg1] at k1; simp only [Option.some.injEq, MObj.arr.injEq] at h1' k1; exact h1'.1.symm.trans k1.1.symm
                      · rw [k1, hg1] at h1'; simp only [Option.some.injEq, MObj.arr.injEq] at h1'; exact h1'.1.symm
                    subst hes
                    obtain ⟨l1, l2⟩ := hset _ h1'
                    have hbd : bd' = bd := by rw [hn1, hβ] at h2'; exact (Option.some.inj h2').symm
                    subst hbd
                    have hge : (off + len) * bd'.k ≤ o' := Nat.le_trans (Nat.mul_le_mul_right _ l1) h5'
                    have hge2 : fz * bd'.k ≤ o' := Nat.le_trans (Nat.mul_le_mul_right _ l2) h5'
                    simp only [F2']
                    rw [if_neg (by omega)]
                    rcases A1.kind with ⟨_, b1, O⟩ | ⟨hno, _⟩
                    · have : b1 = b' := by rw [O.base] at h4'; simpa using h4'
                      subst this
                      exact O.free o' hge2
                    · rw [hno] at h3'; simp at h3'
                  · have h1'' : M1[g']? = some (.arr es'' fz') := by
                      split at h1'
                      · exact h1'
                      · rwa [List.getElem?_set_ne (Ne.symm e)] at h1'
                    have hno : F1 b' o' = none := by
                      rcases (k.sim.arr g' es'' fz' bd' h1'' h2').kind with ⟨_, b1, O⟩ | ⟨hno, _⟩
                      · have : b1 = b' := by rw [O.base] at h4'; simpa using h4'
                        subst this
                        exact O.free o' h5'
                      · rw [hno] at h3'; simp at h3'
                    simp only [F2']
                    rw [if_neg]
                    · exact hno
                    · rintro ⟨q1, q2, q3, q4⟩
                      exact e (k.sim.inj g' g b' ⟨_, _, _, h1'', h2', h3', h4'⟩ ⟨_, _, _, hg1, by rw [hn1]; exact hβ, q1, q2⟩)
                have S2 := k.sim.fz hfz hF hz hfree
                refine ⟨F2', k.trans ⟨hfz, S2, hF, fun b' o' e1 e2 => ?_⟩, ?_⟩
                · simp only [F2'] at e2
                  split at e2
                  · rename_i q
                    exact .inl ⟨g, _, _, _, hg1, by rw [hn1]; exact hβ, q.1, q.2.1⟩
                  · exact absurd e1 e2
                · subst hpl
                  by_cases hne : 0 < ps.length
                  · have hb' := hb hne
                    have hoff : off < bd.cap := by omega
                    refine RP.sl_of (b := b) (o := o + off * bd.k) (k := bd.k) (F2.mono r fun _ _ _ h => RPL.mono hF h) (fun i vs hvs => ?_) (fun _ => ?_) hlc
                    · obtain ⟨q1, q2, q3⟩ := hcell i vs hvs
                      refine ⟨q1, fun j v hv => ?_⟩
                      have hc' := q3 j v hv
                      rw [show o + (off + i) * bd.k + j = o + off * bd.k + i * bd.k + j by rw [Nat.add_mul]; omega] at hc'
                      refine ⟨?_, q2.get hv⟩
                      have hi : i < ps.length := by have := (List.getElem?_eq_some_iff.1 hvs).1; rw [r.length]; exact this
                      have hj : j < bd.k := by have := (List.getElem?_eq_some_iff.1 hv).1; omega
                      rcases A1.kind with ⟨how, b1, O⟩ | ⟨hno, b1, o1, O⟩
                      · have e1 : b1 = b ∧ 0 = o := by have := O.base; rw [hb'] at this; simp at this; omega
                        obtain ⟨rfl, rfl⟩ := e1
                        simp only [F2']
                        have hlt : 0 + off * bd.k + i * bd.k + j < (off + ps.length) * bd.k := by
                          have : (i + 1) * bd.k ≤ ps.length * bd.k := Nat.mul_le_mul_right _ hi
                          rw [Nat.add_mul] at this
                          rw [Nat.add_mul off]; omega
                        rw [if_pos ⟨how, O.base, hlt, by rw [hc']; rfl⟩]
                        exact hc'
                      · have hlen : off + i < es'.length := by omega
                        obtain ⟨e1, e2⟩ : b1 = b ∧ o1 = o := by have := O.base (by omega); rw [hb'] at this; simp at this; omega
                        subst e1; subst e2
                        obtain ⟨v', w1, _⟩ := O.val (off + i) hlen j (by rw [O.len _ hlen]; exact hj)
                        have w2 := hF _ _ _ w1
                        have w3 := hz _ _ _ w2
                        rw [show o1 + (off + i) * bd.k + j = o1 + off * bd.k + i * bd.k + j by rw [Nat.add_mul]; omega] at w2 w3
                        rw [hc'] at w3
                        rw [w2, w3]
                    · rw [hsa hoff, hb']; rfl
                  · have h0 : ps = [] := List.eq_nil_of_length_eq_zero (by omega)
                    subst h0
                    exact RP.sl_of (vss := []) (b := 0) (o := 0) (k := 0) .nil (fun i vs h => by simp at h) (fun h => by simp at h) hlc
            · simp at h
          · simp at h
        · simp at h
      · simp at h
    | p => simp [freeze] at h
    | ep => simp [freeze] at h
    | fn => simp [freeze] at h
    | ifc => simp [freeze] at h
    | mp => simp [freeze] at h

/-! ### An array that is new, or turns -/
def Bnd.put (β : Bnd) (g n : Nat) (bd : Bind) : Bnd := { β with arr := fun g' n' => if g' = g ∧ n' = n then some bd else β.arr g' n' }
theorem Bnd.le_put {β : Bnd} {g n : Nat} {bd : Bind} (h : β.arr g n = none ∨ β.arr g n = some bd) : β.le (β.put g n bd) := by
  refine ⟨fun g' n' bd' h' => ?_, fun _ _ h => h⟩
  simp only [Bnd.put]
  split
  · rename_i e
    obtain ⟨rfl, rfl⟩ := e
    rcases h with h | h <;> rw [h] at h'
    · simp at h'
    · exact h'
  · exact h'
theorem Bnd.put_self (β : Bnd) (g n : Nat) (bd : Bind) : (β.put g n bd).arr g n = some bd := by simp [Bnd.put]
theorem Bnd.put_ne (β : Bnd) {g n g' n' : Nat} {bd : Bind} (h : g' ≠ g) : (β.put g n bd).arr g' n' = β.arr g' n' := by simp [Bnd.put, h]
theorem Bnd.put_len {β : Bnd} {g n n' : Nat} {bd bd' : Bind} (h : (β.put g n bd).arr g n' = some bd') : (n' = n ∧ bd' = bd) ∨ β.arr g n' = some bd' := by
  simp only [Bnd.put, true_and] at h
  split at h
  · rename_i e; simp only [Option.some.injEq] at h; exact .inl ⟨e, h.symm⟩
  · exact .inr h

theorem Sim.F_lt {β : Bnd} {F : Fr} {M : Mem} {w : World} (S : Sim β F M w) {b o : Nat} {v : Value} (h : F b o = some v) : b < w.heap.size :=
  World.block_lt_of_cell? w ⟨b, o, none⟩ (S.frz b o v h)
theorem Sim.F_new {β : Bnd} {F : Fr} {M : Mem} {w : World} (S : Sim β F M w) {b o : Nat} (h : w.heap.size ≤ b) : F b o = none := by
  cases e : F b o with
  | none => rfl
  | some v => have := S.F_lt e; omega
theorem Sim.own_lt {β : Bnd} {F : Fr} {M : Mem} {w : World} (S : Sim β F M w) {b : Nat} (h : Own β M b) : b < w.heap.size := by
  rcases h with ⟨g, es, fz, bd, h1, h2, h3, h4⟩ | ⟨g, es, h1, h2⟩
  · rcases (S.arr g es fz bd h1 h2).kind with ⟨_, b1, O⟩ | ⟨hno, _⟩
    · have : b1 = b := by have := O.base; rw [h4] at this; simp at this; exact this.symm
      subst this; exact O.lt
    · rw [h3] at hno; simp at hno
  · obtain ⟨ents, clock, h, _⟩ := S.map g es b h1 h2
    exact (Array.getElem?_eq_some_iff.1 h).1

/-- What one turn of an array asks: the array is new, or it grows, or it stays as long as it was. M0: the memory ahead of all; Tch: the blocks that may be written. -/
structure TurnT (β : Bnd) (F : Fr) (M0 M : Mem) (w : World) (Tch : Nat → Prop) (g : Nat) (es : List AV) (fz : Nat) (bd : Bind) (M' : Mem) (w' : World) : Prop where
  at_ : M'[g]? = some (.arr es fz)
  other : ∀ g', g' ≠ g → M'[g']? = M[g']?
  was : (M[g]? = none ∧ g = M.length) ∨ ∃ es0 fz0, M[g]? = some (.arr es0 fz0) ∧ es0.length ≤ es.length
  same : ∀ bd', β.arr g es.length = some bd' → bd' = bd
  os : w'.os = w.os
  tape : w'.tape = w.tape
  output : w'.output = w.output
  size : w.heap.size ≤ w'.heap.size
  tg : ∀ b, OwnA β M g b → Tch b
  to : ∀ g' b, g' ≠ g → OwnA β M g' b → ¬ Tch b
  t0 : ∀ b, Tch b → Own β M0 b
  from_ : ∀ b, Own β M b → Own β M0 b
  heap : ∀ (b : Nat), b < w.heap.size → ¬ Tch b → w'.heap[b]? = w.heap[b]?
  maps : ∀ (b : Nat) (ents : Array MapEntry) (clock : Nat), w.heap[b]? = some (Go.Obj.map ents clock) → w'.heap[b]? = w.heap[b]?
  frz : ∀ b o v, Tch b → F b o = some v → w'.cell? ⟨b, o, none⟩ = some v
  ok : ArrOk (β.put g es.length bd) F es fz bd w'
  fresh : ∀ b, bd.own = true → bd.base = some (b, 0) → w.heap.size ≤ b ∨ Tch b
  len0 : M0.length ≤ M'.length

theorem TurnT.simW {β : Bnd} {F : Fr} {M0 M : Mem} {w : World} {Tch : Nat → Prop} {g : Nat} {es : List AV} {fz : Nat} {bd : Bind} {M' : Mem} {w' : World} (t : TurnT β F M0 M w Tch g es fz bd M' w') (S : Sim β F M w) :
    Sim (β.put g es.length bd) F M' w' ∧ ExtW β F M0 w (β.put g es.length bd) F M' w' := by
  have hle : β.le (β.put g es.length bd) := Bnd.le_put (by
    cases h : β.arr g es.length with
    | none => exact .inl rfl
    | some bd' => exact .inr (by rw [t.same bd' h]))
  have hown : ∀ g' b, g' ≠ g → (OwnA (β.put g es.length bd) M' g' b ↔ OwnA β M g' b) := fun g' b hne => by
    unfold OwnA
    simp only [t.other g' hne, Bnd.put_ne β hne]
  have howng : ∀ b, OwnA (β.put g es.length bd) M' g b → w.heap.size ≤ b ∨ Tch b := by
    rintro b ⟨es1, fz1, bd1, h1, h2, h3, h4⟩
    rw [t.at_] at h1
    simp only [Option.some.injEq, MObj.arr.injEq] at h1
    obtain ⟨rfl, rfl⟩ := h1
    rw [Bnd.put_self] at h2
    simp only [Option.some.injEq] at h2
    subst h2
    exact t.fresh b h3 h4
  have hcell : ∀ b o, b < w.heap.size → ¬ Tch b → w'.cell? ⟨b, o, none⟩ = w.cell? ⟨b, o, none⟩ ∧ w'.frozen? ⟨b, o, none⟩ = w.frozen? ⟨b, o, none⟩ := fun b o hb hn =>
    ⟨World.cell?_of_block (a := ⟨b, o, none⟩) (t.heap b hb hn), World.frozen?_of_block (a := ⟨b, o, none⟩) (t.heap b hb hn)⟩
  have hmap : ∀ (g' : Nat) (es' : List (PV × PV)), M'[g']? = some (MObj.map es') → M[g']? = some (MObj.map es') := fun g' es' h => by
    by_cases e : g' = g
    · subst e; rw [t.at_] at h; simp at h
    · rw [← t.other g' e]; exact h
  constructor
  · refine ⟨fun b o v hv => ?_, fun g' es' fz' bd' hg' hb' => ?_, fun g' es' b hg' hb' => ?_, fun g' n bd' hb' => ?_, fun g' b hb' => ?_, fun g1 g2 b h1 h2 => ?_, S.inm⟩
    · by_cases ho : Tch b
      · exact t.frz b o v ho hv
      · rw [(hcell b o (S.F_lt hv) ho).1]; exact S.frz b o v hv
    · by_cases e : g' = g
      · subst e
        rw [t.at_] at hg'
        simp only [Option.some.injEq, MObj.arr.injEq] at hg'
        obtain ⟨rfl, rfl⟩ := hg'
        rw [Bnd.put_self] at hb'
        simp only [Option.some.injEq] at hb'
        subst hb'
        exact t.ok
      · rw [t.other g' e] at hg'
        rw [Bnd.put_ne β e] at hb'
        have A := S.arr g' es' fz' bd' hg' hb'
        refine ⟨A.room, A.empty, ?_⟩
        rcases A.kind with ⟨ho, b, O⟩ | ⟨ho, b, o, O⟩
        · have hno : ¬ Tch b := t.to g' b e ⟨_, _, _, hg', hb', ho, O.base⟩
          exact .inl ⟨ho, b, O.base, Nat.lt_of_lt_of_le O.lt t.size, fun o hl => by rw [(hcell b o O.lt hno).1, (hcell b o O.lt hno).2]; exact O.there o hl, O.len, fun i hi j hj => by
            obtain ⟨v, h1, h2, h3⟩ := O.val i hi j hj
            exact ⟨v, by rw [(hcell b _ O.lt hno).1]; exact h1, h2, h3.mono hle (.refl _)⟩, O.free⟩
        · exact .inr ⟨ho, b, o, O.base, O.cap, O.fz, O.len, fun i hi j hj => by
            obtain ⟨v, h1, h2, h3⟩ := O.val i hi j hj
            exact ⟨v, h1, h2, h3.mono hle (.refl _)⟩⟩
    · obtain ⟨ents, clock, h1, h2⟩ := S.map g' es' b (hmap g' es' hg') hb'
      exact ⟨ents, clock, by rw [t.maps b ents clock h1]; exact h1, h2⟩
    · by_cases e : g' = g
      · subst e
        rcases Bnd.put_len hb' with ⟨rfl, _⟩ | hb'
        · exact .inr ⟨_, _, t.at_, Nat.le_refl _⟩
        · rcases S.ver g' n bd' hb' with h | ⟨es1, fz1, h, hn⟩
          · rcases t.was with ⟨h0, _⟩ | ⟨es0, fz0, h0, _⟩ <;> rw [h0] at h <;> simp at h
          · rcases t.was with ⟨h0, _⟩ | ⟨es0, fz0, h0, h0'⟩
            · rw [h0] at h; simp at h
            · rw [h0] at h; simp only [Option.some.injEq, MObj.arr.injEq] at h
              obtain ⟨rfl, rfl⟩ := h
              exact .inr ⟨_, _, t.at_, Nat.le_trans hn h0'⟩
      · rw [Bnd.put_ne β e] at hb'
        rw [t.other g' e]
        exact S.ver g' n bd' hb'
    · obtain ⟨es', h⟩ := S.vem g' b hb'
      refine ⟨es', ?_⟩
      by_cases e : g' = g
      · subst e
        rcases t.was with ⟨h0, _⟩ | ⟨es0, fz0, h0, _⟩ <;> rw [h0] at h <;> simp at h
      · rw [t.other g' e]; exact h
    · by_cases e1 : g1 = g <;> by_cases e2 : g2 = g
      · rw [e1, e2]
      · subst e1
        have k2 := (hown g2 b e2).1 h2
        rcases howng b h1 with h | h
        · have := S.own_lt (.inl ⟨g2, k2⟩); omega
        · exact absurd h (t.to g2 b e2 k2)
      · subst e2
        have k1 := (hown g1 b e1).1 h1
        rcases howng b h2 with h | h
        · have := S.own_lt (.inl ⟨g1, k1⟩); omega
        · exact absurd h (t.to g1 b e1 k1)
      · exact S.inj g1 g2 b ((hown g1 b e1).1 h1) ((hown g2 b e2).1 h2)
  · refine ⟨hle, .refl _, t.os, t.tape, t.output, t.size, fun b hb hn => t.heap b hb fun h => hn (t.t0 b h), fun b o h k => absurd h k, fun b ho => ?_, t.len0⟩
    rcases ho with ⟨g', h⟩ | ⟨g', es', h1, h2⟩
    · by_cases e : g' = g
      · subst e; exact (howng b h).imp id (t.t0 b)
      · exact .inr (t.from_ b (.inl ⟨g', (hown g' b e).1 h⟩))
    · exact .inr (t.from_ b (.inr ⟨g', es', hmap g' es' h1, h2⟩))

theorem TurnT.sim {β : Bnd} {F : Fr} {M0 M : Mem} {w : World} {Tch : Nat → Prop} {g : Nat} {es : List AV} {fz : Nat} {bd : Bind} {M' : Mem} {w' : World} (S : Sim β F M w) (t : TurnT β F M0 M w Tch g es fz bd M' w') (h0 : g < M0.length → ∃ n0 bd0, β.arr g n0 = some bd0) :
    Sim (β.put g es.length bd) F M' w' ∧ Ext β F M0 w (β.put g es.length bd) F M' w' :=
  ⟨(t.simW S).1, (t.simW S).2, fun g' n bd' hg' hb' => by
    by_cases e : g' = g
    · subst e; exact h0 hg'
    · rw [Bnd.put_ne β e] at hb'; exact ⟨n, bd', hb'⟩⟩

/-- An array turns where it lies, or anew. -/
structure Turn (β : Bnd) (F : Fr) (M : Mem) (w : World) (g : Nat) (es : List AV) (fz : Nat) (bd : Bind) (M' : Mem) (w' : World) : Prop where
  at_ : M'[g]? = some (.arr es fz)
  other : ∀ g', g' ≠ g → M'[g']? = M[g']?
  was : (M[g]? = none ∧ g = M.length) ∨ ∃ es0 fz0, M[g]? = some (.arr es0 fz0) ∧ es0.length ≤ es.length
  same : ∀ bd', β.arr g es.length = some bd' → bd' = bd
  os : w'.os = w.os
  tape : w'.tape = w.tape
  output : w'.output = w.output
  size : w.heap.size ≤ w'.heap.size
  heap : ∀ (b : Nat), b < w.heap.size → ¬ OwnA β M g b → w'.heap[b]? = w.heap[b]?
  maps : ∀ (b : Nat) (ents : Array MapEntry) (clock : Nat), w.heap[b]? = some (Go.Obj.map ents clock) → w'.heap[b]? = w.heap[b]?
  frz : ∀ b o v, OwnA β M g b → F b o = some v → w'.cell? ⟨b, o, none⟩ = some v
  ok : ArrOk (β.put g es.length bd) F es fz bd w'
  fresh : ∀ b, bd.own = true → bd.base = some (b, 0) → w.heap.size ≤ b ∨ OwnA β M g b
  len0 : M.length ≤ M'.length
theorem Turn.sim {β : Bnd} {F : Fr} {M : Mem} {w : World} {g : Nat} {es : List AV} {fz : Nat} {bd : Bind} {M' : Mem} {w' : World} (S : Sim β F M w) (t : Turn β F M w g es fz bd M' w') (h0 : g < M.length → ∃ n0 bd0, β.arr g n0 = some bd0) :
    Sim (β.put g es.length bd) F M' w' ∧ Ext β F M w (β.put g es.length bd) F M' w' :=
  TurnT.sim (Tch := OwnA β M g) S ⟨t.at_, t.other, t.was, t.same, t.os, t.tape, t.output, t.size, fun _ h => h, fun g' b hne h k => hne (S.inj g' g b h k), fun b h => .inl ⟨g, h⟩, fun _ h => h, t.heap, t.maps, t.frz, t.ok, t.fresh, t.len0⟩ h0

/-- An array that is used no more. -/
theorem Sim.kill {β : Bnd} {F : Fr} {M : Mem} {w : World} (S : Sim β F M w) {g : Nat} {es0 : List AV} {fz0 : Nat} (hg0 : M[g]? = some (.arr es0 fz0)) : Sim β F (M.set g .dead) w ∧ (∀ b, Own β (M.set g .dead) b → Own β M b) ∧ (∀ g' b, OwnA β (M.set g .dead) g' b → g' ≠ g ∧ OwnA β M g' b) := by
  have hget : ∀ (g' : Nat) (ob : MObj), (M.set g .dead)[g']? = some ob → (g' = g ∧ ob = .dead) ∨ (g' ≠ g ∧ M[g']? = some ob) := fun g' ob h => by
    by_cases e : g' = g
    · subst e
      rw [List.getElem?_set] at h
      simp only [if_true] at h
      split at h
      · exact .inl ⟨rfl, by simpa using h.symm⟩
      · simp at h
    · exact .inr ⟨e, by rwa [List.getElem?_set_ne (Ne.symm e)] at h⟩
  have hA : ∀ g' b, OwnA β (M.set g .dead) g' b → g' ≠ g ∧ OwnA β M g' b := by
    rintro g' b ⟨es, fz, bd, h1, h2⟩
    rcases hget g' _ h1 with ⟨_, h⟩ | ⟨h, h'⟩
    · simp at h
    · exact ⟨h, es, fz, bd, h', h2⟩
  refine ⟨⟨S.frz, fun g' es fz bd h hb => ?_, fun g' es b h hb => ?_, fun g' n bd hb => ?_, fun g' b hb => ?_, fun g1 g2 b h1 h2 => S.inj g1 g2 b (hA _ _ h1).2 (hA _ _ h2).2, S.inm⟩, fun b h => ?_, hA⟩
  · rcases hget g' _ h with ⟨_, h⟩ | ⟨_, h'⟩
    · simp at h
    · exact S.arr g' es fz bd h' hb
  · rcases hget g' _ h with ⟨_, h⟩ | ⟨_, h'⟩
    · simp at h
    · exact S.map g' es b h' hb
  · by_cases e : g' = g
    · subst e
      exact .inl (by rw [List.getElem?_set]; simp [S.dom hb])
    · rw [List.getElem?_set_ne (Ne.symm e)]; exact S.ver g' n bd hb
  · obtain ⟨es, h⟩ := S.vem g' b hb
    by_cases e : g' = g
    · subst e; rw [hg0] at h; simp at h
    · exact ⟨es, by rw [List.getElem?_set_ne (Ne.symm e)]; exact h⟩
  · rcases h with ⟨g', h⟩ | ⟨g', es, h1, h2⟩
    · exact .inl ⟨g', (hA _ _ h).2⟩
    · rcases hget g' _ h1 with ⟨_, h⟩ | ⟨_, h'⟩
      · simp at h
      · exact .inr ⟨g', es, h', h2⟩

/-- A new array. -/
theorem Turn.new {β : Bnd} {F : Fr} {M : Mem} {w : World} (S : Sim β F M w) {es : List AV} {fz : Nat} {bd : Bind} {w' : World} (hos : w'.os = w.os) (ht : w'.tape = w.tape) (hout : w'.output = w.output)
    (hsz : w.heap.size ≤ w'.heap.size) (hh : ∀ b, b < w.heap.size → w'.heap[b]? = w.heap[b]?) (ok : ArrOk (β.put M.length es.length bd) F es fz bd w') (fresh : ∀ b, bd.own = true → bd.base = some (b, 0) → w.heap.size ≤ b) :
    Turn β F M w M.length es fz bd (M ++ [.arr es fz]) w' where
  at_ := by simp
  other g' h := by
    by_cases hl : g' < M.length
    · rw [List.getElem?_append_left hl]
    · rw [List.getElem?_eq_none (by simp; omega), List.getElem?_eq_none (by omega)]
  was := .inl ⟨by simp, rfl⟩
  same bd' h := by have := S.dom h; omega
  os := hos
  tape := ht
  output := hout
  size := hsz
  heap b hb _ := hh b hb
  maps b ents clock h := hh b (Array.getElem?_eq_some_iff.1 h).1
  frz b o v h := by
    obtain ⟨es, fz, bd, h1, _⟩ := h
    simp at h1
  ok := ok
  fresh b h1 h2 := .inl (fresh b h1 h2)
  len0 := by simp
end Go.Vm
