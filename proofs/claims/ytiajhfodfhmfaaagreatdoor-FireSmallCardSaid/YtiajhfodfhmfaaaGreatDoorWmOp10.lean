/- Conversions, built-ins. -/
import Derived.Test.YtiajhfodfhmfaaaGreatDoorWmOp9
set_option linter.unusedVariables false
set_option linter.unusedSimpArgs false
set_option linter.unusedSectionVars false
namespace Go.Vm
variable [SymB] [SymV]

theorem foldl_push (ns : List Int) : ∀ s : ByteArray, (ns.foldl (fun r n => r.push (UInt8.ofNat n.toNat)) s).data.toList = s.data.toList ++ ns.map fun n => UInt8.ofNat n.toNat := by
  induction ns with
  | nil => intro s; simp
  | cons n ns ih => intro s; rw [List.foldl_cons, ih]; simp [ByteArray.push]

theorem bytesOf_ok {β : Bnd} {F : Fr} : ∀ {es : List AV} {vss : List (List Value)} {l : List UInt8}, ElsOk β F es vss → bytesOf es = some l → ∃ ns : List Int, vss.flatten = ns.map (Value.int .u8) ∧ l = ns.map (fun n => UInt8.ofNat n.toNat) ∧ ns.length = es.length
  | [], _, l, .nil, h => by
    simp only [bytesOf, Option.some.injEq] at h
    exact ⟨[], rfl, h.symm, rfl⟩
  | e :: es, vs :: vss, l, .cons ⟨h1, h2⟩ t, h => by
    unfold bytesOf at h
    split at h
    · rename_i e1; simp at e1
    · rename_i n r e1
      simp only [List.cons.injEq] at e1
      obtain ⟨rfl, rfl⟩ := e1
      split at h
      · rename_i l' hl
        simp only [Option.some.injEq] at h
        subst h
        obtain ⟨ns, k1, k2, k3⟩ := bytesOf_ok t hl
        have h1' : RL β F [.pv (.int .u8 n)] vs := h1
        cases h1' with
        | cons hr ht =>
          cases ht
          cases hr with
          | pv hr => cases hr; exact ⟨n :: ns, by simp [k1], by simp [k2], by simp [k3]⟩
      · simp at h
    · simp at h

/-- What a built-in gives. -/
def BOut (P : Program) (b : Builtin) (ts : Array TypeId) (ty : TypeId) (cs : Array Bool) (args : Array Value) (β : Bnd) (F : Fr) (M : Mem) (w : World) (v : AV) (M' : Mem) : Prop :=
  ∃ β' F' w' r, (builtin b ts ty cs args).run P w = .ok (.value r) w' ∧ Ext β F M w β' F' M' w' ∧ Sim β' F' M' w' ∧ R β' F' v r

theorem run_minmax {P : Program} {β : Bnd} {F : Fr} (w : World) (isMin : Bool) : ∀ {r : List AV} {rs : List Value} {x v : AV} {X : Value}, R β F x X → RL β F r rs → minmax isMin x r = some v → ∃ V, (rs.foldlM (if isMin then Builtin.min2 else Builtin.max2) X).run P w = .ok V w ∧ R β F v V
  | [], _, x, v, X, hx, .nil, h => by
    simp only [minmax, Option.some.injEq] at h
    subst h
    exact ⟨X, rfl, hx⟩
  | y :: r, Y :: rs, x, v, X, hx, .cons hy ht, h => by
    unfold minmax at h
    split at h
    · rename_i e; simp at e
    · rename_i k a k' b r' e
      simp only [List.cons.injEq] at e
      obtain ⟨rfl, rfl⟩ := e
      split at h
      · rename_i hk
        subst hk
        cases hx with
        | pv hx => cases hx; cases hy with
          | pv hy =>
            cases hy
            cases isMin with
            | true =>
              obtain ⟨V, h1, h2⟩ := run_minmax w true (.pv (.int k _)) ht h
              refine ⟨V, ?_, h2⟩
              simp only [if_true] at h1 ⊢
              simp only [List.foldlM_cons, Sem.run_bind, Builtin.min2, Sem.run_pure, Result.andThen]
              exact h1
            | false =>
              obtain ⟨V, h1, h2⟩ := run_minmax w false (.pv (.int k _)) ht h
              refine ⟨V, ?_, h2⟩
              simp only [Bool.false_eq_true, if_false] at h1 ⊢
              simp only [List.foldlM_cons, Sem.run_bind, Builtin.max2, Sem.run_pure, Result.andThen]
              exact h1
      · simp at h
    · simp at h

/-- Zeros, row by row. -/
theorem zeroCells_rows (z : Array Value) (n : Nat) : (Builtin.zeroCells z n).toList = (List.replicate n z.toList).flatten := by
  obtain ⟨f1, f2⟩ := flat_get (k := z.size) (l := List.replicate n z.toList) (fun i vs h => by
    obtain ⟨h1, h2⟩ := List.getElem?_eq_some_iff.1 h
    simp at h2; rw [← h2]; simp)
  apply List.ext_getElem?
  intro m
  by_cases hz : z.size = 0
  · have e1 : (Builtin.zeroCells z n).toList = [] := List.eq_nil_of_length_eq_zero (by simp [size_zeroCells, hz])
    have e2 : (List.replicate n z.toList).flatten = [] := List.eq_nil_of_length_eq_zero (by rw [f1, hz]; rfl)
    rw [e1, e2]
  · by_cases hm : m < n * z.size
    · have hj : m % z.size < z.size := Nat.mod_lt _ (by omega)
      have he : m = m / z.size * z.size + m % z.size := by rw [Nat.mul_comm]; exact (Nat.div_add_mod m z.size).symm
      have hq : m / z.size < n := Nat.div_lt_of_lt_mul (by rw [Nat.mul_comm]; exact hm)
      have h3 := f2 (m / z.size) (m % z.size) hj
      rw [← he] at h3
      rw [h3]
      simp [Builtin.zeroCells, hm, hq, hj]
    · rw [List.getElem?_eq_none (by simp [size_zeroCells]; omega), List.getElem?_eq_none (by rw [f1]; simp; omega)]

section
variable {P : Program} {tb : Tabs} (H : TabsTy P tb) {o : Oper} {β : Bnd} {F : Fr} {M : Mem} {w : World} {T : List AV} {a : Act} (hT : RL β F T a.tmps.toList) (S : Sim β F M w) {v : AV} {M' : Mem} {fi : FnI}

include H hT S in
theorem out_convert {s d : TypeId} {x : Operand} (ho : o.op = .convert s d x) (h : stepOp tb fi T M o.dst o.op = .val v M') : Out P o a.eval β F M w v M' := by
  rw [ho] at h
  simp only [stepOp] at h
  have rx := evalO_R hT x
  generalize hX : a.eval x = X at rx
  have hex : ∀ {r : Value}, (convert s d X).run P w = .ok r w → (execOp a.eval o).run P w = .ok (.value r) w := fun {r} h => by
    simp [execOp, ho, hX, h]
  split at h
  · rename_i e _ _ _ _ _ _ _ _ _ _ hs hd
    obtain ⟨ds, hds, hks⟩ := und_of H hs
    cases hks
    obtain ⟨dd, hdd, hkd⟩ := und_of H hd
    cases hkd
    split at h
    · rename_i es _ _ _ _ _ _ es' he hels
      obtain ⟨de, hde, hke⟩ := und_of H he
      cases hke
      split at h
      · rename_i l hl
        simp only [Res.val.injEq] at h
        obtain ⟨rfl, rfl⟩ := h
        obtain ⟨ad, cap, k, vss, rfl, hc, E⟩ := R.els S rx hels
        obtain ⟨ns, k1, k2, k3⟩ := bytesOf_ok E.els hl
        obtain ⟨f1, f2, f3, f4⟩ := E.flat (P := P) (w' := w) rfl cap
        have hrun : ∃ r : ByteArray, (convert s d (.slice ad es'.length cap)).run P w = .ok (.string r) w ∧ r.data.toList = l := by
          rw [run_convert_bytes_string w s d e ad _ cap hds hde hdd]
          cases ad with
          | none =>
            have h0 : es' = [] := by
              rcases Nat.eq_zero_or_pos vss.length with h0 | h0
              · exact List.eq_nil_of_length_eq_zero (by rw [F2.length E.els]; exact h0)
              · obtain ⟨b, q, hq, _⟩ := E.cell 0 _ (List.getElem?_eq_getElem h0); simp at hq
            subst h0
            have : ns = [] := List.eq_nil_of_length_eq_zero (by simpa using k3)
            subst this
            exact ⟨.empty, by simp [Conv.bytesToString], by rw [k2]; rfl⟩
          | some ad =>
            have hlen : es'.length * k = es'.length := by rw [← f2, k1, List.length_map, k3]
            have hload : (loadCells ad es'.length).run P w = .ok (ns.map (Value.int .u8)).toArray w := by
              have := f1
              simp only [Builtin.firstCells] at this
              rw [hlen, k1] at this
              exact this
            exact ⟨_, run_bytesToString w ad es'.length cap ns hload, by rw [foldl_push, k2]; rfl⟩
        obtain ⟨r, hr, hl'⟩ := hrun
        exact Out.same S (hex hr) (.pv (by rw [← hl']; exact .str r))
      · simp at h
    · simp at h
  · rename_i k1 _ _ _ _ _ k2 _ _ _ _ _ hs hd
    obtain ⟨ds, hds, hks⟩ := und_of H hs
    cases hks
    obtain ⟨dd, hdd, hkd⟩ := und_of H hd
    cases hkd
    obtain ⟨hv, rfl⟩ := ofVal_val h
    unfold convV at hv
    split at hv
    · rename_i e1 e2
      simp only [Option.some.injEq] at hv
      subst hv
      rw [hd] at e1
      simp only [Option.some.injEq, TI.mk.injEq, TK.int.injEq] at e1
      rw [e2] at rx
      cases rx with
      | pv rx =>
        cases rx
        refine Out.same S (hex (r := .int k2 (k2.wrap _)) ?_) (.pv (by rw [e1.1]; exact .int ..))
        simp [convert, run_underlying hds, run_underlying hdd, Conv.intToInt]
    · rename_i e1 e2
      rw [hd] at e1
      simp at e1
    · rename_i c e1 e2
      rw [hd] at e1
      simp only [Option.some.injEq, TI.mk.injEq, TK.int.injEq] at e1
      obtain ⟨rfl, _⟩ := e1
      obtain ⟨p, hp, rfl⟩ := Option.map_eq_some_iff.1 hv
      obtain ⟨rfl, hw⟩ := symIn_some hp
      rw [e2] at rx
      cases rx with
      | pv rx =>
        cases rx
        refine Out.same S (hex (r := .int .i64 (SymV.ν + c)) ?_) (.pv (.sym c))
        simp [convert, run_underlying hds, run_underlying hdd, Conv.intToInt, hw]
    · simp at hv
  · rename_i hs hd
    obtain ⟨ds, hds, hks⟩ := und_of H hs
    cases hks
    obtain ⟨dd, hdd, hkd⟩ := und_of H hd
    cases hkd
    obtain ⟨hv, rfl⟩ := ofVal_val h
    unfold convV at hv
    split at hv
    · rename_i e1 e2
      rw [hd] at e1
      simp at e1
    · rename_i e1 e2
      simp only [Option.some.injEq] at hv
      subst hv
      rw [e2] at rx
      cases rx with
      | pv rx =>
        cases rx
        refine Out.same S (hex (r := .string _) ?_) (.pv (.str _))
        simp [convert, run_underlying hds, run_underlying hdd]
    · rename_i e1 e2
      rw [hd] at e1
      simp at e1
    · simp at hv
  · simp at h

include H S in
/-- append, of zeros. -/
theorem append_zeros {t u ty e : TypeId} {q : IntKind} {x y : AV} {X Y : Value} {ti : TI} {n : Nat} (hd : P.underlying t = some (.slice e)) (hu : P.underlying u = some (.int q)) (hte : tb.ty e = some ti) (hx : R β F x X) (hy : R β F y Y) (hn : natOf y = some n) (hroom : roomFor n (ti.bytes + 1) = true)
    (h : appendV tb.ty M t x (.pv (.sl (List.replicate n (zeroOf ti)))) = some (v, M')) :
    ∃ β' F' w' r, (Builtin.append_ #[t, u] ty #[X, Y]).run P w = .ok r w' ∧ Ext β F M w β' F' M' w' ∧ Sim β' F' M' w' ∧ R β' F' v r := by
  obtain ⟨k, rfl⟩ := natOf_R hy hn
  refine append_core H S hx (fun e' ti' ys i z hd' hte' hi hz0 hs hys hhd => ?_) h
  rw [hd] at hd'
  simp only [Option.some.injEq, TypeDesc.slice.injEq] at hd'
  subst hd'
  rw [hte] at hte'
  simp only [Option.some.injEq] at hte'
  subst hte'
  simp only [elems, Option.some.injEq] at hys
  subst hys
  obtain ⟨i', z', z1, z2, z3, z4, z5, z6, z7, z8, z9⟩ := (H.ty _ _ hte).info
  rw [hi] at z1
  simp only [Option.some.injEq] at z1
  subst z1
  rw [hz0] at z4
  simp only [Option.some.injEq] at z4
  subst z4
  have hrm : n * (ti.bytes + 1) ≤ 140737488355328 ∧ n ≤ 140737488355328 := by simpa [roomFor] using hroom
  have hlen : ((List.replicate n (zeroOf ti)).map AV.pv).length = n := by simp
  have hrows : RL β F (cells (.pv (zeroOf ti))) z.cells.toList := zero_nrm (T := []) (a := { tmps := #[], defers := [] }) H .nil S hte (RL.of_pv (z5 F))
  have hw : IntKind.i64.wrap (n : Int) = n := IntWalk.i64_in _ (by omega)
  have hby : n * i.bytes ≤ 140737488355328 := by rw [z3]; have := hrm.1; rw [Nat.mul_add] at this; omega
  have hl1 : ¬ ((n : Int) < 0) := by omega
  have hl2 : ¬ (281474976710656 < (n : Int) * (i.bytes : Int)) := by
    have : (n : Int) * (i.bytes : Int) = ((n * i.bytes : Nat) : Int) := by push_cast; rfl
    omega
  have hzc : (Builtin.zeroCells z.cells n).toList = (List.replicate n z.cells.toList).flatten := zeroCells_rows _ _
  have hz00 : n * i.size = 0 → (List.replicate n z.cells.toList).flatten = [] := fun h0 => by
    rw [← hzc]
    exact List.eq_nil_of_length_eq_zero (by rw [Array.length_toList, size_zeroCells, z7, ← hs]; exact h0)
  refine ⟨List.replicate n z.cells.toList, ⟨by rw [List.map_replicate]; exact F2.replicate ⟨hrows, z6⟩ n, fun j vs hj => by
    obtain ⟨h1, h2⟩ := List.getElem?_eq_some_iff.1 hj
    simp at h2; rw [← h2]; simp; rw [z7]⟩, ?_, ?_⟩
  · intro base sLen sCap w' h1 h2 h3
    rw [hlen] at h1 ⊢
    by_cases h0 : n * i.size = 0
    · rw [hz00 h0] at h2
      cases base with
      | none =>
        have := h3 rfl
        subst this
        simp [Builtin.append_, run_underlying hd, run_underlying hu, sizeOf, typeInfo, hi, asInt, asIntOf, hw, hl1, hl2, h1, h0]
      | some ad =>
        have := h2 ad rfl
        simp [Builtin.append_, run_underlying hd, run_underlying hu, sizeOf, typeInfo, hi, asInt, asIntOf, hw, hl1, hl2, h1, h0, this]
    · rw [← hzc] at h2
      cases base with
      | none =>
        have := h3 rfl
        subst this
        simp [Builtin.append_, run_underlying hd, run_underlying hu, sizeOf, typeInfo, hi, asInt, asIntOf, hw, hl1, hl2, h1, h0, zeroValue, hz0]
      | some ad =>
        have := h2 ad rfl
        simp [Builtin.append_, run_underlying hd, run_underlying hu, sizeOf, typeInfo, hi, asInt, asIntOf, hw, hl1, hl2, h1, h0, zeroValue, hz0, this]
  · intro base sLen sCap olds h1 h2 h3 h4
    rw [hlen] at h2 h3 h4 ⊢
    refine ⟨(Builtin.zeroCells z.cells (grownCap w (sLen + n) sCap e - (sLen + n))).toList, ?_, by simp [size_zeroCells]⟩
    have g1 : ¬ (sLen + n ≤ sCap) := by omega
    have g2 : ¬ (9223372036854775807 < ((sLen : Int) + (n : Int))) := by omega
    have g3 : ¬ (281474976710656 < Builtin.nextslicecap (sLen + n) sCap * i.bytes) := by
      have := growslice_fits h2 h3; omega
    by_cases h0 : n * i.size = 0
    · rw [hz00 h0]
      simp [Builtin.append_, run_underlying hd, run_underlying hu, sizeOf, typeInfo, zeroValue, hi, hz0, asInt, asIntOf, hw, hl1, hl2, g1, g2, g3, Question.forced, h1, h0, newRow, grownCap]
      congr 2
      apply Array.ext'
      simp [List.append_assoc]
    · rw [← hzc]
      simp [Builtin.append_, run_underlying hd, run_underlying hu, sizeOf, typeInfo, zeroValue, hi, hz0, asInt, asIntOf, hw, hl1, hl2, g1, g2, g3, Question.forced, h1, h0, newRow, grownCap]
      congr 2
      apply Array.ext'
      simp [List.append_assoc]
end
end Go.Vm
