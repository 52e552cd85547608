/- Operations: conversions, fields, indices, slices. -/
import Derived.Test.YtiajhfodfhmfaaaGreatDoorWmOp2
set_option linter.unusedVariables false
set_option linter.unusedSimpArgs false
set_option linter.unusedSectionVars false
namespace Go.Vm
variable [SymB] [SymV]

theorem natOf_R {β : Bnd} {F : Fr} {a : AV} {v : Value} {n : Nat} (h : R β F a v) (hn : natOf a = some n) : ∃ k, v = .int k n := by
  unfold natOf at hn
  split at hn
  · rename_i k m
    split at hn
    · rename_i h0
      simp only [Option.some.injEq] at hn
      subst hn
      cases h with | pv h => cases h; exact ⟨k, by rw [Int.toNat_of_nonneg h0]⟩
    · simp at hn
  · simp at hn

/-- A slice's elements, whatever kind it is of: where they lie. -/
structure ElsAt (β : Bnd) (F : Fr) (w : World) (es : List AV) (a : Option Addr) (k : Nat) (vss : List (List Value)) : Prop where
  els : ElsOk β F es vss
  len : ∀ (i : Nat) (vs : List Value), vss[i]? = some vs → vs.length = k
  cell : ∀ (i : Nat) (vs : List Value), vss[i]? = some vs → ∃ b o, a = some ⟨b, o, none⟩ ∧ ∀ (j : Nat) (v : Value), vs[j]? = some v → w.cell? ⟨b, o + i * k + j, none⟩ = some v

theorem RP.els {β : Bnd} {F : Fr} {M : Mem} {w : World} (S : Sim β F M w) {es : List PV} {a : Option Addr} {cap : Nat} {b o k : Nat} {vs : Nat → Nat → Value} (ha : 0 < es.length → a = some ⟨b, o, none⟩)
    (hk : ∀ i (hi : i < es.length), (pcells es[i]).length = k) (hF : ∀ i j, i < es.length → j < k → F b (o + i * k + j) = some (vs i j) ∧ (vs i j).oneCell' = true)
    (h : ∀ i (hi : i < es.length) j (hj : j < (pcells es[i]).length), RP F (pcells es[i])[j] (vs i j)) : ∃ vss, ElsAt β F w (es.map .pv) a k vss := by
  refine ⟨(List.range es.length).map fun i => (List.range k).map (vs i), ?_, ?_, ?_⟩
  · refine F2.of_get (by simp) fun i h1 h2 => ?_
    have hi : i < es.length := by simpa using h1
    simp only [List.getElem_map, List.getElem_range, cells_pv]
    refine ⟨RL.of_pv (F2.of_get (by simp [hk i hi]) fun j g1 g2 => by simpa using h i hi j g1), fun v hv => ?_⟩
    obtain ⟨j, hj, rfl⟩ := List.mem_map.1 hv
    exact (hF i j hi (by simpa using hj)).2
  · intro i vs' hvs
    obtain ⟨hi, rfl⟩ := List.getElem?_eq_some_iff.1 hvs
    simp
  · intro i vs' hvs
    obtain ⟨hi, rfl⟩ := List.getElem?_eq_some_iff.1 hvs
    have hi' : i < es.length := by simpa using hi
    refine ⟨b, o, ha (by omega), fun j v hj => ?_⟩
    obtain ⟨hj', rfl⟩ := List.getElem?_eq_some_iff.1 hj
    have hjk : j < k := by simpa using hj'
    simpa using S.frz _ _ _ (hF i j hi' hjk).1

theorem R.els {β : Bnd} {F : Fr} {M : Mem} {w : World} (S : Sim β F M w) {x : AV} {u : Value} (h : R β F x u) {es : List AV} (he : elems M x = some es) :
    ∃ a cap k vss, u = .slice a es.length cap ∧ es.length ≤ cap ∧ ElsAt β F w es a k vss := by
  have key : (∃ ps, (x = .pv (.sl ps) ∨ x = .pv (.cl ps)) ∧ es = ps.map .pv) ∨ ∃ g n off len, x = .gs g n off len := by
    cases x with
    | pv p => cases p <;> simp [elems] at he <;> exact .inl ⟨_, by simp, he.symm⟩
    | gs g n off len => exact .inr ⟨g, n, off, len, rfl⟩
    | _ => simp [elems] at he
  rcases key with ⟨ps, rfl | rfl, rfl⟩ | ⟨g, n, off, len, rfl⟩
  · cases h with
    | pv h =>
      cases h with
      | sl b o k vs hc ha hk hF h =>
        obtain ⟨vss, E⟩ := RP.els (β := β) S ha hk hF h (cap := 0)
        exact ⟨_, _, k, vss, (by rw [List.length_map]), (by rw [List.length_map]; exact hc), E⟩
  · cases h with
    | pv h =>
      cases h with
      | cl b o k vs ha hk hF h =>
        obtain ⟨vss, E⟩ := RP.els (β := β) S ha hk hF h (cap := 0)
        exact ⟨_, ps.length, k, vss, (by rw [List.length_map]), (by rw [List.length_map]; exact Nat.le_refl _), E⟩
  · simp only [elems] at he
    split at he
    · rename_i es0 fz hg
      obtain ⟨hg, hn⟩ := getArr_some hg
      split at he
      · rename_i hle
        simp only [Option.some.injEq] at he
        subst he
        cases h with
        | gs hβ hs =>
          rename_i a c bd
          obtain ⟨hc, hlc, hsa⟩ := hs
          have A := S.arr g es0 fz bd hg (by rw [hn]; exact hβ)
          have hlen : ((es0.drop off).take len).length = len := by simp; omega
          refine ⟨a, c, bd.k, ?_⟩
          by_cases hne : 0 < len
          · obtain ⟨b, o, vss, hb, he', hcell⟩ := A.els S.frz (by omega)
            have hoff : off < bd.cap := by omega
            refine ⟨(vss.drop off).take len, by rw [hlen], by rw [hlen]; exact hlc, F2.take (F2.drop he' off) len, fun i vs hvs => ?_, fun i vs hvs => ?_⟩
            · have hi : i < len := by have := (List.getElem?_eq_some_iff.1 hvs).1; simp at this; omega
              rw [List.getElem?_take_of_lt hi, List.getElem?_drop] at hvs
              exact (hcell _ _ hvs).1
            · have hi : i < len := by have := (List.getElem?_eq_some_iff.1 hvs).1; simp at this; omega
              rw [List.getElem?_take_of_lt hi, List.getElem?_drop] at hvs
              refine ⟨b, o + off * bd.k, by rw [hsa hoff, hb]; rfl, fun j v hj => ?_⟩
              have := (hcell _ _ hvs).2 j v hj
              rwa [show o + (off + i) * bd.k + j = o + off * bd.k + i * bd.k + j by rw [Nat.add_mul]; omega] at this
          · have h0 : len = 0 := by omega
            subst h0
            exact ⟨[], by simp, by simp, .nil, fun i vs h => by simp at h, fun i vs h => by simp at h⟩
      · simp at he
    · simp at he

section
variable {P : Program} {tb : Tabs} (H : TabsTy P tb) {o : Oper} {β : Bnd} {F : Fr} {M : Mem} {w : World} {T : List AV} {a : Act} (hT : RL β F T a.tmps.toList) (S : Sim β F M w) {v : AV} {M' : Mem} {fi : FnI}
include H hT S

theorem out_unOp {op : UnOp} {t : TypeId} {x : Operand} (ho : o.op = .unOp op t x) (h : stepOp tb fi T M o.dst o.op = .val v M') : Out P o a.eval β F M w v M' := by
  rw [ho] at h
  simp only [stepOp] at h
  have hh := ofVal_val h
  clear h
  obtain ⟨h, e'⟩ := hh
  subst e'
  have hx := evalO_R hT x
  unfold unV at h
  split at h
  · rename_i k n e
    rw [e] at hx
    generalize hu : a.eval x = u at hx
    simp only [Option.some.injEq] at h
    subst h
    cases hx with | pv hx => cases hx; exact .same S (by simp [execOp, ho, hu, Op.unary, Op.intArith]) (.pv (.int ..))
  · rename_i b e
    rw [e] at hx
    generalize hu : a.eval x = u at hx
    simp only [Option.some.injEq] at h
    subst h
    cases hx with | pv hx => cases hx; exact .same S (by simp [execOp, ho, hu, Op.unary]) (.pv (.bool _))
  · simp at h

theorem out_field {t : TypeId} {x : Operand} {f : Nat} (ho : o.op = .field t x f) (h : stepOp tb fi T M o.dst o.op = .val v M') : Out P o a.eval β F M w v M' := by
  rw [ho] at h
  simp only [stepOp] at h
  split at h
  · rename_i off sz ag hf
    split at h
    · rename_i hag
      have hh := ofVal_val h
      clear h
      obtain ⟨h, e'⟩ := hh
      subst e'
      obtain ⟨gs, g, i, d, h1, h2, h3, h4, h5, h6, h7, h8⟩ := fieldOf_ok H hf
      simp only at h3 h5 h8
      have hx := evalO_R hT x
      obtain ⟨vs, hvs⟩ := hx.isAgg hag
      have hnt : odd (evalO T x) = false := by
        revert hag
        generalize evalO T x = z
        cases z with
        | pv p => cases p <;> simp [isAgg, odd, isTop, isTup]
        | _ => simp [isAgg, odd, isTop, isTup]
      obtain ⟨hc, hone⟩ := hx.cells_odd hnt
      rw [hvs] at hc hone
      have hp := partAt_R (P := P) h hc hone
      have hrowagg : (Go.isAgg g.type).run P w = .ok d.isRow w := by
        unfold Go.isAgg
        rw [Sem.run_bind, run_underlying h7 w]
        cases d <;> rfl
      cases hag' : ag with
      | true =>
        rw [hag', if_pos rfl] at hp
        obtain ⟨hl, hr⟩ := hp
        refine .same (x := .agg (((Value.agg vs).cells.toList.drop off).take sz).toArray) S ?_ hr
        have e : (((Value.agg vs).cells.toList.drop off).take sz).toArray = vs.extract off (off + sz) := by
          apply Array.ext'
          simp [Value.cells, Array.toList_extract]
        rw [e]
        simp [execOp, ho, hvs, Instr.field, run_underlying h1, h2, part, asAgg, hrowagg, h8, hag', sizeOf, typeInfo, h4, h5, h3]
      | false =>
        rw [hag'] at hp
        simp only [Bool.false_eq_true, if_false] at hp
        obtain ⟨z, hz1, hz2, hr⟩ := hp
        have hz1' : vs[off]? = some z := by simpa [Value.cells] using hz1
        exact .same (x := z) S (by simp [execOp, ho, hvs, Instr.field, run_underlying h1, h2, part, asAgg, hrowagg, h8, hag', h3, hz1']) hr
    · simp at h
  · simp at h

theorem out_load {t : TypeId} {x : Operand} (ho : o.op = .load t x) (h : stepOp tb fi T M o.dst o.op = .val v M') : Out P o a.eval β F M w v M' := by
  rw [ho] at h
  simp only [stepOp] at h
  split at h
  · rename_i ti hty
    have hh := ofVal_val h
    clear h
    obtain ⟨h, e'⟩ := hh
    subst e'
    obtain ⟨r, hr, hR⟩ := loadAt_R H hty S (evalO_R hT x) h
    exact .same (x := r) S (by simp [execOp, ho, hr]) hR
  · simp at h

theorem out_index {t : TypeId} {x i : Operand} (ho : o.op = .index t x i) (h : stepOp tb fi T M o.dst o.op = .val v M') : Out P o a.eval β F M w v M' := by
  rw [ho] at h
  simp only [stepOp] at h
  split at h
  · rename_i s k hty hs hk
    split at h
    · rename_i b hb
      simp only [Res.val.injEq] at h
      obtain ⟨rfl, rfl⟩ := h
      have hx := evalO_R hT x
      rw [hs] at hx
      generalize hu : a.eval x = u at hx
      obtain ⟨q, hi⟩ := natOf_R (evalO_R hT i) hk
      obtain ⟨d, hd, hkd⟩ := und_of H hty
      cases hkd
      cases hx with
      | pv hx =>
        cases hx
        rename_i ba
        have hb' : ba[k]? = some b := by
          obtain ⟨hlt, he⟩ := List.getElem?_eq_some_iff.1 hb
          have hlt' : k < ba.size := by rw [Array.length_toList] at hlt; exact hlt
          rw [getElem?_pos ba k hlt']
          congr 1
        exact .same (x := .int .u8 b.toNat) S (by simp [execOp, ho, hu, hi, Instr.index, asIntOf, run_underlying hd, hb']) (.pv (.int ..))
    · simp at h
  · simp at h

theorem slice_base_add (b q : Nat) (n : Nat) : (⟨b, q, none⟩ : Addr).add n = ⟨b, q + n, none⟩ := Addr.add_mid b q n

theorem run_indexAt {t e : TypeId} {ie : TypeInfo} (hd : P.underlying t = some (.slice e)) (hi : P.info? e = some ie) (b q len cap : Nat) (k : IntKind) (i : Nat) (hl : i < len) :
    (Instr.indexAt t (.slice (some ⟨b, q, none⟩) len cap) (.int k i)).run P w = .ok (.pointer (some ⟨b, q + i * ie.size, none⟩)) w := by
  have h2 : (i : Int) < len := by omega
  simp [Instr.indexAt, asIntOf, run_underlying hd, sizeOf, typeInfo, hi, h2, Addr.add_mid]
  omega

theorem out_indexAddr {t : TypeId} {x i : Operand} (ho : o.op = .indexAddr t x i) (h : stepOp tb fi T M o.dst o.op = .val v M') : Out P o a.eval β F M w v M' := by
  rw [ho] at h
  simp only [stepOp] at h
  split at h
  · rename_i e _ _ _ _ _ k hty hk
    split at h
    · rename_i ti hte
      have hh := ofVal_val h
      clear h
      obtain ⟨h, e'⟩ := hh
      subst e'
      have hx := evalO_R hT x
      obtain ⟨q, hi⟩ := natOf_R (evalO_R hT i) hk
      obtain ⟨d, hd, hkd⟩ := und_of H hty
      cases hkd
      obtain ⟨ie, z, hie, hse, _⟩ := (H.ty _ _ hte).info
      have fin : ∀ (es : List PV) (b o' kk : Nat) (vs : Nat → Nat → Value) (ad : Option Addr) (cap : Nat), (0 < es.length → ad = some ⟨b, o', none⟩) → (∀ i (hi : i < es.length), (pcells es[i]).length = kk) →
          (∀ i j, i < es.length → j < kk → F b (o' + i * kk + j) = some (vs i j) ∧ (vs i j).oneCell' = true) → (∀ i (hi : i < es.length) j (hj : j < (pcells es[i]).length), RP F (pcells es[i])[j] (vs i j)) →
          a.eval x = .slice ad es.length cap → (match es[k]? with | some e => if (pcells e).length = ti.size then some (AV.ep e 0) else none | none => none) = some v → Out P o a.eval β F M' w v M' := by
        intro es b o' kk vs ad cap had hkk hF hr hax hv
        split at hv
        · rename_i el hel
          obtain ⟨hlt, rfl⟩ := List.getElem?_eq_some_iff.1 hel
          split at hv
          · rename_i hsz
            simp only [Option.some.injEq] at hv
            subst hv
            have hsz' : ie.size = kk := by rw [hse, ← hsz, hkk k hlt]
            have had' := had (by omega)
            subst had'
            refine .same (x := .pointer (some ⟨b, o' + k * ie.size, none⟩)) S ?_ (.ep (fun j => vs k j) (fun j hj => ?_) fun j hj => ?_)
            · have := run_indexAt H hT S hd hie b o' es.length cap q k hlt
              simp [execOp, ho, hax, hi, this]
            · rw [hsz']; exact hF k j hlt (by rw [← hkk k hlt]; simpa using hj)
            · have := hr k hlt j (by simpa using hj)
              simpa using this
          · simp at hv
        · simp at hv
      unfold indexAt at h
      split at h
      · rename_i es he
        rw [he] at hx
        generalize hu : a.eval x = u at hx
        cases hx with | pv hx => cases hx with
          | sl b o' kk vs hc ha hkk hF hr => exact fin es b o' kk vs _ _ ha hkk hF hr hu h
      · rename_i es he
        rw [he] at hx
        generalize hu : a.eval x = u at hx
        cases hx with | pv hx => cases hx with
          | cl b o' kk vs ha hkk hF hr => exact fin es b o' kk vs _ _ ha hkk hF hr hu h
      · rename_i g n off len he
        rw [he] at hx
        generalize hu : a.eval x = u at hx
        split at h
        · rename_i es fz hg
          obtain ⟨hg, hn⟩ := getArr_some hg
          split at h
          · rename_i hc
            obtain ⟨hc1, hc2, hc3⟩ := hc
            simp only [Option.some.injEq] at h
            subst h
            cases hx with
            | gs hβ hs =>
              rename_i ad c bd
              obtain ⟨hcc, hlc, hsa⟩ := hs
              have A := S.arr g es fz bd hg (by rw [hn]; exact hβ)
              have hpos : 0 < es.length := by omega
              obtain ⟨b, o', hb, hlen0, _⟩ := A.read S.frz hpos
              have hk0 : bd.k = ie.size := by
                rw [hse, ← hlen0]
                unfold headOk at hc3
                cases es with
                | nil => simp at hpos
                | cons e0 r => simpa using hc3
              have hoff : off < bd.cap := by omega
              have had := hsa hoff
              rw [hb] at had
              simp only [Option.map_some] at had
              subst had
              have := run_indexAt H hT S hd hie b (o' + off * bd.k) len c q k hc1
              refine .same (x := .pointer (some ⟨b, o' + (off + k) * bd.k + 0, none⟩)) S ?_ (.p hβ hb)
              have e : o' + (off + k) * bd.k + 0 = o' + off * bd.k + k * ie.size := by rw [hk0, Nat.add_mul]; omega
              rw [e]
              simp [execOp, ho, hu, hi, this]
          · simp at h
        · simp at h
      · simp at h
    · simp at h
  · simp at h
end
end Go.Vm
