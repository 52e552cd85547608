/- Built-ins; each operation. -/
import Derived.Test.YtiajhfodfhmfaaaGreatDoorWmOp10
set_option linter.unusedVariables false
set_option linter.unusedSimpArgs false
set_option linter.unusedSectionVars false
namespace Go.Vm
variable [SymB] [SymV]

section
variable {P : Program} {tb : Tabs} (H : TabsTy P tb) {o : Oper} {β : Bnd} {F : Fr} {M : Mem} {w : World} {T : List AV} {a : Act} (hT : RL β F T a.tmps.toList) (S : Sim β F M w) {v : AV} {M' : Mem} {fi : FnI}

include H S in
theorem clear_sound {t ty e : TypeId} {ti : TI} {g n off len fz : Nat} {es : List AV} {X : Value} (hd : P.underlying t = some (.slice e)) (hte : tb.ty e = some ti) (hx : R β F (.gs g n off len) X) (hg0 : getArr M g n = some (es, fz)) (hoff : off + len ≤ n) (hhd : headOk ti.size es = true) (hlen : len ≠ 0) (hfz : fz ≤ off) :
    ∃ β' F' w' r, (Builtin.clear_ #[t] ty #[X]).run P w = .ok r w' ∧ Ext β F M w β' F' (M.set g (.arr (es.take off ++ List.replicate len (.pv (zeroOf ti)) ++ es.drop (off + len)) fz)) w' ∧ Sim β' F' (M.set g (.arr (es.take off ++ List.replicate len (.pv (zeroOf ti)) ++ es.drop (off + len)) fz)) w' ∧ R β' F' (.pv (.tup [])) r := by
  obtain ⟨hg, hn⟩ := getArr_some hg0
  obtain ⟨i, z, z1, z2, z3, z4, z5, z6, z7, z8, z9⟩ := (H.ty _ _ hte).info
  cases hx with
  | gs hβ hsl =>
    rename_i ad cap bd
    obtain ⟨q1, q2, q3⟩ := hsl
    have hβ' : β.arr g es.length = some bd := by rw [hn]; exact hβ
    have A := S.arr g es fz bd hg hβ'
    obtain ⟨hown, b, O⟩ : bd.own = true ∧ ∃ b, OwnOk β F es fz bd w b := by
      rcases A.kind with h | ⟨_, _, _, hf⟩
      · exact h
      · have := hf.fz; omega
    have hrm := A.room
    have hk : bd.k = ti.size := by
      have h1 := O.len 0 (by omega)
      cases es with
      | nil => simp at hn; omega
      | cons e0 r => simp only [headOk, beq_iff_eq] at hhd; simp only [List.getElem_cons_zero] at h1; omega
    have hax := q3 (by omega)
    rw [O.base] at hax
    simp only [Option.map_some, Nat.zero_add] at hax
    subst hax
    have hrows : RL β F (cells (.pv (zeroOf ti))) z.cells.toList := zero_nrm (T := []) (a := { tmps := #[], defers := [] }) H .nil S hte (RL.of_pv (z5 F))
    have hzl : (cells (.pv (zeroOf ti))).length = ti.size := by rw [F2.length hrows, Array.length_toList, z7]
    have hzc := zeroCells_rows z.cells len
    generalize hxs : (Builtin.zeroCells z.cells len).toList = xs
    rw [hxs] at hzc
    obtain ⟨f1, f2⟩ := flat_get (k := ti.size) (l := List.replicate len z.cells.toList) (fun i vs h => by
      obtain ⟨h1, h2⟩ := List.getElem?_eq_some_iff.1 h
      simp at h2; rw [← h2]; simp [z7])
    rw [← hzc] at f1 f2
    simp only [List.length_replicate] at f1
    have hone : allOne xs := fun v hv => by
      rw [hzc] at hv
      obtain ⟨vs, hvs, hv⟩ := List.mem_flatten.1 hv
      rw [(List.mem_replicate.1 hvs).2] at hv
      exact z6 v hv
    have hel : (es.take off ++ List.replicate len (AV.pv (zeroOf ti)) ++ es.drop (off + len)).length = es.length := by simp; omega
    have hget : ∀ i2 (hi2 : i2 < (es.take off ++ List.replicate len (AV.pv (zeroOf ti)) ++ es.drop (off + len)).length),
        (off ≤ i2 ∧ i2 < off + len ∧ (es.take off ++ List.replicate len (AV.pv (zeroOf ti)) ++ es.drop (off + len))[i2] = AV.pv (zeroOf ti)) ∨ ((i2 < off ∨ off + len ≤ i2) ∧ ∃ h : i2 < es.length, (es.take off ++ List.replicate len (AV.pv (zeroOf ti)) ++ es.drop (off + len))[i2] = es[i2]) := fun i2 hi2 => by
      have htl : (es.take off).length = off := by simp; omega
      have htl2 : (es.take off ++ List.replicate len (AV.pv (zeroOf ti))).length = off + len := by rw [List.length_append, htl]; simp
      by_cases h1 : i2 < off
      · refine .inr ⟨.inl h1, by omega, ?_⟩
        rw [List.getElem_append_left (by omega), List.getElem_append_left (by omega)]
        simp
      · by_cases h2 : i2 < off + len
        · refine .inl ⟨by omega, h2, ?_⟩
          rw [List.getElem_append_left (by omega), List.getElem_append_right (by omega)]
          simp
        · refine .inr ⟨.inr (by omega), by omega, ?_⟩
          rw [List.getElem_append_right (by omega)]
          simp only [List.getElem_drop, htl2]
          congr 1; omega
    have hfit : off * bd.k + xs.length ≤ bd.cap * bd.k := by
      rw [f1, hk, ← Nat.add_mul]; exact Nat.mul_le_mul_right _ (by omega)
    obtain ⟨S', X⟩ := S.write (es' := es.take off ++ List.replicate len (AV.pv (zeroOf ti)) ++ es.drop (off + len)) (bd' := bd) (q := off * bd.k) (xs := xs) hg hβ' hown O.base (by omega) (fun bd2 h2 => by rw [hel, hβ'] at h2; exact (Option.some.inj h2).symm) rfl
      (Nat.mul_le_mul_right _ hfz) (by rw [hel]; exact hrm) hfit hone
      (fun i2 hi2 => by
        rcases hget i2 hi2 with ⟨_, _, e⟩ | ⟨_, h, e⟩ <;> rw [e]
        · rw [hzl, hk]
        · exact O.len i2 h)
      (fun i2 hi2 j hj => by
        rcases hget i2 hi2 with ⟨h1, h2, e⟩ | ⟨h1, h, e⟩
        · have hj' : j < (cells (.pv (zeroOf ti))).length := by rw [← e]; exact hj
          have hjk : j < ti.size := by omega
          obtain ⟨u, hu, hr⟩ := F2.get? hrows (List.getElem?_eq_getElem hj')
          refine ⟨u, ?_, z6 _ (List.mem_of_getElem? hu), by simp only [e]; exact hr⟩
          have e2 : i2 * bd.k + j - off * bd.k = (i2 - off) * ti.size + j := by
            have : i2 * bd.k = (i2 - off) * bd.k + off * bd.k := by rw [← Nat.add_mul]; congr 1; omega
            rw [hk] at this ⊢; omega
          have h5 : (i2 - off + 1) * ti.size ≤ len * ti.size := Nat.mul_le_mul_right _ (by omega)
          rw [Nat.add_mul] at h5
          have h6 : off * bd.k ≤ i2 * bd.k := Nat.mul_le_mul_right _ h1
          have h7 : i2 * bd.k = (i2 - off) * bd.k + off * bd.k := by rw [← Nat.add_mul]; congr 1; omega
          rw [if_pos ⟨by omega, by rw [f1]; rw [hk] at h7 ⊢; omega⟩, e2, f2 _ _ hjk]
          simp only [List.getElem?_replicate]
          rw [if_pos (by omega)]
          simpa using hu
        · have hj' : j < (cells es[i2]).length := by rw [← e]; exact hj
          obtain ⟨u, k1, k2, k3⟩ := O.val i2 h j hj'
          refine ⟨u, ?_, k2, by simp only [e]; exact k3⟩
          have hjk : j < bd.k := by rw [← O.len i2 h]; exact hj'
          rw [if_neg]
          · exact k1
          · rintro ⟨g1, g2⟩
            rw [f1, ← hk, ← Nat.add_mul] at g2
            rcases h1 with h1 | h1
            · have := Nat.mul_le_mul_right bd.k (show i2 + 1 ≤ off from h1)
              rw [Nat.add_mul] at this; omega
            · have := Nat.mul_le_mul_right bd.k h1
              omega)
    have hst := run_storeCells_cells (P := P) b (off * bd.k) xs 0 w (fun j hj => (O.there _ (by omega)).1) (fun j hj => (O.there _ (by omega)).2) hone
    refine ⟨_, F, _, .tuple #[], ?_, X, S', .pv (.tup rfl fun i h1 h2 => by simp at h1)⟩
    have hl0 : len ≠ 0 := hlen
    cases len with
    | zero => exact absurd rfl hl0
    | succ len =>
      simp only [Nat.add_zero] at hst
      simp [Builtin.clear_, run_underlying hd, zeroValue, typeInfo, z1, z4, hxs, hst]

include H S in
theorem builtin_sound {b : Builtin} {ts : Array TypeId} {ty : TypeId} {cs : Array Bool} {xs : List AV} {args : Array Value} (hx : RL β F xs args.toList) (h : builtinV tb M b ts xs = .val v M') : BOut P b ts ty cs args β F M w v M' := by
  have hof : ∀ {r : Option (AV × Mem)}, ofOpt r = .val v M' → r = some (v, M') := fun {r} h => by
    cases r with
    | none => simp [ofOpt] at h
    | some p => obtain ⟨p1, p2⟩ := p; simp only [ofOpt, Res.val.injEq] at h; simp [h]
  have harr1 : ∀ {t : TypeId}, ts.toList = [t] → ts = #[t] := fun h => Array.ext' (by simpa using h)
  have harr2 : ∀ {t u : TypeId}, ts.toList = [t, u] → ts = #[t, u] := fun h => Array.ext' (by simpa using h)
  have hargs : ∀ {l : List Value}, args.toList = l → args = l.toArray := fun h => Array.ext' (by simpa using h)
  unfold builtinV at h
  split at h
  · rename_i t x hts
    have := harr1 hts; subst this
    generalize hal : args.toList = al at hx
    cases hx with
    | cons hx ht =>
      cases ht
      rename_i X
      have := hargs hal; subst this
      split at h
      · rename_i ti n hty hn
        split at h
        · rename_i hk
          simp only [Res.val.injEq] at h
          obtain ⟨rfl, rfl⟩ := h
          obtain ⟨d, hd, hkd⟩ := und_of H hty
          have hrun : (Builtin.len_ #[t] ty [X].toArray).run P w = .ok (goInt n) w := by
            unfold lenOk at hk
            split at hk
            · rename_i s e
              rw [e] at hkd
              cases hkd
              cases hx with
              | pv hx =>
                cases hx with
                | str u =>
                  simp only [lenV, Option.some.injEq] at hn
                  subst hn
                  simp [Builtin.len_, run_underlying hd]
            · rename_i e' s e
              rw [e] at hkd
              cases hkd
              cases hx with
              | pv hx =>
                cases hx with
                | sl b q k vs hc ha hk' hF hr =>
                  simp only [lenV, Option.some.injEq] at hn
                  subst hn
                  simp [Builtin.len_, run_underlying hd]
            · rename_i e' s e
              rw [e] at hkd
              cases hkd
              cases hx with
              | pv hx =>
                cases hx with
                | cl b q k vs ha hk' hF hr =>
                  simp only [lenV, Option.some.injEq] at hn
                  subst hn
                  simp [Builtin.len_, run_underlying hd]
            · rename_i e
              rw [e] at hkd
              cases hkd
              cases hx with
              | gs hβ hsl =>
                simp only [lenV, Option.some.injEq] at hn
                subst hn
                simp [Builtin.len_, run_underlying hd]
            · rename_i kt et g e
              rw [e] at hkd
              obtain ⟨rfl, _⟩ := hkd
              cases hx with
              | mp hβ =>
                rename_i bb
                simp only [lenV] at hn
                split at hn
                · rename_i es hes
                  simp only [Option.some.injEq] at hn
                  subst hn
                  obtain ⟨ents, clock, hb, hF2⟩ := S.map g es bb (getMap_some hes) hβ
                  have hget : (getObj bb).run P w = .ok (.map ents clock) w := by simp [getObj, Sem.run, hb]
                  have hl := F2.length hF2
                  have hl' : es.length = ents.size := by simpa using hl
                  simp [Builtin.len_, run_underlying hd, hget, hl']
                · simp at hn
            · simp at hk
          exact ⟨β, F, w, goInt n, by simp only [builtin, Sem.run_bind, hrun]; rfl, .refl .., S, .pv (.int ..)⟩
        · simp at h
      · simp at h
  · rename_i t es hts
    have := harr1 hts; subst this
    generalize hal : args.toList = al at hx
    cases hx with
    | cons hx ht =>
      cases ht
      rename_i X
      have := hargs hal; subst this
      split at h
      · rename_i e _ _ _ _ _ hty
        simp only [Res.val.injEq] at h
        obtain ⟨rfl, rfl⟩ := h
        obtain ⟨d, hd, hkd⟩ := und_of H hty
        cases hkd
        cases hx with
        | pv hx =>
          cases hx with
          | cl b q k vs ha hk' hF hr =>
            exact ⟨β, F, w, goInt es.length, by simp [builtin, Builtin.cap_, run_underlying hd], .refl .., S, .pv (.int ..)⟩
      · simp at h
  · rename_i t u x y hts
    have := harr2 hts; subst this
    generalize hal : args.toList = al at hx
    cases hx with
    | cons hx ht =>
      cases ht with
      | cons hy ht =>
        cases ht
        rename_i X _ Y
        have := hargs hal; subst this
        split at h
        · rename_i hu
          obtain ⟨d, hd, hkd⟩ := und_of H hu
          cases hkd
          obtain ⟨β', F', w', r, h1, h2, h3, h4⟩ := append_sound (ty := ty) H S hd hx hy (hof h)
          exact ⟨β', F', w', r, by simp only [builtin, Sem.run_bind]; rw [h1]; rfl, h2, h3, h4⟩
        · rename_i q _ _ _ _ _ e _ _ _ _ _ hu ht'
          obtain ⟨d, hd, hkd⟩ := und_of H hu
          cases hkd
          obtain ⟨d', hd', hkd'⟩ := und_of H ht'
          cases hkd'
          split at h
          · rename_i ti n hte hn
            split at h
            · rename_i hroom
              obtain ⟨β', F', w', r, h1, h2, h3, h4⟩ := append_zeros (ty := ty) H S hd' hd hte hx hy hn hroom (hof h)
              exact ⟨β', F', w', r, by simp only [builtin, Sem.run_bind]; rw [h1]; rfl, h2, h3, h4⟩
            · simp at h
          · simp at h
        · simp at h
  · rename_i x r hts
    generalize hal : args.toList = al at hx
    cases hx with
    | cons hx ht =>
      rename_i X rs
      obtain ⟨hv, rfl⟩ := ofVal_val h
      obtain ⟨V, h1, h2⟩ := run_minmax (P := P) w true hx ht hv
      exact ⟨β, F, w, V, by simp only [builtin, Builtin.min_, hal, Sem.run_bind]; simp only [if_true] at h1; rw [h1]; rfl, .refl .., S, h2⟩
  · rename_i x r hts
    generalize hal : args.toList = al at hx
    cases hx with
    | cons hx ht =>
      rename_i X rs
      obtain ⟨hv, rfl⟩ := ofVal_val h
      obtain ⟨V, h1, h2⟩ := run_minmax (P := P) w false hx ht hv
      exact ⟨β, F, w, V, by simp only [builtin, Builtin.max_, hal, Sem.run_bind]; simp only [Bool.false_eq_true, if_false] at h1; rw [h1]; rfl, .refl .., S, h2⟩
  · rename_i t g n off len hts
    have := harr1 hts; subst this
    generalize hal : args.toList = al at hx
    cases hx with
    | cons hx ht =>
      cases ht
      rename_i X
      have := hargs hal; subst this
      split at h
      · rename_i e _ _ _ _ _ hty
        obtain ⟨d, hd, hkd⟩ := und_of H hty
        cases hkd
        split at h
        · rename_i ti es fz hte hg
          split at h
          · rename_i hc
            split at h
            · rename_i hl0
              simp only [Res.val.injEq] at h
              obtain ⟨rfl, rfl⟩ := h
              subst hl0
              cases hx with
              | gs hβ hsl =>
                rename_i ad cap bd
                refine ⟨β, F, w, .tuple #[], ?_, .refl .., S, .pv (.tup rfl fun i h1 h2 => by simp at h1)⟩
                cases ad <;> simp [builtin, Builtin.clear_, run_underlying hd]
            · rename_i hl0
              split at h
              · rename_i hfz
                simp only [Res.val.injEq] at h
                obtain ⟨rfl, rfl⟩ := h
                obtain ⟨β', F', w', r, h1, h2, h3, h4⟩ := clear_sound (ty := ty) H S hd hte hx hg hc.1 hc.2 hl0 hfz
                exact ⟨β', F', w', r, by simp only [builtin, Sem.run_bind]; rw [h1]; rfl, h2, h3, h4⟩
              · simp at h
          · simp at h
        · simp at h
      · simp at h
  · simp at h
end
end Go.Vm
