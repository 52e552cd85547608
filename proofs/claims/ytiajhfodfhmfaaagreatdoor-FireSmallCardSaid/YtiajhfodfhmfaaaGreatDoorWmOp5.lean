/- Operations that write: structs, stores, lists that grow. -/
import Derived.Test.YtiajhfodfhmfaaaGreatDoorWmOp4
set_option linter.unusedVariables false
set_option linter.unusedSimpArgs false
set_option linter.unusedSectionVars false
namespace Go.Vm
variable [SymB] [SymV]

theorem cells_mkAgg (cs : List AV) : cells (mkAgg cs) = cs := by
  unfold mkAgg
  split
  · rename_i ps h; rw [unpvs_some h]; rfl
  · rfl

theorem overwrite_length {cs vs : List AV} {off : Nat} (h : off + vs.length ≤ cs.length) : (overwrite cs off vs).length = cs.length := by
  unfold overwrite; simp; omega

/-- What lies in cells that are written over. -/
def overV (cs : List Value) (off : Nat) (vs : List Value) : List Value := cs.take off ++ vs ++ cs.drop (off + vs.length)
theorem overwrite_R {β : Bnd} {F : Fr} {cs vs : List AV} {us xs : List Value} {off : Nat} (h : RL β F cs us) (k : RL β F vs xs) : RL β F (overwrite cs off vs) (overV us off xs) := by
  unfold overwrite overV
  rw [k.length]
  exact ((F2.take h off).append k).append (F2.drop h _)
theorem overV_get {us xs : List Value} {off j : Nat} (h : off + xs.length ≤ us.length) : (overV us off xs)[j]? = if off ≤ j ∧ j < off + xs.length then xs[j - off]? else us[j]? := by
  unfold overV
  by_cases h1 : j < off
  · rw [List.append_assoc, List.getElem?_append_left (by simp; omega), List.getElem?_take_of_lt h1, if_neg (by omega)]
  · by_cases h2 : j < off + xs.length
    · rw [List.append_assoc, List.getElem?_append_right (by simp; omega), List.getElem?_append_left (by simp; omega), if_pos ⟨by omega, h2⟩]
      congr 1
      simp; omega
    · rw [List.getElem?_append_right (by simp; omega), List.getElem?_drop, if_neg (by omega)]
      congr 1
      simp; omega

theorem setCells_map (b : Nat) : ∀ (vs : List Value) (o : Nat) (w : World) {b' : Nat} {ents : Array MapEntry} {clock : Nat}, w.heap[b']? = some (Go.Obj.map ents clock) → (w.setCells b o vs).heap[b']? = w.heap[b']?
  | [], _, _, _, _, _, _ => rfl
  | v :: r, o, w, b', ents, clock, h => by
    have h1 : (w.setCell ⟨b, o, none⟩ v).heap[b']? = w.heap[b']? := by
      simp only [World.setCell, Array.getElem?_modify]
      split
      · rename_i e; subst e; rw [h]; rfl
      · rfl
    rw [World.setCells, setCells_map b r (o + 1) _ (by rw [h1]; exact h), h1]
theorem setCells_size (b : Nat) : ∀ (vs : List Value) (o : Nat) (w : World), (w.setCells b o vs).heap.size = w.heap.size
  | [], _, _ => rfl
  | v :: r, o, w => by rw [World.setCells, setCells_size b r (o + 1)]; simp [World.setCell]
theorem setCells_env (b : Nat) : ∀ (vs : List Value) (o : Nat) (w : World), (w.setCells b o vs).os = w.os ∧ (w.setCells b o vs).tape = w.tape ∧ (w.setCells b o vs).output = w.output
  | [], _, _ => ⟨rfl, rfl, rfl⟩
  | v :: r, o, w => by rw [World.setCells]; exact setCells_env b r (o + 1) (w.setCell ⟨b, o, none⟩ v)
theorem setCells_other (b : Nat) (vs : List Value) (o : Nat) (w : World) {b' : Nat} (h : b' ≠ b) : (w.setCells b o vs).heap[b']? = w.heap[b']? := by
  induction vs generalizing o w with
  | nil => rfl
  | cons v r ih =>
    rw [World.setCells, ih]
    simp only [World.setCell, Array.getElem?_modify]
    rw [if_neg (Ne.symm h)]

/-- An array of the call's own turns, its block written in part. -/
theorem Sim.write {β : Bnd} {F : Fr} {M : Mem} {w : World} (S : Sim β F M w) {g : Nat} {es es' : List AV} {fz : Nat} {bd bd' : Bind} {b q : Nat} {xs : List Value} (hg : M[g]? = some (.arr es fz)) (hβ : β.arr g es.length = some bd) (hown : bd.own = true) (hb : bd.base = some (b, 0))
    (hlen : es.length ≤ es'.length) (hsame : ∀ bd'', β.arr g es'.length = some bd'' → bd'' = bd') (hb' : bd' = bd)
    (hq : fz * bd.k ≤ q) (hroom : es'.length ≤ bd.cap) (hfit : q + xs.length ≤ bd.cap * bd.k) (hone : allOne xs) (hk : ∀ i (hi : i < es'.length), (cells es'[i]).length = bd.k)
    (hv : ∀ i (hi : i < es'.length) j (hj : j < (cells es'[i]).length), ∃ v, (if q ≤ i * bd.k + j ∧ i * bd.k + j < q + xs.length then xs[i * bd.k + j - q]? else w.cell? ⟨b, i * bd.k + j, none⟩) = some v ∧ v.oneCell' = true ∧ R β F (cells es'[i])[j] v) :
    Sim (β.put g es'.length bd') F (M.set g (.arr es' fz)) (w.setCells b q xs) ∧ Ext β F M w (β.put g es'.length bd') F (M.set g (.arr es' fz)) (w.setCells b q xs) := by
  subst hb'
  have hgl := (List.getElem?_eq_some_iff.1 hg).1
  have A := S.arr g es fz bd' hg hβ
  obtain ⟨b1, O⟩ : ∃ b1, OwnOk β F es fz bd' w b1 := by
    rcases A.kind with ⟨_, h⟩ | ⟨hno, _⟩
    · exact h
    · rw [hown] at hno; simp at hno
  have e1 : b1 = b := by have := O.base; rw [hb] at this; simp at this; exact this.symm
  subst e1
  have howner : OwnA β M g b1 := ⟨es, fz, bd', hg, hβ, hown, hb⟩
  have honly : ∀ b2, OwnA β M g b2 → b2 = b1 := by
    rintro b2 ⟨es2, fz2, bd2, k1, k2, k3, k4⟩
    rw [hg] at k1; simp only [Option.some.injEq, MObj.arr.injEq] at k1; obtain ⟨rfl, rfl⟩ := k1
    rw [hβ] at k2; simp only [Option.some.injEq] at k2; subst k2
    rw [hb] at k4; simpa using k4.symm
  have hle : β.le (β.put g es'.length bd') := Bnd.le_put (by
    cases h : β.arr g es'.length with
    | none => exact .inl rfl
    | some bd2 => exact .inr (by rw [hsame bd2 h]))
  have hin : ∀ o, q ≤ o → o < q + xs.length → (w.setCells b1 q xs).cell? ⟨b1, o, none⟩ = xs[o - q]? := fun o h1 h2 => by
    have := World.cell?_setCells_in b1 xs q w (fun j hj => (O.there _ (by omega)).1) (o - q) (by omega)
    rw [show q + (o - q) = o by omega] at this
    rw [this, List.getElem?_eq_getElem (by omega)]
  have hout : ∀ o, (o < q ∨ q + xs.length ≤ o) → (w.setCells b1 q xs).cell? ⟨b1, o, none⟩ = w.cell? ⟨b1, o, none⟩ := fun o h => World.cell?_setCells_out b1 xs q w _ (fun _ _ => h)
  refine (Turn.sim (es := es') (fz := fz) S ⟨by simp [hgl], fun g' h => by rw [List.getElem?_set_ne (Ne.symm h)], .inr ⟨es, fz, hg, hlen⟩, hsame, (setCells_env b1 xs q w).1, (setCells_env b1 xs q w).2.1, (setCells_env b1 xs q w).2.2, by rw [setCells_size]; exact Nat.le_refl _, fun b2 _ hn => setCells_other b1 xs q w (fun e => hn (e ▸ howner)), fun b2 ents clock h => setCells_map b1 xs q w h, fun b2 o v ho hF => ?_, ⟨hroom, ?_, .inl ⟨hown, b1, ?_⟩⟩, fun b2 _ h2 => .inr ?_, by simp⟩ (fun _ => ⟨_, _, hβ⟩))
  · have e := honly b2 ho; subst e
    have hlt : o < q := by
      rcases Nat.lt_or_ge o q with h | h
      · exact h
      · have := O.free o (by omega); rw [this] at hF; simp at hF
    rw [hout o (.inl hlt)]; exact S.frz b2 o v hF
  · intro he
    subst he
    have : es = [] := List.eq_nil_of_length_eq_zero (by simpa using hlen)
    exact A.empty this
  · refine ⟨hb, by rw [setCells_size]; exact O.lt, fun o ho => ⟨?_, by rw [World.frozen?_setCells]; exact (O.there o ho).2⟩, hk, fun i hi j hj => ?_, O.free⟩
    · by_cases h : q ≤ o ∧ o < q + xs.length
      · rw [hin o h.1 h.2, List.getElem?_eq_getElem (by omega)]; rfl
      · rw [hout o (by omega)]; exact (O.there o ho).1
    · obtain ⟨v, h1, h2, h3⟩ := hv i hi j hj
      refine ⟨v, ?_, h2, h3.mono hle (.refl _)⟩
      by_cases h : q ≤ i * bd'.k + j ∧ i * bd'.k + j < q + xs.length
      · rw [if_pos h] at h1; rw [hin _ h.1 h.2]; exact h1
      · rw [if_neg h] at h1; rw [hout _ (by omega)]; exact h1
  · rw [hb] at h2; simp at h2; rw [← h2]; exact howner

section
variable {P : Program} {tb : Tabs} (H : TabsTy P tb) {o : Oper} {β : Bnd} {F : Fr} {M : Mem} {w : World} {T : List AV} {a : Act} (hT : RL β F T a.tmps.toList) (S : Sim β F M w) {v : AV} {M' : Mem} {fi : FnI}
include H hT S

theorem out_store {t : TypeId} {x y : Operand} (ho : o.op = .store t x y) (h : stepOp tb fi T M o.dst o.op = .val v M') : Out P o a.eval β F M w v M' := by
  rw [ho] at h
  simp only [stepOp] at h
  split at h
  · rename_i ti hty
    split at h
    · rename_i M1 hst
      simp only [Res.val.injEq] at h
      obtain ⟨rfl, rfl⟩ := h
      unfold storeAt at hst
      have hx := evalO_R hT x
      have hy := (evalO_R hT y).nrm
      split at hst
      · rename_i g n i off hxe
        rw [hxe] at hx
        generalize hu : a.eval x = u at hx
        split at hst
        · rename_i es fz hg
          obtain ⟨hg, hn⟩ := getArr_some hg
          split at hst
          · rename_i e he
            obtain ⟨hlt, rfl⟩ := List.getElem?_eq_some_iff.1 he
            split at hst
            · rename_i hfz
              split at hst
              · rename_i e' hse
                simp only [Option.some.injEq] at hst
                subst hst
                cases hx with
                | p hβ hbs =>
                  rename_i b q0 bd
                  have hβ' : β.arr g es.length = some bd := by rw [hn]; exact hβ
                  have A := S.arr g es fz bd hg hβ'
                  obtain ⟨hown, b1, O⟩ : bd.own = true ∧ ∃ b1, OwnOk β F es fz bd w b1 := by
                    rcases A.kind with h | ⟨_, _, _, hf⟩
                    · exact h
                    · have := hf.fz; omega
                  obtain ⟨rfl, rfl⟩ : b1 = b ∧ 0 = q0 := by have := O.base; rw [hbs] at this; simp at this; omega
                  -- the store's parts
                  unfold storeIn at hse
                  simp only at hse
                  split at hse
                  · rename_i hc
                    obtain ⟨hc1, hc2, hc3⟩ := hc
                    obtain ⟨hyc, hone⟩ := hy.cells_odd hc3
                    obtain ⟨i', z, hi, hs, _⟩ := (H.ty _ _ hty).info
                    -- the old cells
                    have hk := O.len i hlt
                    obtain ⟨us, hus, husc⟩ : ∃ us : List Value, RL β F (cells es[i]) us ∧ ∀ j v, us[j]? = some v → w.cell? ⟨b1, i * bd.k + j, none⟩ = some v ∧ v.oneCell' = true := by
                      refine ⟨(List.range (cells es[i]).length).map fun j => (w.cell? ⟨b1, i * bd.k + j, none⟩).getD undef, F2.of_get (by simp) fun j h1 h2 => ?_, fun j v hj => ?_⟩
                      · obtain ⟨v, k1, k2, k3⟩ := O.val i hlt j h1
                        simpa [k1] using k3
                      · have hj' : j < (cells es[i]).length := by have := (List.getElem?_eq_some_iff.1 hj).1; simpa using this
                        obtain ⟨v', k1, k2, k3⟩ := O.val i hlt j hj'
                        simp [hj', k1] at hj
                        subst hj
                        exact ⟨k1, k2⟩
                    generalize hyv : a.eval y = yv at hyc hone
                    generalize hxs : yv.cells.toList = xs at hyc hone
                    have hxl : xs.length = ti.size := by rw [← hyc.length]; exact hc1
                    have hnew := overwrite_R (off := off) hus hyc
                    have hul : us.length = bd.k := by rw [← hus.length]; exact hk
                    -- the new element's cells
                    have hce : cells e' = overwrite (cells es[i]) off (cells (nrm (evalO T y))) := by
                      split at hse
                      · simp only [Option.some.injEq] at hse; subst hse; exact cells_mkAgg _
                      · split at hse
                        · rename_i c hcc
                          simp only [Option.some.injEq] at hse; subst hse
                          have hnew2 := hnew
                          rw [hcc] at hnew2
                          rw [hcc]
                          generalize hov : overV us off xs = ov at hnew2
                          cases hnew2 with
                          | cons h t =>
                            rename_i bv m
                            refine h.cells_one ?_
                            have hg0 : (overV us off xs)[0]? = some bv := by rw [hov]; rfl
                            rw [overV_get (by rw [hul, ← hk, hxl]; exact hc2)] at hg0
                            split at hg0
                            · exact hone.get hg0
                            · exact (husc _ _ hg0).2
                        · simp at hse
                    rw [← hce] at hnew
                    have hel : (cells e').length = bd.k := by rw [hce, overwrite_length (by rw [hc1]; exact hc2), hk]
                    have hwr := S.write (es' := es.set i e') (bd' := bd) (q := i * bd.k + off) (xs := xs) hg hβ' hown hbs (by simp) (fun bd2 h2 => by simp only [List.length_set] at h2; rw [hβ'] at h2; exact (Option.some.inj h2).symm) rfl
                      (by have := Nat.mul_le_mul_right bd.k hfz; omega) (by simpa using A.room)
                      (by
                        have h1 : (i + 1) * bd.k ≤ bd.cap * bd.k := Nat.mul_le_mul_right _ (by have := A.room; omega)
                        rw [Nat.add_mul] at h1
                        rw [hxl]; omega) hone
                      (fun i2 hi2 => by
                        simp only [List.length_set] at hi2
                        rw [List.getElem_set]
                        split
                        · exact hel
                        · exact O.len i2 hi2)
                      (fun i2 hi2 j hj => by
                        simp only [List.length_set] at hi2
                        by_cases e2 : i = i2
                        · subst e2
                          have hset : (es.set i e')[i] = e' := by simp
                          have hj' : j < (cells e').length := by simpa [hset] using hj
                          obtain ⟨v, hv1, hv2⟩ := F2.get? hnew (List.getElem?_eq_getElem hj')
                          rw [overV_get (by rw [hul, ← hk, hxl]; exact hc2)] at hv1
                          refine ⟨v, ?_, ?_, by simpa [hset] using hv2⟩
                          · by_cases hin : off ≤ j ∧ j < off + xs.length
                            · rw [if_pos (by omega)]
                              rw [if_pos hin] at hv1
                              rw [show i * bd.k + j - (i * bd.k + off) = j - off by omega]; exact hv1
                            · rw [if_neg (by omega)]
                              rw [if_neg hin] at hv1
                              exact (husc _ _ hv1).1
                          · split at hv1
                            · exact hone.get hv1
                            · exact (husc _ _ hv1).2
                        · have hset : (es.set i e')[i2]'(by simpa using hi2) = es[i2] := by rw [List.getElem_set_ne e2]
                          have hj' : j < (cells es[i2]).length := by simpa [hset] using hj
                          obtain ⟨v, k1, k2, k3⟩ := O.val i2 hi2 j hj'
                          refine ⟨v, ?_, k2, by simpa [hset] using k3⟩
                          rw [if_neg]
                          · exact k1
                          · have hjk : j < bd.k := by rw [← O.len i2 hi2]; exact hj'
                            rintro ⟨q1, q2⟩
                            rcases Nat.lt_or_gt_of_ne e2 with hlt2 | hlt2
                            · have := Nat.mul_le_mul_right bd.k (show i + 1 ≤ i2 from hlt2)
                              rw [Nat.add_mul] at this; omega
                            · have := Nat.mul_le_mul_right bd.k (show i2 + 1 ≤ i from hlt2)
                              rw [Nat.add_mul] at this; omega)
                    obtain ⟨S', X⟩ := hwr
                    refine ⟨_, F, _, undef, .inr ⟨?_, rfl⟩, X, S', R.top _⟩
                    have hsc := run_storeCells_cells (P := P) b1 (0 + i * bd.k + off) xs 0 w (fun j hj => by
                        have h1 : (i + 1) * bd.k ≤ bd.cap * bd.k := Nat.mul_le_mul_right _ (by have := A.room; omega)
                        rw [Nat.add_mul] at h1
                        exact (O.there _ (by omega)).1) (fun j hj => by
                        have h1 : (i + 1) * bd.k ≤ bd.cap * bd.k := Nat.mul_le_mul_right _ (by have := A.room; omega)
                        rw [Nat.add_mul] at h1
                        exact (O.there _ (by omega)).2) hone
                    have hsz : yv.cells.size = i'.size := by rw [hs, ← hxl, ← hxs]; simp
                    simp only [Nat.zero_add, Nat.add_zero] at hsc
                    simp [execOp, ho, hu, hyv, Instr.storeAt, Instr.sureAddr, storeVar, sizeOf, typeInfo, hi, hsz, hxs, hsc]
                  · simp at hse
              · simp at hst
            · simp at hst
          · simp at hst
        · simp at hst
      · simp at hst
    · simp at h
  · simp at h
end
end Go.Vm
