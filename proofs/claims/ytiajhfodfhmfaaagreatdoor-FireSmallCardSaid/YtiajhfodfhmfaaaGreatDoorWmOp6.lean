/- Lists that grow. -/
import Derived.Test.YtiajhfodfhmfaaaGreatDoorWmOp5
set_option linter.unusedVariables false
set_option linter.unusedSimpArgs false
set_option linter.unusedSectionVars false
namespace Go.Vm
variable [SymB] [SymV]

theorem flat_get {α : Type} {k : Nat} : ∀ {l : List (List α)}, (∀ (i : Nat) vs, l[i]? = some vs → vs.length = k) → l.flatten.length = l.length * k ∧ ∀ i j, j < k → l.flatten[i * k + j]? = (l[i]?).bind (·[j]?)
  | [], _ => ⟨by simp, fun i j _ => by simp⟩
  | v :: l, h => by
    have hv : v.length = k := h 0 v rfl
    obtain ⟨h1, h2⟩ := flat_get (l := l) fun i vs e => h (i + 1) vs (by simpa using e)
    refine ⟨by simp [h1, hv, Nat.add_mul]; omega, fun i j hj => ?_⟩
    cases i with
    | zero => simp [List.getElem?_append_left (show j < v.length by omega)]
    | succ i =>
      rw [List.flatten_cons, Nat.add_mul, Nat.one_mul, List.getElem?_append_right (by omega)]
      rw [show i * k + k + j - v.length = i * k + j by omega, h2 i j hj]
      simp

/-- A list's cells, as they are read. -/
theorem ElsAt.flat {P : Program} {β : Bnd} {F : Fr} {w : World} {es : List AV} {ad : Option Addr} {k : Nat} {vss : List (List Value)} (E : ElsAt β F w es ad k vss) {w' : World} (hw : w'.heap = w.heap) (cap : Nat) :
    (Builtin.firstCells k es.length (.slice ad es.length cap)).run P w' = .ok vss.flatten.toArray w' ∧ vss.flatten.length = es.length * k ∧ allOne vss.flatten ∧ (∀ i j, j < k → vss.flatten[i * k + j]? = (vss[i]?).bind (·[j]?)) := by
  obtain ⟨h1, h2⟩ := flat_get E.len
  have hl := F2.length E.els
  refine ⟨?_, by rw [h1, hl], fun v hv => ?_, h2⟩
  · by_cases hne : 0 < es.length
    · have h0 : 0 < vss.length := by omega
      obtain ⟨b, o, rfl, _⟩ := E.cell 0 vss[0] (List.getElem?_eq_getElem h0)
      refine run_firstCells_some (P := P) w' k es.length ⟨b, o, none⟩ es.length cap vss.flatten (by rw [h1, hl]) fun q v hq => ?_
      rw [Addr.add_mid, cell?_heap hw]
      have hq' : q < es.length * k := by have := (List.getElem?_eq_some_iff.1 hq).1; rw [h1, ← hl] at this; exact this
      have hk : 0 < k := by rcases Nat.eq_zero_or_pos k with h | h
                            · subst h; simp at hq'
                            · exact h
      have hdm := Nat.div_add_mod q k
      have hm := Nat.mod_lt q hk
      have e : q = q / k * k + q % k := by rw [Nat.mul_comm]; exact hdm.symm
      rw [e, h2 _ _ hm] at hq
      cases hv : vss[q / k]? with
      | none => simp [hv] at hq
      | some vs =>
        simp only [hv, Option.bind_some] at hq
        obtain ⟨b', o', he, hc⟩ := E.cell _ _ hv
        simp only [Option.some.injEq, Addr.mk.injEq, and_true] at he
        obtain ⟨rfl, rfl⟩ := he
        have := hc _ _ hq
        rw [show o + q = o + q / k * k + q % k by omega]
        exact this
    · have h0 : es.length = 0 := by omega
      have : vss = [] := List.eq_nil_of_length_eq_zero (by omega)
      subst this
      rw [h0]
      cases ad <;> simp [Builtin.firstCells, loadCells, loadCellsFrom]
  · obtain ⟨vs, hvs, hv⟩ := List.mem_flatten.1 hv
    obtain ⟨i, hi, rfl⟩ := List.getElem_of_mem hvs
    exact (F2.get E.els i (by omega) hi).2 v hv

theorem ElsAt.k_of {β : Bnd} {F : Fr} {w : World} {es : List AV} {ad : Option Addr} {k : Nat} {vss : List (List Value)} (E : ElsAt β F w es ad k vss) {size : Nat} (h : headOk size es = true) (hne : 0 < es.length) : k = size := by
  have hl := F2.length E.els
  have h0 : 0 < vss.length := by omega
  have h1 := (F2.get E.els 0 hne h0).1.length
  have h2 := E.len 0 vss[0] (List.getElem?_eq_getElem h0)
  cases es with
  | nil => simp at hne
  | cons e r =>
    simp only [headOk, beq_iff_eq] at h
    simp only [List.getElem_cons_zero] at h1
    omega

theorem ElsAt.re {β : Bnd} {F : Fr} {w : World} {es : List AV} {ad : Option Addr} {k k' : Nat} {vss : List (List Value)} (E : ElsAt β F w es ad k vss) (h : k = k' ∨ es.length = 0) : ElsAt β F w es ad k' vss := by
  rcases h with rfl | h
  · exact E
  · have : vss = [] := List.eq_nil_of_length_eq_zero (by rw [← F2.length E.els]; exact h)
    subst this
    exact ⟨E.els, fun i vs h => by simp at h, fun i vs h => by simp at h⟩

section
variable {P : Program}
theorem run_append_in {t u ty e e' : TypeId} {i : TypeInfo} (ht : P.underlying t = some (.slice e)) (hu : P.underlying u = some (.slice e')) (hi : P.info? e = some i) (base : Option Addr) (sLen sCap : Nat) (ay : Option Addr) (m capy : Nat) (news : List Value) (w w' : World)
    (hn : (Builtin.firstCells i.size m (.slice ay m capy)).run P w = .ok news.toArray w) (hroom : sLen + m ≤ sCap) (hst : ∀ ad, base = some ad → (storeCells (ad.add (sLen * i.size)) news).run P w = .ok () w') (hb : base = none → w' = w) :
    (Builtin.append_ #[t, u] ty #[.slice base sLen sCap, .slice ay m capy]).run P w = .ok (.slice base (sLen + m) sCap) w' := by
  cases base with
  | none =>
    have := hb rfl
    subst this
    simp [Builtin.append_, run_underlying ht, run_underlying hu, sizeOf, typeInfo, hi, Builtin.lenOf, hroom, hn]
  | some ad =>
    have := hst ad rfl
    simp [Builtin.append_, run_underlying ht, run_underlying hu, sizeOf, typeInfo, hi, Builtin.lenOf, hroom, hn, this]

theorem run_append_out {t u ty e e' : TypeId} {i : TypeInfo} {z : Value} (ht : P.underlying t = some (.slice e)) (hu : P.underlying u = some (.slice e')) (hi : P.info? e = some i) (hz : i.zero = some z) (base : Option Addr) (sLen sCap : Nat) (ay : Option Addr) (m capy : Nat) (olds news : List Value) (w : World)
    (ho : (Builtin.firstCells i.size sLen (.slice base sLen sCap)).run P w.drew = .ok olds.toArray w.drew) (hn : (Builtin.firstCells i.size m (.slice ay m capy)).run P w.drew = .ok news.toArray w.drew)
    (hroom : sCap < sLen + m) (hfit : (sLen + m) * i.bytes ≤ 140737488355328) (h63 : sLen + m ≤ 140737488355328) :
    ∃ rest : List Value, (Builtin.append_ #[t, u] ty #[.slice base sLen sCap, .slice ay m capy]).run P w =
      .ok (.slice (some ⟨w.heap.size, 0, none⟩) (sLen + m) (grownCap w (sLen + m) sCap e)) (w.drew.alloc (.cells (olds ++ news ++ rest).toArray e)) ∧ rest.length = (grownCap w (sLen + m) sCap e - (sLen + m)) * z.cells.size := by
  refine ⟨(Builtin.zeroCells z.cells (grownCap w (sLen + m) sCap e - (sLen + m))).toList, ?_, by simp [size_zeroCells]⟩
  have h1 : ¬ (sLen + m ≤ sCap) := by omega
  have h2 : ¬ (9223372036854775807 < ((sLen : Int) + (m : Int))) := by omega
  have h3 : ¬ (281474976710656 < Builtin.nextslicecap (sLen + m) sCap * i.bytes) := by
    have := growslice_fits hroom hfit; omega
  simp [Builtin.append_, run_underlying ht, run_underlying hu, sizeOf, typeInfo, zeroValue, hi, hz, Builtin.lenOf, h1, h2, h3, Question.forced, ho, hn, newRow, grownCap]
  congr 2
  apply Array.ext'
  simp [List.append_assoc]
end

theorem grownCap_ge (w : World) (need old : Nat) (e : TypeId) : need ≤ grownCap w need old e := by
  simp only [grownCap, Question.cut]; omega

/-- New elements' cells. -/
structure YRows (β : Bnd) (F : Fr) (ys : List AV) (k : Nat) (uss : List (List Value)) : Prop where
  els : ElsOk β F ys uss
  len : ∀ (i : Nat) (vs : List Value), uss[i]? = some vs → vs.length = k
/-- What append does with them, whatever tells them. -/
structure News (P : Program) (t u ty e : TypeId) (i : TypeInfo) (z : Value) (Y : Value) (news : List Value) (m : Nat) (w : World) : Prop where
  in_ : ∀ (base : Option Addr) (sLen sCap : Nat) (w' : World), sLen + m ≤ sCap → (∀ ad, base = some ad → (storeCells (ad.add (sLen * i.size)) news).run P w = .ok () w') → (base = none → w' = w) →
    (Builtin.append_ #[t, u] ty #[.slice base sLen sCap, Y]).run P w = .ok (.slice base (sLen + m) sCap) w'
  out_ : ∀ (base : Option Addr) (sLen sCap : Nat) (olds : List Value), (Builtin.firstCells i.size sLen (.slice base sLen sCap)).run P w.drew = .ok olds.toArray w.drew → sCap < sLen + m → (sLen + m) * i.bytes ≤ 140737488355328 → sLen + m ≤ 140737488355328 →
    ∃ rest : List Value, (Builtin.append_ #[t, u] ty #[.slice base sLen sCap, Y]).run P w =
      .ok (.slice (some ⟨w.heap.size, 0, none⟩) (sLen + m) (grownCap w (sLen + m) sCap e)) (w.drew.alloc (.cells (olds ++ news ++ rest).toArray e)) ∧ rest.length = (grownCap w (sLen + m) sCap e - (sLen + m)) * z.cells.size

/-- Old cells, then new ones. -/
theorem both_get {β : Bnd} {F : Fr} {w : World} {es ys : List AV} {a1 : Option Addr} {k : Nat} {vss uss : List (List Value)} (E : ElsAt β F w es a1 k vss) (Y : YRows β F ys k uss) (rest : List Value) :
    (∀ i (hi : i < (es ++ ys).length), (cells (es ++ ys)[i]).length = k) ∧
    ∀ i (hi : i < (es ++ ys).length) j (hj : j < (cells (es ++ ys)[i]).length), ∃ v, (vss.flatten ++ uss.flatten ++ rest)[i * k + j]? = some v ∧ v.oneCell' = true ∧ R β F (cells (es ++ ys)[i])[j] v := by
  have A : ElsOk β F (es ++ ys) (vss ++ uss) := F2.append E.els Y.els
  have hlen : ∀ (i : Nat) vs, (vss ++ uss)[i]? = some vs → vs.length = k := fun i vs h => by
    by_cases hi : i < vss.length
    · rw [List.getElem?_append_left hi] at h; exact E.len i vs h
    · rw [List.getElem?_append_right (by omega)] at h; exact Y.len _ vs h
  have hl := F2.length A
  have hk : ∀ i (hi : i < (es ++ ys).length), (cells (es ++ ys)[i]).length = k := fun i hi => by
    have h2 : i < (vss ++ uss).length := by omega
    rw [(F2.get A i hi h2).1.length]
    exact hlen i _ (List.getElem?_eq_getElem h2)
  refine ⟨hk, fun i hi j hj => ?_⟩
  have h2 : i < (vss ++ uss).length := by omega
  obtain ⟨f1, f2⟩ := flat_get hlen
  have hg := F2.get A i hi h2
  have hjk : j < k := by rw [← hk i hi]; exact hj
  have hj2 : j < ((vss ++ uss)[i]).length := by rw [hlen i _ (List.getElem?_eq_getElem h2)]; exact hjk
  refine ⟨((vss ++ uss)[i])[j], ?_, hg.2 _ (List.getElem_mem _), F2.get hg.1 j hj hj2⟩
  rw [← List.flatten_append, List.getElem?_append_left]
  · rw [f2 i j hjk, List.getElem?_eq_getElem h2]; simp [List.getElem?_eq_getElem hj2]
  · rw [f1]
    have : (i + 1) * k ≤ (vss ++ uss).length * k := Nat.mul_le_mul_right _ h2
    rw [Nat.add_mul] at this; omega

/-- A list cut short, other elements laid behind it in its place. -/
theorem own_write {β β' : Bnd} {F : Fr} {w : World} {es ys : List AV} {fz len b : Nat} {bd : Bind} {uss : List (List Value)} (hle : β.le β') (O : OwnOk β F es fz bd w b) (Y : YRows β F ys bd.k uss) (hl : len ≤ es.length) (hfz : fz ≤ len) (hfit : len + ys.length ≤ bd.cap) :
    OwnOk β' F (es.take len ++ ys) fz bd (w.setCells b (len * bd.k) uss.flatten) b := by
  obtain ⟨f1, f2⟩ := flat_get Y.len
  have hu := F2.length Y.els
  have hone : allOne uss.flatten := fun v hv => by
    obtain ⟨vs, hvs, hv⟩ := List.mem_flatten.1 hv
    obtain ⟨i, hi, rfl⟩ := List.getElem_of_mem hvs
    exact (F2.get Y.els i (by omega) hi).2 v hv
  have hfitk : len * bd.k + uss.flatten.length ≤ bd.cap * bd.k := by
    rw [f1, ← hu, ← Nat.add_mul]; exact Nat.mul_le_mul_right _ hfit
  have hin : ∀ o, len * bd.k ≤ o → o < len * bd.k + uss.flatten.length → (w.setCells b (len * bd.k) uss.flatten).cell? ⟨b, o, none⟩ = uss.flatten[o - len * bd.k]? := fun o h1 h2 => by
    have := World.cell?_setCells_in b uss.flatten (len * bd.k) w (fun j hj => (O.there _ (by omega)).1) (o - len * bd.k) (by omega)
    rw [show len * bd.k + (o - len * bd.k) = o by omega] at this
    rw [this, List.getElem?_eq_getElem (by omega)]
  have hout : ∀ o, (o < len * bd.k ∨ len * bd.k + uss.flatten.length ≤ o) → (w.setCells b (len * bd.k) uss.flatten).cell? ⟨b, o, none⟩ = w.cell? ⟨b, o, none⟩ := fun o h => World.cell?_setCells_out b _ _ w _ (fun _ _ => h)
  have htk : (es.take len).length = len := by simp; omega
  have hget : ∀ i (hi : i < (es.take len ++ ys).length), (∃ h : i < len, (es.take len ++ ys)[i] = es[i]'(by omega)) ∨ ∃ h : i - len < ys.length, len ≤ i ∧ (es.take len ++ ys)[i] = ys[i - len] := fun i hi => by
    by_cases h : i < len
    · exact .inl ⟨h, by rw [List.getElem_append_left (by omega)]; simp⟩
    · refine .inr ⟨by simp [htk] at hi; omega, by omega, ?_⟩
      rw [List.getElem_append_right (by omega)]
      simp only [htk]
  refine ⟨O.base, by rw [setCells_size]; exact O.lt, fun o ho => ⟨?_, by rw [World.frozen?_setCells]; exact (O.there o ho).2⟩, fun i hi => ?_, fun i hi j hj => ?_, O.free⟩
  · by_cases h : len * bd.k ≤ o ∧ o < len * bd.k + uss.flatten.length
    · rw [hin o h.1 h.2, List.getElem?_eq_getElem (by omega)]; rfl
    · rw [hout o (by omega)]; exact (O.there o ho).1
  · rcases hget i hi with ⟨h, e⟩ | ⟨h, h', e⟩ <;> rw [e]
    · exact O.len i _
    · have h2 : i - len < uss.length := by omega
      rw [(F2.get Y.els _ h h2).1.length]
      exact Y.len _ _ (List.getElem?_eq_getElem h2)
  · rcases hget i hi with ⟨h, e⟩ | ⟨h, h', e⟩
    · have hj' : j < (cells (es[i]'(by omega))).length := by rw [← e]; exact hj
      obtain ⟨v, h1, h2, h3⟩ := O.val i (by omega) j hj'
      refine ⟨v, ?_, h2, ?_⟩
      · have hjk : j < bd.k := by rw [← O.len i (by omega)]; exact hj'
        have := Nat.mul_le_mul_right bd.k (show i + 1 ≤ len from h)
        rw [Nat.add_mul] at this
        rw [hout _ (.inl (by omega))]; exact h1
      · have := h3.mono hle (.refl _)
        simpa [e] using this
    · have h2 : i - len < uss.length := by omega
      have hg := F2.get Y.els _ h h2
      have hkl := Y.len _ _ (List.getElem?_eq_getElem h2)
      have hj' : j < (cells ys[i - len]).length := by rw [← e]; exact hj
      have hjk : j < bd.k := by rw [← hkl, ← hg.1.length]; exact hj'
      have hj2 : j < (uss[i - len]).length := by omega
      refine ⟨(uss[i - len])[j], ?_, hg.2 _ (List.getElem_mem _), ?_⟩
      · have e2 : i * bd.k + j - len * bd.k = (i - len) * bd.k + j := by
          have : i * bd.k = (i - len) * bd.k + len * bd.k := by rw [← Nat.add_mul]; congr 1; omega
          omega
        have h5 : (i - len + 1) * bd.k ≤ uss.length * bd.k := Nat.mul_le_mul_right _ h2
        rw [Nat.add_mul] at h5
        have h6 : len * bd.k ≤ i * bd.k := Nat.mul_le_mul_right _ h'
        rw [hin _ (by omega) (by rw [f1]; omega), e2, f2 _ _ hjk, List.getElem?_eq_getElem h2]
        simp [List.getElem?_eq_getElem hj2]
      · have := (F2.get hg.1 j hj' hj2).mono hle (.refl _)
        simpa [e] using this

section
variable {P : Program} {tb : Tabs} (H : TabsTy P tb) {β : Bnd} {F : Fr} {M : Mem} {w : World} (S : Sim β F M w) {v : AV} {M' : Mem}
include H S

/-- append, whatever it is handed. -/
theorem append_core {t u ty : TypeId} {x y : AV} {X Y : Value} (hx : R β F x X)
    (hN : ∀ e ti ys i z, P.underlying t = some (.slice e) → tb.ty e = some ti → P.info? e = some i → i.zero = some z → i.size = ti.size → elems M y = some ys → headOk ti.size ys = true → ∃ uss, YRows β F ys ti.size uss ∧ News P t u ty e i z Y uss.flatten ys.length w)
    (h : appendV tb.ty M t x y = some (v, M')) :
    ∃ β' F' w' r, (Builtin.append_ #[t, u] ty #[X, Y]).run P w = .ok r w' ∧ Ext β F M w β' F' M' w' ∧ Sim β' F' M' w' ∧ R β' F' v r := by
  unfold appendV at h
  split at h
  · rename_i e _ _ _ _ _ hty
    obtain ⟨d, hd, hkd⟩ := und_of H hty
    cases hkd
    split at h
    · rename_i ti ys hte hys
      obtain ⟨i, z, hi, hs, hby, hz0, _, _, hzs, _, _⟩ := (H.ty _ _ hte).info
      split at h
      · simp at h
      · rename_i hhd
        have hhd : headOk ti.size ys = true := by simpa using hhd
        obtain ⟨uss, Yat, N⟩ := hN e ti ys i z hd hte hi hz0 hs hys hhd
        split at h
        · -- nothing is appended
          rename_i hemp
          have hys0 : ys = [] := by simpa using hemp
          subst hys0
          have hrun : ∀ (base : Option Addr) (sLen sCap : Nat), sLen ≤ sCap → (Builtin.append_ #[t, u] ty #[.slice base sLen sCap, Y]).run P w = .ok (.slice base sLen sCap) w := fun base sLen sCap hl => by
            have hu0 : uss = [] := by have := F2.length Yat.els; exact List.eq_nil_of_length_eq_zero (by simpa using this.symm)
            subst hu0
            exact N.in_ base sLen sCap w (by simpa using hl) (fun ad _ => by simp [storeCells]) (fun _ => rfl)
          split at h
          · rename_i es
            simp only [Option.some.injEq, Prod.mk.injEq] at h
            obtain ⟨rfl, rfl⟩ := h
            have hx' := hx
            cases hx with
            | pv hx =>
              cases hx with
              | cl b o k vs ha hk hF hr => exact ⟨β, F, w, _, hrun _ _ _ (Nat.le_refl _), .refl .., S, hx'⟩
          · rename_i g n off len
            split at h
            · simp only [Option.some.injEq, Prod.mk.injEq] at h
              obtain ⟨rfl, rfl⟩ := h
              have hx' := hx
              cases hx with
              | gs hβ hsl => exact ⟨β, F, w, _, hrun _ _ _ hsl.2.1, .refl .., S, hx'⟩
            · simp at h
          · simp at h
        · rename_i hemp
          have hpos : 0 < ys.length := by
            cases ys with
            | nil => simp at hemp
            | cons => simp
          have fy2 : uss.flatten.length = ys.length * ti.size := by rw [(flat_get Yat.len).1, F2.length Yat.els]
          have fy3 : allOne uss.flatten := fun v hv => by
            obtain ⟨vs, hvs, hv⟩ := List.mem_flatten.1 hv
            obtain ⟨q, hq, rfl⟩ := List.getElem_of_mem hvs
            exact (F2.get Yat.els q (by rw [F2.length Yat.els]; exact hq) hq).2 v hv
          split at h
          · -- onto a list whose capacity is its length
            rename_i es
            dsimp only at h
            split at h
            · rename_i hc
              simp only [Bool.and_eq_true] at hc
              obtain ⟨hc1, hc2⟩ := hc
              simp only [Option.some.injEq, Prod.mk.injEq] at h
              obtain ⟨rfl, rfl⟩ := h
              obtain ⟨ax, capx, kx, vss, hX, hcx, Xat⟩ := R.els S hx (es := es.map .pv) (by simp [elems])
              have hcap : capx = es.length := by
                cases hx with
                | pv hx => cases hx with
                  | cl b o k vs ha hk hF hr => simp at hX; exact hX.2.symm
              subst hcap
              rw [List.length_map] at hX
              subst hX
              have hroomf : (es.length + ys.length) * ti.bytes ≤ 140737488355328 ∧ es.length + ys.length ≤ 140737488355328 := by simpa [roomFor] using hc1
              have Xat' : ElsAt β F w (es.map .pv) ax ti.size vss := Xat.re (by
                by_cases h0 : 0 < es.length
                · refine .inl (Xat.k_of ?_ (by simpa using h0))
                  cases es with
                  | nil => rfl
                  | cons e r => simpa [headOk, headOkP, cells_pv] using hc2
                · exact .inr (by simpa using Nat.eq_zero_of_not_pos h0))
              have Xl := List.length_map (f := AV.pv) (as := es)
              obtain ⟨fx1, fx2, fx3, fx4⟩ := Xat'.flat (P := P) (w' := w.drew) rfl es.length
              rw [Xl, ← hs] at fx1
              rw [Xl] at fx2
              obtain ⟨rest, hrun, hrest⟩ := N.out_ ax es.length es.length vss.flatten fx1 (by omega) (by rw [hby]; exact hroomf.1) hroomf.2
              obtain ⟨g1, g2⟩ := both_get Xat' Yat rest
              have hcapge := grownCap_ge w (es.length + ys.length) es.length e
              have hel : (es.map AV.pv ++ ys).length = es.length + ys.length := by simp
              obtain ⟨S', X⟩ := S.alloc (es := es.map .pv ++ ys) (k := ti.size) (cap := grownCap w (es.length + ys.length) es.length e) (fz := 0) (vs := vss.flatten ++ uss.flatten ++ rest) (w1 := w.drew.alloc (.cells (vss.flatten ++ uss.flatten ++ rest).toArray e)) rfl rfl rfl rfl g1 (by rw [hel]; exact hcapge) (fun h0 => by
                have := congrArg List.length h0
                rw [hel] at this; simp only [List.length_nil] at this; omega) (by
                rw [List.length_append, List.length_append, fx2, fy2, hrest, hzs]
                rw [← Nat.add_mul, ← Nat.add_mul]
                exact Nat.mul_le_mul_right _ (by omega)) g2
              refine ⟨_, F, _, _, hrun, X, S', ?_⟩
              have hb := Bnd.put_self β M.length (es.map AV.pv ++ ys).length ⟨some (w.heap.size, 0), grownCap w (es.length + ys.length) es.length e, ti.size, true⟩
              rw [hel] at hb ⊢
              exact .gs hb ⟨by simp, hcapge, fun _ => by simp⟩
            · simp at h
          · -- onto an array of the memory
            rename_i g n len
            split at h
            · rename_i es fz hg0
              obtain ⟨hg, hn⟩ := getArr_some hg0
              dsimp only at h
              split at h
              · rename_i hc
                simp only [Bool.and_eq_true, decide_eq_true_eq] at hc
                obtain ⟨⟨hc1, hc2⟩, hfz⟩ := hc
                have hroomf : (len + ys.length) * ti.bytes ≤ 140737488355328 ∧ len + ys.length ≤ 140737488355328 := by simpa [roomFor] using hc1
                have hx0 := hx
                cases hx with
                | gs hβ hsl =>
                  rename_i ax capx bd
                  obtain ⟨hcc, hlc, hsa⟩ := hsl
                  simp only [Nat.add_zero] at hcc
                  subst hcc
                  have hβ' : β.arr g es.length = some bd := by rw [hn]; exact hβ
                  have A := S.arr g es fz bd hg hβ'
                  have hsa' : 0 < bd.cap → ax = bd.base.map fun p => ⟨p.1, p.2, none⟩ := fun h => by simpa using hsa h
                  split at h
                  · -- as long as it is
                    rename_i hln
                    simp only [Option.some.injEq, Prod.mk.injEq] at h
                    obtain ⟨rfl, rfl⟩ := h
                    have hlen : len = es.length := by omega
                    subst hlen
                    obtain ⟨ax', capx', kx, vss, hX, hcx, Xat⟩ := R.els S hx0 (es := es) (by simp only [elems, hg0]; rw [if_pos (by omega)]; simp)
                    simp only [Value.slice.injEq, true_and] at hX
                    obtain ⟨rfl, rfl⟩ := hX
                    have Xat' : ElsAt β F w es ax ti.size vss := Xat.re (by
                      by_cases h0 : 0 < es.length
                      · exact .inl (Xat.k_of hc2 h0)
                      · exact .inr (Nat.eq_zero_of_not_pos h0))
                    have hel : (es ++ ys).length = es.length + ys.length := by simp
                    have hfresh : ∀ bd', β.arr g (es ++ ys).length = some bd' → False := fun bd' h => by
                      rcases S.ver g _ bd' h with h | ⟨es1, fz1, h, hle⟩
                      · rw [hg] at h; simp at h
                      · rw [hg] at h; simp only [Option.some.injEq, MObj.arr.injEq] at h
                        obtain ⟨rfl, rfl⟩ := h
                        rw [hel] at hle; omega
                    by_cases hfit : es.length + ys.length ≤ bd.cap
                    · -- in its place
                      have hne : 0 < es.length := by
                        rcases Nat.eq_zero_or_pos es.length with h0 | h0
                        · have := A.empty (List.eq_nil_of_length_eq_zero h0); omega
                        · exact h0
                      obtain ⟨hown, b, O⟩ : bd.own = true ∧ ∃ b, OwnOk β F es fz bd w b := by
                        rcases A.kind with h | ⟨_, _, _, hf⟩
                        · exact h
                        · have := hf.cap; omega
                      have hk : bd.k = ti.size := by
                        have h1 := O.len 0 hne
                        cases es with
                        | nil => simp at hne
                        | cons e0 r => simp only [headOk, beq_iff_eq] at hc2; simp only [List.getElem_cons_zero] at h1; omega
                      have hax := hsa' (by omega)
                      rw [O.base] at hax
                      simp only [Option.map_some] at hax
                      subst hax
                      · have hq : uss.flatten.length = ys.length * bd.k := by rw [fy2, hk]
                        obtain ⟨g1, g2⟩ := both_get Xat' Yat []
                        have hfitk : es.length * bd.k + uss.flatten.length ≤ bd.cap * bd.k := by
                          rw [hq, ← Nat.add_mul]; exact Nat.mul_le_mul_right _ hfit
                        have hst := run_storeCells_cells (P := P) b (es.length * i.size) uss.flatten 0 w (fun j hj => by rw [hs, ← hk]; exact (O.there _ (by omega)).1) (fun j hj => by rw [hs, ← hk]; exact (O.there _ (by omega)).2) fy3
                        obtain ⟨S', X⟩ := S.write (es' := es ++ ys) (bd' := bd) (q := es.length * bd.k) (xs := uss.flatten) hg hβ' hown O.base (by rw [hel]; omega) (fun bd2 h2 => (hfresh bd2 h2).elim) rfl
                          (Nat.mul_le_mul_right _ hfz) (by rw [hel]; exact hfit) hfitk fy3 (by rw [hk]; exact g1) (fun i2 hi2 j hj => by
                            obtain ⟨v, h1, h2, h3⟩ := g2 i2 hi2 j hj
                            refine ⟨v, ?_, h2, h3⟩
                            have hjk : j < ti.size := by rw [← g1 i2 hi2]; exact hj
                            rw [List.append_nil] at h1
                            obtain ⟨_, fv2, _, fv4⟩ := Xat'.flat (P := P) (w' := w) rfl bd.cap
                            rw [hk]
                            by_cases hi3 : i2 < es.length
                            · have : (i2 + 1) * ti.size ≤ es.length * ti.size := Nat.mul_le_mul_right _ hi3
                              rw [Nat.add_mul] at this
                              rw [if_neg (by omega)]
                              rw [List.getElem?_append_left (by omega), fv4 i2 j hjk] at h1
                              cases hvs : vss[i2]? with
                              | none => rw [hvs] at h1; simp at h1
                              | some vs =>
                                rw [hvs] at h1
                                simp only [Option.bind_some] at h1
                                obtain ⟨b', o', he, hc'⟩ := Xat'.cell i2 vs hvs
                                simp only [Option.some.injEq, Addr.mk.injEq, and_true] at he
                                obtain ⟨rfl, rfl⟩ := he
                                simpa using hc' j v h1
                            · have h3' : es.length * ti.size ≤ i2 * ti.size := Nat.mul_le_mul_right _ (by omega)
                              have h4' : (i2 + 1) * ti.size ≤ (es ++ ys).length * ti.size := Nat.mul_le_mul_right _ hi2
                              rw [Nat.add_mul, hel, Nat.add_mul] at h4'
                              rw [if_pos ⟨by omega, by rw [fy2]; omega⟩]
                              rw [List.getElem?_append_right (by omega), fv2] at h1
                              exact h1)
                        refine ⟨_, F, _, .slice (some ⟨b, 0, none⟩) (es.length + ys.length) bd.cap, ?_, X, S', ?_⟩
                        · exact N.in_ _ _ _ _ hfit (fun ad had => by
                            simp only [Option.some.injEq] at had; subst had
                            rw [Addr.add_mid, Nat.zero_add, hst, hs, hk]; simp) (fun h => by simp at h)
                        · have hb := Bnd.put_self β g (es ++ ys).length bd
                          rw [hel] at hb ⊢
                          exact .gs hb ⟨rfl, hfit, fun _ => by rw [O.base]; simp⟩
                    · -- elsewhere
                      obtain ⟨fx1, fx2, fx3, fx4⟩ := Xat'.flat (P := P) (w' := w.drew) rfl bd.cap
                      rw [← hs] at fx1
                      obtain ⟨rest, hrun, hrest⟩ := N.out_ ax es.length bd.cap vss.flatten fx1 (by omega) (by rw [hby]; exact hroomf.1) hroomf.2
                      obtain ⟨g1, g2⟩ := both_get Xat' Yat rest
                      have hcapge := grownCap_ge w (es.length + ys.length) bd.cap e
                      have hgl := (List.getElem?_eq_some_iff.1 hg).1
                      have hold : ∀ b, b < w.heap.size → (w.drew.alloc (.cells (vss.flatten ++ uss.flatten ++ rest).toArray e)).heap[b]? = w.heap[b]? := fun b hb => heap_alloc_old w.drew _ hb
                      have hle : β.le (β.put g (es ++ ys).length ⟨some (w.heap.size, 0), grownCap w (es.length + ys.length) bd.cap e, ti.size, true⟩) := Bnd.le_put (by
                        cases h : β.arr g (es ++ ys).length with
                        | none => exact .inl rfl
                        | some bd2 => exact (hfresh bd2 h).elim)
                      have O' := own_new (M := M) (n := fz) (k := ti.size) (cap := grownCap w (es.length + ys.length) bd.cap e) (E := e) (w1 := w.drew.alloc (.cells (vss.flatten ++ uss.flatten ++ rest).toArray e)) S hle rfl g1 (by rw [hel]; exact hcapge) (by
                        rw [List.length_append, List.length_append, fx2, fy2, hrest, hzs]
                        rw [← Nat.add_mul, ← Nat.add_mul]
                        exact Nat.mul_le_mul_right _ (by omega)) g2
                      obtain ⟨S', X⟩ := Turn.sim (es := es ++ ys) (fz := fz) (M' := M.set g (.arr (es ++ ys) fz)) (w' := w.drew.alloc (.cells (vss.flatten ++ uss.flatten ++ rest).toArray e)) S ⟨by simp [hgl], fun g' h => by rw [List.getElem?_set_ne (Ne.symm h)], .inr ⟨es, fz, hg, by rw [hel]; omega⟩, fun bd2 h2 => (hfresh bd2 h2).elim, rfl, rfl, rfl, (by show w.heap.size ≤ (w.heap.push _).size; simp), fun b hb _ => hold b hb, fun b ents clock h => hold b (Array.getElem?_eq_some_iff.1 h).1, fun b o v _ hF => (World.cell?_of_block (a := ⟨b, o, none⟩) (hold b (S.F_lt hF))).trans (S.frz b o v hF),
                        ⟨by rw [hel]; exact hcapge, fun h0 => by
                          have := congrArg List.length h0
                          rw [hel] at this; simp only [List.length_nil] at this; omega, .inl ⟨rfl, w.heap.size, O'⟩⟩, fun b _ hb => .inl (by simp at hb; omega), by simp⟩ (fun _ => ⟨_, _, hβ'⟩)
                      refine ⟨_, F, _, _, hrun, X, S', ?_⟩
                      have hb := Bnd.put_self β g (es ++ ys).length ⟨some (w.heap.size, 0), grownCap w (es.length + ys.length) bd.cap e, ti.size, true⟩
                      rw [hel] at hb ⊢
                      exact .gs hb ⟨by simp, hcapge, fun _ => by simp⟩
                  · -- cut short
                    rename_i hln
                    split at h
                    · rename_i hlt
                      simp only [Option.some.injEq, Prod.mk.injEq] at h
                      obtain ⟨rfl, rfl⟩ := h
                      have hgl := (List.getElem?_eq_some_iff.1 hg).1
                      obtain ⟨hown, b, O⟩ : bd.own = true ∧ ∃ b, OwnOk β F es fz bd w b := by
                        rcases A.kind with h | ⟨_, _, _, hf⟩
                        · exact h
                        · have := hf.fz; omega
                      have hk : bd.k = ti.size := by
                        have h1 := O.len 0 (by omega)
                        cases es with
                        | nil => simp at hn; omega
                        | cons e0 r => simp only [headOk, beq_iff_eq] at hc2; simp only [List.getElem_cons_zero] at h1; omega
                      have hrm := A.room
                      have hax := hsa' (by omega)
                      rw [O.base] at hax
                      simp only [Option.map_some] at hax
                      subst hax
                      have htk : (es.take len).length = len := by simp; omega
                      have hel : (es.take len ++ ys).length = len + ys.length := by rw [List.length_append, htk]
                      obtain ⟨S1, k1, k2⟩ := S.kill hg
                      have hM1 : (M.set g .dead).length = M.length := by simp
                      by_cases hfit : len + ys.length ≤ bd.cap
                      · -- in its place
                        have hfitk : len * bd.k + uss.flatten.length ≤ bd.cap * bd.k := by
                          rw [fy2, hk, ← Nat.add_mul]; exact Nat.mul_le_mul_right _ hfit
                        have hst := run_storeCells_cells (P := P) b (len * i.size) uss.flatten 0 w (fun j hj => by rw [hs, ← hk]; exact (O.there _ (by omega)).1) (fun j hj => by rw [hs, ← hk]; exact (O.there _ (by omega)).2) fy3
                        have hle := S1.le_new (es.take len ++ ys).length bd
                        have O' := own_write hle O (by rw [hk]; exact Yat) (by omega) hfz hfit
                        obtain ⟨S', X⟩ := TurnT.sim (M0 := M) (Tch := fun b' => b' = b) (g := (M.set g MObj.dead).length) (es := es.take len ++ ys) (fz := fz) (bd := bd) (M' := M.set g .dead ++ [.arr (es.take len ++ ys) fz]) (w' := w.setCells b (len * bd.k) uss.flatten) S1
                          ⟨by simp, fun g' h => by
                            by_cases hl : g' < (M.set g MObj.dead).length
                            · rw [List.getElem?_append_left hl]
                            · rw [List.getElem?_eq_none (by simp at hl h ⊢; omega), List.getElem?_eq_none (by omega)], .inl ⟨by simp, rfl⟩, fun bd2 h2 => by have := S1.dom h2; omega, (setCells_env b _ _ w).1, (setCells_env b _ _ w).2.1, (setCells_env b _ _ w).2.2, by rw [setCells_size]; exact Nat.le_refl _,
                          fun b' hb' => by
                            obtain ⟨es', fz', bd', h1, _⟩ := hb'
                            simp at h1,
                          fun g' b' _ hb' e => by
                            obtain ⟨q1, q2⟩ := k2 g' b' hb'
                            subst e
                            exact q1 (S.inj g' g b' q2 ⟨es, fz, bd, hg, hβ', hown, O.base⟩),
                          fun b' e => by subst e; exact .inl ⟨g, es, fz, bd, hg, hβ', hown, O.base⟩, k1, fun b' _ hn' => setCells_other b _ _ w hn', fun b' ents clock h => setCells_map b _ _ w h, fun b' o v e hF => by
                            subst e
                            have hlt' : o < len * bd.k := by
                              rcases Nat.lt_or_ge o (len * bd.k) with h | h
                              · exact h
                              · have := O.free o (by have := Nat.mul_le_mul_right bd.k hfz; omega); rw [this] at hF; simp at hF
                            rw [World.cell?_setCells_out b' _ _ w _ (fun _ _ => .inl hlt')]; exact S.frz b' o v hF,
                          ⟨by rw [hel]; exact hfit, fun h0 => by
                            have := congrArg List.length h0
                            rw [hel] at this; simp only [List.length_nil] at this; omega, .inl ⟨hown, b, O'⟩⟩, fun b' _ hb' => .inr (by rw [O.base] at hb'; simpa using hb'.symm), by simp⟩ (fun h => by simp at h)
                        refine ⟨_, F, _, .slice (some ⟨b, 0, none⟩) (len + ys.length) bd.cap, ?_, X, S', ?_⟩
                        · exact N.in_ _ _ _ _ hfit (fun ad had => by
                            simp only [Option.some.injEq] at had; subst had
                            rw [Addr.add_mid, Nat.zero_add, hst, hs, hk]; simp) (fun h => by simp at h)
                        · have hb := Bnd.put_self β (M.set g MObj.dead).length (es.take len ++ ys).length bd
                          rw [hel] at hb ⊢
                          rw [hM1] at hb ⊢
                          exact .gs hb ⟨rfl, hfit, fun _ => by rw [O.base]; simp⟩
                      · -- elsewhere
                        obtain ⟨ax', capx', kx, vss, hX, hcx, Xat⟩ := R.els S hx0 (es := es.take len) (by simp only [elems, hg0]; rw [if_pos (by omega)]; simp)
                        rw [htk] at hX
                        simp only [Value.slice.injEq, true_and] at hX
                        obtain ⟨rfl, rfl⟩ := hX
                        have Xat' : ElsAt β F w (es.take len) (some ⟨b, 0, none⟩) ti.size vss := Xat.re (by
                          by_cases h0 : 0 < (es.take len).length
                          · refine .inl (Xat.k_of ?_ h0)
                            cases es with
                            | nil => simp at hn; omega
                            | cons e0 r => cases len with
                              | zero => simp at h0
                              | succ len => exact hc2
                          · exact .inr (Nat.eq_zero_of_not_pos h0))
                        obtain ⟨fx1, fx2, fx3, fx4⟩ := Xat'.flat (P := P) (w' := w.drew) rfl bd.cap
                        rw [htk, ← hs] at fx1
                        rw [htk] at fx2
                        obtain ⟨rest, hrun, hrest⟩ := N.out_ (some ⟨b, 0, none⟩) len bd.cap vss.flatten fx1 (by omega) (by rw [hby]; exact hroomf.1) hroomf.2
                        obtain ⟨g1, g2⟩ := both_get Xat' Yat rest
                        have hcapge := grownCap_ge w (len + ys.length) bd.cap e
                        obtain ⟨S', X⟩ := S1.alloc (es := es.take len ++ ys) (k := ti.size) (cap := grownCap w (len + ys.length) bd.cap e) (fz := fz) (vs := vss.flatten ++ uss.flatten ++ rest) (w1 := w.drew.alloc (.cells (vss.flatten ++ uss.flatten ++ rest).toArray e)) rfl rfl rfl rfl g1 (by rw [hel]; exact hcapge) (fun h0 => by
                          have := congrArg List.length h0
                          rw [hel] at this; simp only [List.length_nil] at this; omega) (by
                          rw [List.length_append, List.length_append, fx2, fy2, hrest, hzs]
                          rw [← Nat.add_mul, ← Nat.add_mul]
                          exact Nat.mul_le_mul_right _ (by omega)) g2
                        refine ⟨_, F, _, _, hrun, X.from_ k1 (by simp), S', ?_⟩
                        have hb := Bnd.put_self β (M.set g MObj.dead).length (es.take len ++ ys).length ⟨some (w.heap.size, 0), grownCap w (len + ys.length) bd.cap e, ti.size, true⟩
                        rw [hel] at hb ⊢
                        rw [hM1] at hb ⊢
                        exact .gs hb ⟨by simp, hcapge, fun _ => by simp⟩
                    · simp at h
              · simp at h
            · simp at h
          · simp at h
    · simp at h
  · simp at h
/-- append, of another slice. -/
theorem append_sound {t u ty : TypeId} {x y : AV} {X Y : Value} {e' : TypeId} (hu : P.underlying u = some (.slice e')) (hx : R β F x X) (hy : R β F y Y) (h : appendV tb.ty M t x y = some (v, M')) :
    ∃ β' F' w' r, (Builtin.append_ #[t, u] ty #[X, Y]).run P w = .ok r w' ∧ Ext β F M w β' F' M' w' ∧ Sim β' F' M' w' ∧ R β' F' v r := by
  refine append_core H S hx (fun e ti ys i z hd hte hi hz0 hs hys hhd => ?_) h
  obtain ⟨ay, capy, ky, uss, rfl, hcy, Yat⟩ := R.els S hy hys
  have Y2 : ElsAt β F w ys ay ti.size uss := Yat.re (by
    by_cases h0 : 0 < ys.length
    · exact .inl (Yat.k_of hhd h0)
    · exact .inr (Nat.eq_zero_of_not_pos h0))
  obtain ⟨fy1, fy2, fy3, fy4⟩ := Y2.flat (P := P) (w' := w) rfl capy
  obtain ⟨fd1, _, _, _⟩ := Y2.flat (P := P) (w' := w.drew) rfl capy
  rw [← hs] at fy1 fd1
  exact ⟨uss, ⟨Y2.els, Y2.len⟩, fun base sLen sCap w' h1 h2 h3 => run_append_in hd hu hi base sLen sCap ay ys.length capy uss.flatten w w' fy1 h1 h2 h3,
    fun base sLen sCap olds h1 h2 h3 h4 => run_append_out hd hu hi hz0 base sLen sCap ay ys.length capy olds uss.flatten w h1 fd1 h2 h3 h4⟩
end
end Go.Vm
