/- Slices of slices, conversions. -/
import Derived.Test.YtiajhfodfhmfaaaGreatDoorWmOp8
import Derived.Laws.Slices
import Derived.Laws.BytesString
set_option linter.unusedVariables false
set_option linter.unusedSimpArgs false
set_option linter.unusedSectionVars false
namespace Go.Vm
variable [SymB] [SymV]

def BIs (o : Option Value) (d n : Nat) : Prop := (o = none ∧ n = d) ∨ ∃ k, o = some (.int k (n : Int))

theorem boundOf_R {β : Bnd} {F : Fr} {T : List AV} {a : Act} (hT : RL β F T a.tmps.toList) {x : Option Operand} {d n : Nat} (h : boundOf d (x.map (evalO T)) = some n) : BIs (x.map a.eval) d n ∧ (x.isSome = true → ∃ k, x.map a.eval = some (.int k (n : Int))) := by
  cases x with
  | none =>
    simp only [Option.map_none, boundOf, Option.some.injEq] at h
    exact ⟨.inl ⟨rfl, h.symm⟩, by simp⟩
  | some x =>
    obtain ⟨k, hk⟩ := natOf_R (evalO_R hT x) (n := n) (by simpa [boundOf] using h)
    exact ⟨.inr ⟨k, by simp [hk]⟩, fun _ => ⟨k, by simp [hk]⟩⟩

theorem run_bounds {P : Program} {w : World} {isS : Bool} {len cap l h : Nat} {lo hi : Option Value} (hl : BIs lo 0 l) (hh : BIs hi len h) (h1 : l ≤ h) (h2 : h ≤ len) (h3 : len ≤ cap) :
    (Instr.sliceBounds isS len cap lo hi none).run P w = .ok (l, h, cap) w := by
  have b1 : ∀ k code, (Instr.sliceBound (.int k (h : Int)) cap code).run P w = .ok h w := fun k code => by rw [run_sliceBound _ _ _ _ _ (by omega) (by omega)]; rfl
  have b2 : ∀ k code, (Instr.sliceBound (.int k (l : Int)) h code).run P w = .ok l w := fun k code => by rw [run_sliceBound _ _ _ _ _ (by omega) (by omega)]; rfl
  rcases hl with ⟨rfl, rfl⟩ | ⟨k, rfl⟩ <;> rcases hh with ⟨rfl, rfl⟩ | ⟨k', rfl⟩ <;> simp [Instr.sliceBounds, b1, b2]

theorem run_bounds3 {P : Program} {w : World} {isS : Bool} {len cap l h : Nat} {lo : Option Value} {k km : IntKind} (hl : BIs lo 0 l) (h1 : l ≤ h) (h2 : h ≤ len) (h3 : len ≤ cap) :
    (Instr.sliceBounds isS len cap lo (some (.int k (h : Int))) (some (.int km (h : Int)))).run P w = .ok (l, h, h) w := by
  have b0 : ∀ k code, (Instr.sliceBound (.int k (h : Int)) cap code).run P w = .ok h w := fun k code => by rw [run_sliceBound _ _ _ _ _ (by omega) (by omega)]; rfl
  have b1 : ∀ k code, (Instr.sliceBound (.int k (h : Int)) h code).run P w = .ok h w := fun k code => by rw [run_sliceBound _ _ _ _ _ (by omega) (by omega)]; rfl
  have b2 : ∀ k code, (Instr.sliceBound (.int k (l : Int)) h code).run P w = .ok l w := fun k code => by rw [run_sliceBound _ _ _ _ _ (by omega) (by omega)]; rfl
  rcases hl with ⟨rfl, rfl⟩ | ⟨k, rfl⟩ <;> simp [Instr.sliceBounds, b0, b1, b2]

theorem run_slice_gen {P : Program} {w : World} {t e : TypeId} {i : TypeInfo} (hd : P.underlying t = some (.slice e)) (hi : P.info? e = some i) {lo hi' mx : Option Value} {ad : Option Addr} {len cap l h m : Nat}
    (b : (Instr.sliceBounds true len cap lo hi' mx).run P w = .ok (l, h, m) w) : (Instr.sliceAt t (.slice ad len cap) lo hi' mx).run P w = .ok (.slice (if m = l then ad else ad.map (·.add (l * i.size))) (h - l) (m - l)) w := by
  simp [Instr.sliceAt, run_underlying hd, Instr.slice, b, sizeOf, typeInfo, hi]

theorem extr_length {α : Type} {l : List α} {lo hi : Nat} (h1 : lo ≤ hi) (h2 : hi ≤ l.length) : (extr l lo hi).length = hi - lo := by simp [extr]; omega
theorem extr_get {α : Type} {l : List α} {lo hi i : Nat} (h : i < (extr l lo hi).length) (h' : lo + i < l.length) : (extr l lo hi)[i] = l[lo + i] := by simp [extr]

theorem slice_RP {F : Fr} {es : List PV} {ad : Option Addr} {b o k : Nat} {vs : Nat → Nat → Value} {l h size m : Nat} (ha : 0 < es.length → ad = some ⟨b, o, none⟩)
    (hk : ∀ i (hi : i < es.length), (pcells es[i]).length = k) (hF : ∀ i j, i < es.length → j < k → F b (o + i * k + j) = some (vs i j) ∧ (vs i j).oneCell' = true)
    (hr : ∀ i (hi : i < es.length) j (hj : j < (pcells es[i]).length), RP F (pcells es[i])[j] (vs i j)) (hl : l ≤ h) (hh : h ≤ es.length) (hs : headOkP size es = true) (hm : h ≤ m) :
    RP F (.sl (extr es l h)) (.slice (if m = l then ad else ad.map (·.add (l * size))) (h - l) (m - l)) ∧ (m = h → RP F (.cl (extr es l h)) (.slice (if m = l then ad else ad.map (·.add (l * size))) (h - l) (m - l))) := by
  have hlen := extr_length hl hh
  have hks : 0 < es.length → k = size := fun h0 => by
    rw [← hk 0 h0]
    cases es with
    | nil => simp at h0
    | cons e r => simpa [headOkP] using hs
  have ha' : 0 < (extr es l h).length → (if m = l then ad else ad.map (·.add (l * size))) = some ⟨b, o + l * k, none⟩ := fun h0 => by
    rw [if_neg (by omega), ha (by omega), hks (by omega)]
    simp [Addr.add_mid]
  have hk' : ∀ i (hi : i < (extr es l h).length), (pcells (extr es l h)[i]).length = k := fun i hi => by
    have h2 : l + i < es.length := by omega
    rw [extr_get hi h2]; exact hk _ h2
  have hF' : ∀ i j, i < (extr es l h).length → j < k → F b (o + l * k + i * k + j) = some (vs (l + i) j) ∧ (vs (l + i) j).oneCell' = true := fun i j hi hj => by
    have := hF (l + i) j (by omega) hj
    rw [Nat.add_mul, ← Nat.add_assoc] at this; exact this
  have hr' : ∀ i (hi : i < (extr es l h).length) j (hj : j < (pcells (extr es l h)[i]).length), RP F (pcells (extr es l h)[i])[j] (vs (l + i) j) := fun i hi j hj => by
    have h2 : l + i < es.length := by omega
    have e := extr_get hi h2
    have := hr (l + i) h2 j (by rw [← e]; exact hj)
    simpa [e] using this
  refine ⟨?_, fun e => ?_⟩
  · have := RP.sl (F := F) (es := extr es l h) (a := if m = l then ad else ad.map (·.add (l * size))) (cap := m - l) b (o + l * k) k (fun i j => vs (l + i) j) (by omega) ha' hk' hF' hr'
    rwa [hlen] at this
  · have := RP.cl (F := F) (es := extr es l h) (a := if m = l then ad else ad.map (·.add (l * size))) b (o + l * k) k (fun i j => vs (l + i) j) ha' hk' hF' hr'
    rw [hlen] at this
    subst e; exact this

theorem RP.sl_cl {F : Fr} {es : List PV} {ad ad' : Option Addr} {len c : Nat} (h : RP F (.sl es) (.slice ad len c)) (ha : 0 < len → ad' = ad) : RP F (.cl es) (.slice ad' len len) := by
  cases h with
  | sl b o k vs hc hb hk hF hr => exact .cl b o k vs (fun h0 => (ha h0).trans (hb h0)) hk hF hr

section
variable {P : Program} {tb : Tabs} (H : TabsTy P tb) {o : Oper} {β : Bnd} {F : Fr} {M : Mem} {w : World} {T : List AV} {a : Act} (hT : RL β F T a.tmps.toList) (S : Sim β F M w) {v : AV} {M' : Mem} {fi : FnI}
include H hT S

theorem out_slice {t : TypeId} {x : Operand} {lo hi mx : Option Operand} (ho : o.op = .slice t x lo hi mx) (h : stepOp tb fi T M o.dst o.op = .val v M') : Out P o a.eval β F M w v M' := by
  rw [ho] at h
  simp only [stepOp] at h
  have rx := evalO_R hT x
  generalize hX : a.eval x = X at rx
  generalize hx : evalO T x = x' at h rx
  have hof : ∀ {r : Option (AV × Mem)}, ofOpt r = .val v M' → r = some (v, M') := fun {r} h => by
    cases r with
    | none => simp [ofOpt] at h
    | some p => obtain ⟨p1, p2⟩ := p; simp only [ofOpt, Res.val.injEq] at h; simp [h]
  have hex : ∀ {r : Value}, (Instr.sliceAt t X (lo.map a.eval) (hi.map a.eval) (mx.map a.eval)).run P w = .ok r w → (execOp a.eval o).run P w = .ok (.value r) w := fun {r} h => by
    simp [execOp, ho, hX, h]
  split at h
  · rename_i e _ _ _ _ _ hty
    obtain ⟨d, hd, hkd⟩ := und_of H hty
    cases hkd
    split at h
    · rename_i ti hte
      obtain ⟨i, z, hi', hs, _⟩ := (H.ty _ _ hte).info
      split at h
      case isFalse => simp at h
      rename_i hlk
      have h := hof h
      unfold sliceV at h
      split at h
      · simp at h
      · rename_i n hn
        split at h
        · rename_i l hh hlo hhi
          obtain ⟨bl, _⟩ := boundOf_R hT hlo
          obtain ⟨bh, bh'⟩ := boundOf_R hT hhi
          split at h
          · rename_i hlh
            cases mx with
            | none =>
              simp only [Option.map_none] at h
              split at h
              · simp [lenOk] at hlk
              · rename_i es _
                cases rx with
                | pv rx => cases rx with
                  | sl b q k vs hc ha hk hF hr =>
                    simp only [lenV, Option.some.injEq] at hn
                    subst hn
                    split at h
                    · rename_i hhd
                      simp only [Option.some.injEq, Prod.mk.injEq] at h
                      obtain ⟨rfl, rfl⟩ := h
                      refine Out.same S (hex (run_slice_gen hd hi' (run_bounds bl bh hlh.1 hlh.2 hc))) (.pv ?_)
                      rw [hs]
                      exact (slice_RP ha hk hF hr hlh.1 hlh.2 hhd (by omega)).1
                    · simp at h
              · rename_i es _
                cases rx with
                | pv rx => cases rx with
                  | cl b q k vs ha hk hF hr =>
                    simp only [lenV, Option.some.injEq] at hn
                    subst hn
                    split at h
                    · rename_i hhd
                      simp only [Option.some.injEq, Prod.mk.injEq] at h
                      obtain ⟨rfl, rfl⟩ := h
                      refine Out.same S (hex (run_slice_gen hd hi' (run_bounds bl bh hlh.1 hlh.2 (Nat.le_refl _)))) ?_
                      rw [hs]
                      have := slice_RP (m := es.length) ha hk hF hr hlh.1 hlh.2 hhd hlh.2
                      split
                      · rename_i e; exact .pv (this.2 e.symm)
                      · exact .pv this.1
                    · simp at h
              · rename_i g m off len _
                split at h
                · rename_i es fz hg0
                  obtain ⟨hg, hm⟩ := getArr_some hg0
                  split at h
                  · rename_i hc
                    simp only [Bool.and_eq_true, decide_eq_true_eq] at hc
                    simp only [Option.some.injEq, Prod.mk.injEq] at h
                    obtain ⟨rfl, rfl⟩ := h
                    simp only [lenV, Option.some.injEq] at hn
                    subst hn
                    cases rx with
                    | gs hβ hsl =>
                      rename_i ad cap bd
                      obtain ⟨q1, q2, q3⟩ := hsl
                      refine Out.same S (hex (run_slice_gen hd hi' (run_bounds bl bh hlh.1 hlh.2 q2))) (.gs hβ ⟨by omega, by omega, fun h0 => ?_⟩)
                      have A := S.arr g es fz bd hg (by rw [hm]; exact hβ)
                      have hne : 0 < es.length := by
                        rcases Nat.eq_zero_or_pos es.length with h1 | h1
                        · have := A.empty (List.eq_nil_of_length_eq_zero h1); omega
                        · exact h1
                      have hks : bd.k = ti.size := by
                        have h1 : (cells es[0]).length = bd.k := by rcases A.kind with ⟨_, _, O⟩ | ⟨_, _, _, O⟩ <;> exact O.len 0 hne
                        cases es with
                        | nil => simp at hne
                        | cons e0 r => have := hc.1; simp only [headOk, beq_iff_eq] at this; simp only [List.getElem_cons_zero] at h1; omega
                      rw [if_neg (by omega), q3 (by omega), hs, hks]
                      cases bd.base with
                      | none => rfl
                      | some p => simp [Addr.add_mid, Nat.add_mul, Nat.add_assoc]
                  · simp at h
                · simp at h
              · simp at h
            | some mo =>
              simp only [Option.map_some] at h
              split at h
              · rename_i hmx
                obtain ⟨hmx, his⟩ := hmx
                obtain ⟨km, em⟩ := natOf_R (evalO_R hT mo) hmx
                obtain ⟨kh, eh⟩ := bh' (by simpa using his)
                have hrun : ∀ ad len cap, hh ≤ len → len ≤ cap → (execOp a.eval o).run P w = .ok (.value (.slice (if hh = l then ad else ad.map (·.add (l * i.size))) (hh - l) (hh - l))) w ∨ X ≠ .slice ad len cap := fun ad len cap h1 h2 => by
                  by_cases hXe : X = .slice ad len cap
                  · subst hXe
                    refine .inl (hex (run_slice_gen hd hi' ?_))
                    rw [eh, Option.map_some, em]
                    exact run_bounds3 bl hlh.1 h1 h2
                  · exact .inr hXe
                split at h
                · rename_i es _
                  cases rx with
                  | pv rx => cases rx with
                    | sl b q k vs hc ha hk hF hr =>
                      rename_i ad cap
                      simp only [lenV, Option.some.injEq] at hn
                      subst hn
                      split at h
                      · rename_i hhd
                        simp only [Option.some.injEq, Prod.mk.injEq] at h
                        obtain ⟨rfl, rfl⟩ := h
                        refine Out.same S ((hrun ad _ cap hlh.2 hc).resolve_right (by simp)) (.pv ?_)
                        rw [hs]
                        exact (slice_RP ha hk hF hr hlh.1 hlh.2 hhd (Nat.le_refl _)).2 rfl
                      · simp at h
                · rename_i es _
                  cases rx with
                  | pv rx => cases rx with
                    | cl b q k vs ha hk hF hr =>
                      rename_i ad
                      simp only [lenV, Option.some.injEq] at hn
                      subst hn
                      split at h
                      · rename_i hhd
                        simp only [Option.some.injEq, Prod.mk.injEq] at h
                        obtain ⟨rfl, rfl⟩ := h
                        refine Out.same S ((hrun ad _ _ hlh.2 (Nat.le_refl _)).resolve_right (by simp)) (.pv ?_)
                        rw [hs]
                        exact (slice_RP ha hk hF hr hlh.1 hlh.2 hhd (Nat.le_refl _)).2 rfl
                      · simp at h
                · rename_i g m off len _
                  split at h
                  · rename_i es fz hg0
                    obtain ⟨hg, hm⟩ := getArr_some hg0
                    split at h
                    · rename_i hhd
                      split at h
                      · rename_i es' M1 hfr
                        simp only [Option.some.injEq, Prod.mk.injEq] at h
                        obtain ⟨rfl, rfl⟩ := h
                        simp only [lenV, Option.some.injEq] at hn
                        subst hn
                        cases rx with
                        | gs hβ hsl =>
                          rename_i ad cap bd
                          obtain ⟨q1, q2, q3⟩ := hsl
                          have hgs : R β F (.gs g m (off + l) (hh - l)) (.slice (if cap = l then ad else ad.map (·.add (l * i.size))) (hh - l) (cap - l)) := .gs hβ ⟨by omega, by omega, fun h0 => by
                            have A := S.arr g es fz bd hg (by rw [hm]; exact hβ)
                            have hne : 0 < es.length := by
                              rcases Nat.eq_zero_or_pos es.length with h1 | h1
                              · have := A.empty (List.eq_nil_of_length_eq_zero h1); omega
                              · exact h1
                            have hks : bd.k = ti.size := by
                              have h1 : (cells es[0]).length = bd.k := by rcases A.kind with ⟨_, _, O⟩ | ⟨_, _, _, O⟩ <;> exact O.len 0 hne
                              cases es with
                              | nil => simp at hne
                              | cons e0 r => simp only [headOk, beq_iff_eq] at hhd; simp only [List.getElem_cons_zero] at h1; omega
                            rw [if_neg (by omega), q3 (by omega), hs, hks]
                            cases bd.base with
                            | none => rfl
                            | some p => simp [Addr.add_mid, Nat.add_mul, Nat.add_assoc]⟩
                          obtain ⟨F', K, r⟩ := freeze_sound 4 M _ _ M1 F _ hfr hgs S
                          refine ⟨β, F', w, _, .inl ((hrun ad _ cap hlh.2 q2).resolve_right (by simp)), K.ext, K.sim, .pv (r.sl_cl fun h0 => ?_)⟩
                          rw [if_neg (by omega), if_neg (by omega)]
                      · simp at h
                    · simp at h
                  · simp at h
                · simp at h
              · simp at h
          · simp at h
        · simp at h
    · simp at h
  · rename_i hty
    obtain ⟨d, hd, hkd⟩ := und_of H hty
    cases hkd
    split at h
    case isFalse => simp at h
    rename_i hlk
    have h := hof h
    have hstr : ∃ s, x' = .pv (.str s) := by
      cases x' with
      | pv p => cases p <;> simp [lenOk] at hlk; exact ⟨_, rfl⟩
      | _ => simp [lenOk] at hlk
    obtain ⟨s, rfl⟩ := hstr
    cases rx with
    | pv rx => cases rx with
      | str u =>
        unfold sliceV at h
        simp only [lenV] at h
        split at h
        · rename_i l hh hlo hhi
          obtain ⟨bl, _⟩ := boundOf_R hT hlo
          obtain ⟨bh, bh'⟩ := boundOf_R hT hhi
          split at h
          · rename_i hlh
            cases mx with
            | none =>
              simp only [Option.map_none, Option.some.injEq, Prod.mk.injEq] at h
              obtain ⟨rfl, rfl⟩ := h
              have hsz : u.data.toList.length = u.size := by rw [Array.length_toList]; rfl
              rw [hsz] at bh hlh
              have hb := run_bounds (P := P) (w := w) (isS := false) bl bh hlh.1 hlh.2 (Nat.le_refl _)
              refine Out.same S (hex (r := .string (u.extract l hh)) ?_) (.pv ?_)
              · simp [Instr.sliceAt, run_underlying hd, Instr.slice, hb]
              · have : (u.extract l hh).data.toList = extr u.data.toList l hh := by simp [extr, ByteArray.data_extract]
                rw [← this]; exact .str _
            | some m => simp at h
          · simp at h
        · simp at h
  · simp at h
end
end Go.Vm
