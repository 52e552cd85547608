/- Calls: what is forgotten behind them, what they may be handed. -/
import Derived.Test.YtiajhfodfhmfaaaGreatDoorWmStep
set_option linter.unusedVariables false
set_option linter.unusedSimpArgs false
set_option linter.unusedSectionVars false
namespace Go.Vm
variable [SymB] [SymV]

def Bnd.none_ : Bnd := ⟨fun _ _ => none, fun _ => none⟩

/-- A memory that stays beside a world that has grown. -/
theorem Sim.beside {β : Bnd} {F F' : Fr} {M : Mem} {w w' : World} (S : Sim β F M w) (hF : F.le F') (hz : ∀ b o v, F' b o = some v → w'.cell? ⟨b, o, none⟩ = some v)
    (hos : w'.os = w.os) (ht : w'.tape = w.tape) (hout : w'.output = w.output) (hsz : w.heap.size ≤ w'.heap.size) (hh : ∀ b, b < w.heap.size → w'.heap[b]? = w.heap[b]?) (hn : ∀ b o, F b o = none → F' b o ≠ none → w.heap.size ≤ b) :
    Sim β F' M w' ∧ Ext β F M w β F' M w' := by
  have hoc : ∀ b o, b < w.heap.size → w'.cell? ⟨b, o, none⟩ = w.cell? ⟨b, o, none⟩ ∧ w'.frozen? ⟨b, o, none⟩ = w.frozen? ⟨b, o, none⟩ := fun b o hb => ⟨World.cell?_of_block (a := ⟨b, o, none⟩) (hh b hb), World.frozen?_of_block (a := ⟨b, o, none⟩) (hh b hb)⟩
  refine ⟨⟨hz, fun g es fz bd hg hb => ?_, fun g es b hg hb => ?_, S.ver, S.vem, S.inj, S.inm⟩, ⟨⟨.refl _, hF, hos, ht, hout, hsz, fun b hb _ => hh b hb, fun b o h1 h2 => .inl (hn b o h1 h2), fun b h => .inr h, Nat.le_refl _⟩, fun _ n bd _ h => ⟨n, bd, h⟩⟩⟩
  · have A := S.arr g es fz bd hg hb
    refine ⟨A.room, A.empty, ?_⟩
    rcases A.kind with ⟨ho, b, O⟩ | ⟨ho, b, o, O⟩
    · refine .inl ⟨ho, b, O.base, by have := O.lt; omega, fun o hl => by rw [(hoc b o O.lt).1, (hoc b o O.lt).2]; exact O.there o hl, O.len, fun i hi j hj => ?_, fun o h => ?_⟩
      · obtain ⟨v, h1, h2, h3⟩ := O.val i hi j hj
        exact ⟨v, by rw [(hoc b _ O.lt).1]; exact h1, h2, h3.mono (.refl _) hF⟩
      · cases hF' : F' b o with
        | none => rfl
        | some v =>
          have := hn b o (O.free o h) (by rw [hF']; simp)
          have := O.lt
          omega
    · exact .inr ⟨ho, b, o, O.base, O.cap, O.fz, O.len, fun i hi j hj => by
        obtain ⟨v, h1, h2, h3⟩ := O.val i hi j hj
        exact ⟨v, hF _ _ _ h1, h2, h3.mono (.refl _) hF⟩⟩
  · obtain ⟨ents, clock, h1, h2⟩ := S.map g es b hg hb
    exact ⟨ents, clock, by rw [hh b (Array.getElem?_eq_some_iff.1 h1).1]; exact h1, F2.mono h2 fun _ _ _ h => ⟨h.1.mono hF, h.2.mono hF⟩⟩

theorem own_none {b : Nat} : ¬ Own Bnd.none_ [] b := by
  rintro (⟨g, es, fz, bd, h, _⟩ | ⟨g, es, h, _⟩) <;> simp at h
theorem Sim.none_ {β : Bnd} {F : Fr} {M : Mem} {w : World} (S : Sim β F M w) : Sim Bnd.none_ F [] w := by
  refine ⟨S.frz, fun g es fz bd hg => by simp at hg, fun g es b hg => by simp at hg, fun g n bd h => by simp [Bnd.none_] at h, fun g b h => by simp [Bnd.none_] at h, fun g g' b h => ?_, fun g g' b h => by simp [Bnd.none_] at h⟩
  obtain ⟨es, fz, bd, h, _⟩ := h
  simp at h
/-- A call that knew nothing of the memory. -/
theorem Sim.apart {β β' : Bnd} {F F' : Fr} {M N : Mem} {w w' : World} (S : Sim β F M w) (X : Ext Bnd.none_ F [] w β' F' N w') (S' : Sim β' F' N w') : Sim β F' M w' ∧ Ext β F M w β F' M w' :=
  S.beside X.fr S'.frz X.os X.tape X.output X.size (fun b hb => X.heap b hb own_none) fun b o h1 h2 => (X.new b o h1 h2).resolve_right own_none

/-! ### Forgetting -/
def Bnd.cut (β : Bnd) (m : Nat) : Bnd := ⟨fun g n => if g < m then β.arr g n else none, fun g => if g < m then β.map g else none⟩
theorem Bnd.cut_le (β : Bnd) (m : Nat) : (β.cut m).le β := ⟨fun g n bd h => by simp only [Bnd.cut] at h; split at h <;> simp_all, fun g b h => by simp only [Bnd.cut] at h; split at h <;> simp_all⟩
theorem R.cut {β : Bnd} {F : Fr} {m : Nat} {a : AV} {v : Value} (h : R β F a v) (hu : AV.under m a = true) : R (β.cut m) F a v :=
  h.mono_under (fun g n bd hg hb => by simp [Bnd.cut, hg, hb]) (fun g b hg hb => by simp [Bnd.cut, hg, hb]) hu
theorem under_cells {m : Nat} {a : AV} (h : AV.under m a = true) : ∀ c ∈ cells a, AV.under m c = true := by
  intro c hc
  cases a with
  | pv p =>
    rw [cells_pv] at hc
    obtain ⟨x, _, rfl⟩ := List.mem_map.1 hc
    simp [AV.under]
  | agg cs => simp only [cells] at hc; simp only [AV.under] at h; exact (AV.underL_iff m cs).1 h c hc
  | _ => simp only [cells, List.mem_singleton] at hc; subst hc; exact h

theorem Sim.cut {β : Bnd} {F : Fr} {N : Mem} {w : World} (S : Sim β F N w) {m : Nat} (hu : (N.take m).all (MObj.under m) = true) : Sim (β.cut m) F (N.take m) w := by
  have hM : ∀ g ob, (N.take m)[g]? = some ob → g < m ∧ N[g]? = some ob ∧ MObj.under m ob = true := fun g ob h => by
    have h3 := List.all_eq_true.1 hu ob (List.mem_of_getElem? h)
    rw [List.getElem?_take] at h
    split at h
    · exact ⟨by assumption, h, h3⟩
    · simp at h
  have hA : ∀ g n bd, (β.cut m).arr g n = some bd → g < m ∧ β.arr g n = some bd := fun g n bd h => by simp only [Bnd.cut] at h; split at h <;> simp_all
  have hB : ∀ g b, (β.cut m).map g = some b → g < m ∧ β.map g = some b := fun g b h => by simp only [Bnd.cut] at h; split at h <;> simp_all
  have hown : ∀ g b, OwnA (β.cut m) (N.take m) g b → OwnA β N g b := fun g b ⟨es, fz, bd, h1, h2, h3, h4⟩ => ⟨es, fz, bd, (hM _ _ h1).2.1, (hA _ _ _ h2).2, h3, h4⟩
  refine ⟨S.frz, fun g es fz bd hg hb => ?_, fun g es b hg hb => ?_, fun g n bd h => ?_, fun g b h => ?_, fun g g' b h h' => S.inj g g' b (hown _ _ h) (hown _ _ h'), fun g g' b h h' => S.inm g g' b (hB _ _ h).2 (hB _ _ h').2⟩
  · obtain ⟨h1, h2, h3⟩ := hM _ _ hg
    have A := S.arr g es fz bd h2 (hA _ _ _ hb).2
    have hun : ∀ i (hi : i < es.length) j (hj : j < (cells es[i]).length), AV.under m (cells es[i])[j] = true := fun i hi j hj => by
      simp only [MObj.under] at h3
      exact under_cells ((AV.underL_iff m es).1 h3 _ (List.getElem_mem _)) _ (List.getElem_mem _)
    refine ⟨A.room, A.empty, ?_⟩
    rcases A.kind with ⟨ho, b, O⟩ | ⟨ho, b, o, O⟩
    · exact .inl ⟨ho, b, O.base, O.lt, O.there, O.len, fun i hi j hj => by
        obtain ⟨v, k1, k2, k3⟩ := O.val i hi j hj
        exact ⟨v, k1, k2, k3.cut (hun i hi j hj)⟩, O.free⟩
    · exact .inr ⟨ho, b, o, O.base, O.cap, O.fz, O.len, fun i hi j hj => by
        obtain ⟨v, k1, k2, k3⟩ := O.val i hi j hj
        exact ⟨v, k1, k2, k3.cut (hun i hi j hj)⟩⟩
  · exact S.map g es b (hM _ _ hg).2.1 (hB _ _ hb).2
  · obtain ⟨h1, h2⟩ := hA _ _ _ h
    have := S.ver g n bd h2
    rw [List.getElem?_take, if_pos h1]
    exact this
  · obtain ⟨h1, h2⟩ := hB _ _ h
    rw [List.getElem?_take, if_pos h1]
    exact S.vem g b h2

/-- What was there before is kept, what came since is forgotten. -/
theorem Ext.cut {β β' : Bnd} {F F' : Fr} {M N : Mem} {w w' : World} (S : Sim β F M w) (X : Ext β F M w β' F' N w') (S' : Sim β' F' N w') {m : Nat} (hm : M.length ≤ m) : Ext β F M w (β'.cut m) F' (N.take m) w' := by
  refine ⟨⟨⟨fun g n bd h => ?_, fun g b h => ?_⟩, X.fr, X.os, X.tape, X.output, X.size, X.heap, X.new, fun b h => X.own b ?_, ?_⟩, fun g n bd hg h => X.bound g n bd hg ((Bnd.cut_le β' m).arr _ _ _ h)⟩
  · have := S.dom h
    have h' := X.bnd.arr g n bd h
    simp [Bnd.cut, show g < m by omega, h']
  · obtain ⟨es, h1⟩ := S.vem g b h
    have := (List.getElem?_eq_some_iff.1 h1).1
    have h' := X.bnd.map g b h
    simp [Bnd.cut, show g < m by omega, h']
  · rcases h with ⟨g, es, fz, bd, h1, h2, h3, h4⟩ | ⟨g, es, h1, h2⟩
    · refine .inl ⟨g, es, fz, bd, ?_, (Bnd.cut_le β' m).arr _ _ _ h2, h3, h4⟩
      rw [List.getElem?_take] at h1
      split at h1
      · exact h1
      · simp at h1
    · refine .inr ⟨g, es, ?_, (Bnd.cut_le β' m).map _ _ h2⟩
      rw [List.getElem?_take] at h1
      split at h1
      · exact h1
      · simp at h1
  · have := X.mlen
    simp; omega

/-! ### What calls give -/
def CallsTo (P : Program) (f : FuncId) (xs : Array Value) (β : Bnd) (F : Fr) (M : Mem) (w : World) (r : AV) (N : Mem) : Prop :=
  Calls P f xs w fun e w' => match e with
    | .returned v => ∃ β' F', Ext β F M w β' F' N w' ∧ Sim β' F' N w' ∧ R β' F' r v
    | _ => False
def RunOk (P : Program) (run : CallF) : Prop := ∀ f args M r N β F w (xs : Array Value), run f args M = some (r, N) → RL β F args xs.toList → Sim β F M w → CallsTo P f xs β F M w r N
def PrimOk (P : Program) (f : FuncId) (g : List PV → Option PV) : Prop := ∀ ps r F w (xs : Array Value), g ps = some r → RPL F ps xs.toList → Sim Bnd.none_ F [] w → CallsTo P f xs Bnd.none_ F [] w (.pv r) []
def CloneOk (P : Program) (tb : Tabs) (fn : FnI) (f : FuncId) : Prop := ∀ β F M w (x : AV) (X : Value) es, elems M x = some es → cloneRoom tb fn es = true → R β F x X → Sim β F M w →
  CallsTo P f #[X] β F M w (if es.isEmpty then .pv (.cl []) else .gs M.length es.length 0 es.length) (if es.isEmpty then M else M ++ [.arr es 0])

theorem CallsTo.mono {P : Program} {f : FuncId} {xs : Array Value} {β : Bnd} {F : Fr} {M : Mem} {w : World} {r : AV} {N : Mem} {β0 : Bnd} {M0 : Mem} {r' : AV} {N' : Mem} (h : CallsTo P f xs β F M w r N)
    (k : ∀ β' F' w' v, Ext β F M w β' F' N w' → Sim β' F' N w' → R β' F' r v → ∃ β'' F'', Ext β0 F M0 w β'' F'' N' w' ∧ Sim β'' F'' N' w' ∧ R β'' F'' r' v) : CallsTo P f xs β0 F M0 w r' N' :=
  Calls.mono h fun e w' h => by
    cases e with
    | returned v => obtain ⟨β', F', h1, h2, h3⟩ := h; exact k β' F' w' v h1 h2 h3
    | _ => exact h

theorem CallsTo.more {P : Program} {f : FuncId} {xs : Array Value} {β : Bnd} {F F0 : Fr} {M M0 : Mem} {w : World} {r : AV} {N : Mem} (h : CallsTo P f xs β F M w r N) (X : Ext β F0 M0 w β F M w) : CallsTo P f xs β F0 M0 w r N :=
  Calls.mono h fun e w' h => by
    cases e with
    | returned v => obtain ⟨β', F', h1, h2, h3⟩ := h; exact ⟨β', F', X.trans h1, h2, h3⟩
    | _ => exact h

theorem RL.nrms'' {β : Bnd} {F : Fr} {l : List AV} {m : List Value} (h : RL β F l m) : RL β F (l.map nrm) m := F2.map_left (F2.mono h fun _ _ _ h => h.nrm)

theorem back_sound {P : Program} {f : FuncId} {xs : Array Value} {β : Bnd} {F : Fr} {M : Mem} {w : World} {r v : AV} {N N' : Mem} (S : Sim β F M w) (h : CallsTo P f xs β F M w r N) (hb : back M.length r N = some (v, N')) : CallsTo P f xs β F M w v N' := by
  unfold back at hb
  split at hb
  · rename_i hu
    split at hb
    · rename_i ha
      simp only [Option.some.injEq, Prod.mk.injEq] at hb
      obtain ⟨rfl, rfl⟩ := hb
      exact h.mono fun β' F' w' v X S' r' => ⟨β'.cut M.length, F', X.cut S S' (Nat.le_refl _), S'.cut ha, r'.cut hu⟩
    · simp at hb
  · split at hb
    · rename_i p N1 hfr
      split at hb
      · rename_i ha
        simp only [Option.some.injEq, Prod.mk.injEq] at hb
        obtain ⟨rfl, rfl⟩ := hb
        refine h.mono fun β' F' w' v X S' r' => ?_
        obtain ⟨F2', K, r2⟩ := freeze_sound 5 N _ _ N1 F' _ hfr r' S'
        exact ⟨β'.cut M.length, F2', (X.trans K.ext).cut S K.sim (Nat.le_refl _), K.sim.cut ha, .pv r2⟩
      · simp at hb
    · simp at hb

theorem freezeL_pv (d : Nat) (M : Mem) (ps : List PV) : freezeL (freeze d) M (ps.map AV.pv) = some (ps.map nrmP, M) := by
  induction ps with
  | nil => rfl
  | cons p ps ih =>
    have : freeze d M (.pv p) = some (nrmP p, M) := by cases d <;> rfl
    simp only [List.map_cons, freezeL, this, ih]

structure CallOk (P : Program) (tb : Tabs) : Prop where
  prim : ∀ f g, tb.prim f = some g → PrimOk P f g
  clone : ∀ f fn, tb.fn f = some fn → fn.clone = true → CloneOk P tb fn f
  ent : ∀ f, (tb.prim f).isSome = true ∨ (tb.fn f).isSome = true → Enters P f

theorem doCall_sound {P : Program} {tb : Tabs} (C : CallOk P tb) {fi : FnI} {run : CallF} (hrun : RunOk P run) {f : FuncId} {args : List AV} {M : Mem} {v : AV} {N : Mem} (h : doCall tb fi run f args M = some (v, N))
    {β : Bnd} {F : Fr} {w : World} {xs : Array Value} (hx : RL β F args xs.toList) (S : Sim β F M w) : CallsTo P f xs β F M w v N := by
  unfold doCall at h
  split at h
  · rename_i g hg
    split at h
    · rename_i ps M1 hfr
      split at h
      · rename_i r hr
        simp only [Option.some.injEq, Prod.mk.injEq] at h
        obtain ⟨rfl, rfl⟩ := h
        obtain ⟨F1, K, hps⟩ := freezeL_sound (fun M a p M' F x => freeze_sound 5 M a p M' F x) _ M ps M1 F _ hfr hx S
        refine CallsTo.more ((C.prim f g hg ps r F1 w xs hr hps K.sim.none_).mono fun β' F' w' v X S' r' => ?_) K.ext
        obtain ⟨S2, X2⟩ := K.sim.apart X S'
        cases r' with
        | pv r' => exact ⟨β, F', X2, S2, .pv r'⟩
      · simp at h
    · simp at h
  · split at h
    · rename_i fn hfn
      split at h
      · rename_i hcl
        split at h
        · rename_i x
          split at h
          · rename_i es hes
            split at h
            case isFalse => simp at h
            rename_i hroom
            generalize hxl : xs.toList = xl at hx
            cases hx with
            | cons hx ht =>
              cases ht
              rename_i X
              have hxs : xs = #[X] := Array.ext' (by simpa using hxl)
              subst hxs
              have hc := C.clone f fn hfn hcl β F M w x X es hes hroom hx S
              split at h
              · by_cases he : es.isEmpty = true
                · rw [if_pos he] at h
                  simp only [Option.some.injEq, Prod.mk.injEq] at h
                  obtain ⟨rfl, rfl⟩ := h
                  rw [if_pos he, if_pos he] at hc
                  exact hc
                · rw [if_neg he] at h
                  simp only [Option.some.injEq, Prod.mk.injEq] at h
                  obtain ⟨rfl, rfl⟩ := h
                  rw [if_neg he, if_neg he] at hc
                  exact hc
              · split at h
                · rename_i ps hps
                  split at h
                  case isFalse => simp at h
                  rename_i hun
                  simp only [Option.some.injEq, Prod.mk.injEq] at h
                  obtain ⟨rfl, rfl⟩ := h
                  have hes' := unpvs_some hps
                  subst hes'
                  by_cases he : (ps.map AV.pv).isEmpty = true
                  · rw [if_pos he, if_pos he] at hc
                    have : ps = [] := by simpa using he
                    subst this
                    exact hc.mono fun β' F' w' v X S' r' => ⟨β', F', X, S', r'.slOf⟩
                  · rw [if_neg he, if_neg he] at hc
                    refine hc.mono fun β' F' w' v X S' r' => ?_
                    have hfz : freeze 5 (M ++ [MObj.arr (ps.map AV.pv) 0]) (.gs M.length (ps.map AV.pv).length 0 (ps.map AV.pv).length) = some (.sl (ps.map nrmP), (M ++ [MObj.arr (ps.map AV.pv) 0]).set M.length (MObj.arr (ps.map AV.pv) (ps.map AV.pv).length)) := by
                      have hga : getArr (M ++ [MObj.arr (ps.map AV.pv) 0]) M.length (ps.map AV.pv).length = some (ps.map AV.pv, 0) := by simp [getArr]
                      have hne : ¬ ((ps.map AV.pv).length ≤ 0) := by
                        have : ps ≠ [] := by simpa using he
                        have := List.length_pos_iff.2 this
                        simp; omega
                      simp only [freeze, hga, Nat.zero_add, Nat.le_refl, if_true, List.drop_zero, List.take_length, freezeL_pv]
                      rw [if_neg hne]
                    obtain ⟨F2', K, r2⟩ := freeze_sound 5 _ _ _ _ F' _ hfz r' S'
                    have htk : ((M ++ [MObj.arr (ps.map AV.pv) 0]).set M.length (MObj.arr (ps.map AV.pv) (ps.map AV.pv).length)).take M.length = M := by
                      rw [List.set_append_right _ _ (Nat.le_refl _), List.take_append_of_le_length (Nat.le_refl _), List.take_length]
                    have h1 := K.sim.cut (m := M.length) (by rw [htk]; exact hun)
                    have h2 := (X.trans K.ext).cut S K.sim (Nat.le_refl _)
                    rw [htk] at h1 h2
                    exact ⟨_, F2', h2, h1, .pv r2⟩
                · simp at h
          · simp at h
        · simp at h
      · split at h
        · rename_i hpure
          split at h
          · rename_i ps M1 hfr
            split at h
            · rename_i r N1 hr
              split at h
              · rename_i q N2 hq
                simp only [Option.some.injEq, Prod.mk.injEq] at h
                obtain ⟨rfl, rfl⟩ := h
                obtain ⟨F1, K, hps⟩ := freezeL_sound (fun M a p M' F x => freeze_sound 5 M a p M' F x) _ M ps M1 F _ hfr hx S
                refine CallsTo.more ((hrun f _ [] r N1 Bnd.none_ F1 w xs hr (RL.of_pv hps) K.sim.none_).mono fun β' F' w' v X S' r' => ?_) K.ext
                obtain ⟨F2', K2, r2⟩ := freeze_sound 5 N1 _ _ N2 F' _ hq r' S'
                obtain ⟨S3, X3⟩ := K.sim.apart (X.trans K2.ext) K2.sim
                refine ⟨β, F2', X3, S3, ?_⟩
                split
                · rename_i u
                  cases r' with
                  | pv r' => exact .pv (r'.mono K2.fr)
                · exact .pv r2
              · simp at h
            · simp at h
          · simp at h
        · split at h
          · rename_i r N1 hr
            have hx' : RL β F (if fn.raw then args else args.map nrm) xs.toList := by
              split
              · exact hx
              · exact hx.nrms''
            have hc := hrun f _ M r N1 β F w xs hr hx' S
            split at h
            · simp only [Option.some.injEq, Prod.mk.injEq] at h
              obtain ⟨rfl, rfl⟩ := h
              exact hc
            · exact back_sound S hc h
          · simp at h
    · simp at h
end Go.Vm
