/- Maps. -/
import Derived.Test.YtiajhfodfhmfaaaGreatDoorWmOp7
set_option linter.unusedVariables false
set_option linter.unusedSimpArgs false
set_option linter.unusedSectionVars false
namespace Go.Vm
variable [SymB] [SymV]

theorem ArrOk.keep {β β' : Bnd} {F : Fr} {es : List AV} {fz : Nat} {bd : Bind} {w w1 : World} (A : ArrOk β F es fz bd w) (hβ : β.le β') (hsz : w.heap.size ≤ w1.heap.size)
    (hcell : ∀ b o v, w.cell? ⟨b, o, none⟩ = some v → w1.cell? ⟨b, o, none⟩ = some v ∧ w1.frozen? ⟨b, o, none⟩ = w.frozen? ⟨b, o, none⟩) : ArrOk β' F es fz bd w1 := by
  refine ⟨A.room, A.empty, ?_⟩
  rcases A.kind with ⟨ho, b, O⟩ | ⟨ho, b, o, O⟩
  · refine .inl ⟨ho, b, O.base, by have := O.lt; omega, fun o hl => ?_, O.len, fun i hi j hj => ?_, O.free⟩
    · obtain ⟨h1, h2⟩ := O.there o hl
      obtain ⟨v, hv⟩ := Option.isSome_iff_exists.1 h1
      obtain ⟨k1, k2⟩ := hcell b o v hv
      exact ⟨by rw [k1]; rfl, by rw [k2]; exact h2⟩
    · obtain ⟨v, h1, h2, h3⟩ := O.val i hi j hj
      exact ⟨v, (hcell _ _ _ h1).1, h2, h3.mono hβ (.refl _)⟩
  · exact .inr ⟨ho, b, o, O.base, O.cap, O.fz, O.len, fun i hi j hj => by
      obtain ⟨v, h1, h2, h3⟩ := O.val i hi j hj
      exact ⟨v, h1, h2, h3.mono hβ (.refl _)⟩⟩

/-- A new map. -/
theorem Sim.newMap {β : Bnd} {F : Fr} {M : Mem} {w w1 : World} (S : Sim β F M w) (hw1 : w1.heap = w.heap.push (.map #[] 0)) (hos : w1.os = w.os) (ht : w1.tape = w.tape) (hout : w1.output = w.output) :
    ∃ β', Sim β' F (M ++ [.map []]) w1 ∧ Ext β F M w β' F (M ++ [.map []]) w1 ∧ R β' F (.mp M.length) (.map (some w.heap.size)) := by
  have hold : ∀ b, b < w.heap.size → w1.heap[b]? = w.heap[b]? := fun b hb => by rw [hw1]; simp [Array.getElem?_push, Nat.ne_of_lt hb]
  have hnew : w1.heap[w.heap.size]? = some (.map #[] 0) := by rw [hw1]; simp
  have hno : β.map M.length = none := by
    cases h : β.map M.length with
    | none => rfl
    | some b => obtain ⟨es, h1⟩ := S.vem _ _ h; simp at h1
  have hmlt : ∀ g b, β.map g = some b → g < M.length := fun g b h => by
    obtain ⟨es, h1⟩ := S.vem _ _ h; exact (List.getElem?_eq_some_iff.1 h1).1
  let β' : Bnd := { β with map := fun g => if g = M.length then some w.heap.size else β.map g }
  have hle : β.le β' := ⟨fun _ _ _ h => h, fun g b h => by
    have := hmlt g b h
    simp only [β']; rw [if_neg (by omega)]; exact h⟩
  have hoc : ∀ b o v, w.cell? ⟨b, o, none⟩ = some v → w1.cell? ⟨b, o, none⟩ = some v ∧ w1.frozen? ⟨b, o, none⟩ = w.frozen? ⟨b, o, none⟩ := fun b o v h => by
    have hb : b < w.heap.size := by
      rcases Nat.lt_or_ge b w.heap.size with h' | h'
      · exact h'
      · simp [World.cell?, Array.getElem?_eq_none h'] at h
    exact ⟨by rw [World.cell?_of_block (a := ⟨b, o, none⟩) (hold b hb)]; exact h, World.frozen?_of_block (a := ⟨b, o, none⟩) (hold b hb)⟩
  have hM : ∀ g es fz, (M ++ [MObj.map []])[g]? = some (MObj.arr es fz) → M[g]? = some (MObj.arr es fz) := fun g es fz h => by
    by_cases hg : g < M.length
    · rwa [List.getElem?_append_left hg] at h
    · rw [List.getElem?_append_right (by omega)] at h
      cases hq : g - M.length with
      | zero => rw [hq] at h; simp at h
      | succ n => rw [hq] at h; simp at h
  have hMo : ∀ g, g < M.length → (M ++ [MObj.map []])[g]? = M[g]? := fun g h => List.getElem?_append_left h
  have hown : ∀ g b, OwnA β' (M ++ [.map []]) g b → OwnA β M g b := fun g b ⟨es, fz, bd, h1, h2, h3, h4⟩ => ⟨es, fz, bd, hM _ _ _ h1, h2, h3, h4⟩
  refine ⟨β', ⟨fun b o v h => (hoc b o v (S.frz b o v h)).1, fun g es fz bd hg hb => (S.arr g es fz bd (hM _ _ _ hg) hb).keep hle (by rw [hw1]; simp) hoc, fun g es b hg hb => ?_, fun g n bd h => ?_, fun g b h => ?_, fun g g' b h h' => S.inj g g' b (hown _ _ h) (hown _ _ h'), fun g g' b h h' => ?_⟩,
    ⟨⟨hle, .refl _, hos, ht, hout, by rw [hw1]; simp, fun b hb _ => hold b hb, fun b o h1 h2 => absurd h1 h2, fun b h => ?_, by simp⟩, fun _ n bd _ h => ⟨n, bd, h⟩⟩, .mp (by simp [β'])⟩
  · simp only [β'] at hb
    split at hb
    · rename_i e; subst e
      simp only [Option.some.injEq] at hb; subst hb
      have : es = [] := by simpa using hg.symm
      subst this
      exact ⟨#[], 0, hnew, .nil⟩
    · rw [hMo g (hmlt g b hb)] at hg
      obtain ⟨ents, clock, h1, h2⟩ := S.map g es b hg hb
      exact ⟨ents, clock, by rw [hold b (Array.getElem?_eq_some_iff.1 h1).1]; exact h1, h2⟩
  · have h' : β.arr g n = some bd := h
    rw [hMo g (S.dom h')]
    exact S.ver g n bd h'
  · simp only [β'] at h
    split at h
    · rename_i e; subst e; exact ⟨[], by simp⟩
    · rw [hMo g (hmlt g b h)]; exact S.vem g b h
  · have hlt : ∀ g b, β.map g = some b → b < w.heap.size := fun g b h => by
      obtain ⟨es, h1⟩ := S.vem _ _ h
      obtain ⟨ents, clock, h2, _⟩ := S.map g es b h1 h
      exact (Array.getElem?_eq_some_iff.1 h2).1
    simp only [β'] at h h'
    split at h <;> split at h'
    · rename_i e e'; rw [e, e']
    · simp only [Option.some.injEq] at h; subst h; have := hlt _ _ h'; omega
    · simp only [Option.some.injEq] at h'; subst h'; have := hlt _ _ h; omega
    · exact S.inm g g' b h h'
  · rcases h with ⟨g, h⟩ | ⟨g, es, h1, h2⟩
    · exact .inr (.inl ⟨g, hown _ _ h⟩)
    · simp only [β'] at h2
      split at h2
      · simp only [Option.some.injEq] at h2; exact .inl (by omega)
      · rw [hMo g (hmlt g b h2)] at h1
        exact .inr (.inr ⟨g, es, h1, h2⟩)

/-- A map turns. -/
theorem Sim.setMap {β : Bnd} {F : Fr} {M : Mem} {w w1 : World} (S : Sim β F M w) {g b : Nat} {es es' : List (PV × PV)} {ents ents' : Array MapEntry} {clock clock' : Nat} (hg : M[g]? = some (.map es)) (hβ : β.map g = some b)
    (hb : w.heap[b]? = some (.map ents clock)) (hw1 : w1.heap = w.heap.setIfInBounds b (.map ents' clock')) (hos : w1.os = w.os) (ht : w1.tape = w.tape) (hout : w1.output = w.output)
    (hr : F2 (fun (p : PV × PV) (e : MapEntry) => RP F p.1 e.key ∧ RP F p.2 e.val) es' ents'.toList) : Sim β F (M.set g (.map es')) w1 ∧ Ext β F M w β F (M.set g (.map es')) w1 := by
  have hlt := (Array.getElem?_eq_some_iff.1 hb).1
  have hother : ∀ b', b' ≠ b → w1.heap[b']? = w.heap[b']? := fun b' h => by rw [hw1]; exact Array.getElem?_setIfInBounds_ne (Ne.symm h)
  have hat : w1.heap[b]? = some (.map ents' clock') := by rw [hw1]; simp [hlt]
  have hoc : ∀ b' o v, w.cell? ⟨b', o, none⟩ = some v → w1.cell? ⟨b', o, none⟩ = some v ∧ w1.frozen? ⟨b', o, none⟩ = w.frozen? ⟨b', o, none⟩ := fun b' o v h => by
    have hne : b' ≠ b := fun e => by subst e; simp [World.cell?, hb] at h
    exact ⟨by rw [World.cell?_of_block (a := ⟨b', o, none⟩) (hother b' hne)]; exact h, World.frozen?_of_block (a := ⟨b', o, none⟩) (hother b' hne)⟩
  have hgl := (List.getElem?_eq_some_iff.1 hg).1
  have hM : ∀ g' es0 fz, (M.set g (MObj.map es'))[g']? = some (MObj.arr es0 fz) → M[g']? = some (MObj.arr es0 fz) := fun g' es0 fz h => by
    by_cases e : g' = g
    · subst e; rw [List.getElem?_set_self hgl] at h; simp at h
    · rwa [List.getElem?_set_ne (Ne.symm e)] at h
  have hown : ∀ g' b', OwnA β (M.set g (.map es')) g' b' → OwnA β M g' b' := fun g' b' ⟨es0, fz, bd, h1, h2, h3, h4⟩ => ⟨es0, fz, bd, hM _ _ _ h1, h2, h3, h4⟩
  refine ⟨⟨fun b' o v h => (hoc b' o v (S.frz b' o v h)).1, fun g' es0 fz bd hg' hb' => (S.arr g' es0 fz bd (hM _ _ _ hg') hb').keep (.refl _) (by rw [hw1]; simp) hoc, fun g' es0 b' hg' hb' => ?_, fun g' n bd h => ?_, fun g' b' h => ?_, fun g1 g2 b' h h' => S.inj g1 g2 b' (hown _ _ h) (hown _ _ h'), S.inm⟩,
    ⟨⟨.refl _, .refl _, hos, ht, hout, by rw [hw1]; simp, fun b' hb' hn => hother b' fun e => hn (by subst e; exact .inr ⟨g, es, hg, hβ⟩), fun b' o h1 h2 => absurd h1 h2, fun b' h => ?_, by simp⟩, fun _ n bd _ h => ⟨n, bd, h⟩⟩⟩
  · by_cases e : g' = g
    · subst e
      rw [hβ] at hb'; simp only [Option.some.injEq] at hb'; subst hb'
      simp [hgl] at hg'; subst hg'
      exact ⟨ents', clock', hat, hr⟩
    · rw [List.getElem?_set_ne (Ne.symm e)] at hg'
      have hne : b' ≠ b := fun e' => e (S.inm g' g b' hb' (by rw [e']; exact hβ))
      obtain ⟨e1, c1, h1, h2⟩ := S.map g' es0 b' hg' hb'
      exact ⟨e1, c1, by rw [hother b' hne]; exact h1, h2⟩
  · by_cases e : g' = g
    · subst e
      rcases S.ver g' n bd h with h | ⟨_, _, h, _⟩ <;> rw [hg] at h <;> simp at h
    · rw [List.getElem?_set_ne (Ne.symm e)]; exact S.ver g' n bd h
  · by_cases e : g' = g
    · subst e; exact ⟨es', by simp [hgl]⟩
    · rw [List.getElem?_set_ne (Ne.symm e)]; exact S.vem g' b' h
  · rcases h with ⟨g', h⟩ | ⟨g', es0, h1, h2⟩
    · exact .inr (.inl ⟨g', hown _ _ h⟩)
    · obtain ⟨es1, h3⟩ := S.vem g' b' h2
      exact .inr (.inr ⟨g', es1, h3, h2⟩)

/-! ### Keys -/
inductive KeyFit : TypeDesc → PV → Value → Prop
  | int (q k : IntKind) (n : Int) : KeyFit (.int q) (.int k n) (.int k n)
  | str (s : ByteArray) : KeyFit .string (.str s.data.toList) (.string s)

theorem bytes_beq (s u : ByteArray) : (s == u) = (s.data.toList == u.data.toList) := by
  rw [beq_toListBytes, ByteArray.toList_eq, ByteArray.toList_eq]

theorem sameNow_keyEq {F : Fr} {d : TypeDesc} {k x : PV} {K X : Value} {b : Bool} (hk : KeyFit d k K) (hx : RP F x X) (h : keyEq k x = some b) : Instr.sameNow d K X = some b := by
  cases hk with
  | int q k n =>
    cases hx <;> simp [keyEq] at h
    rename_i k' n'
    obtain ⟨rfl, rfl⟩ := h
    simp [Instr.sameNow]
  | str s =>
    cases hx
    case str u =>
      simp only [keyEq, Option.some.injEq] at h
      subst h
      show some (s == u) = some _
      rw [bytes_beq]
    all_goals simp [keyEq] at h

/-- A key looked for in both. -/
theorem findNow_ok {F : Fr} {d : TypeDesc} {k : PV} {K : Value} (hk : KeyFit d k K) : ∀ {es : List (PV × PV)} {ents : List MapEntry} (i : Nat) {r : Option PV}, F2 (fun (p : PV × PV) (e : MapEntry) => RP F p.1 e.key ∧ RP F p.2 e.val) es ents → findKey k es = some r →
    ∃ r', Instr.findNow d K ents i = some r' ∧ match r, r' with
      | none, none => True
      | some v, some (_, u) => RP F v u
      | _, _ => False
  | [], _, i, r, .nil, h => by
    simp only [findKey, Option.some.injEq] at h
    subst h
    exact ⟨none, rfl, trivial⟩
  | (x, v) :: es, e :: ents, i, r, .cons ⟨h1, h2⟩ t, h => by
    simp only [findKey] at h
    split at h
    · rename_i hq
      simp only [Option.some.injEq] at h
      subst h
      exact ⟨some (i, e.val), by simp [Instr.findNow, sameNow_keyEq hk h1 hq], h2⟩
    · rename_i hq
      obtain ⟨r', h3, h4⟩ := findNow_ok hk (i + 1) t h
      exact ⟨r', by simp [Instr.findNow, sameNow_keyEq hk h1 hq, h3], h4⟩
    · simp at h

theorem sameBits_key {F : Fr} {d : TypeDesc} {k x : PV} {K X : Value} (hk : KeyFit d k K) (hx : RP F x X) (h : keyEq k x = some true) (n : Nat) : Instr.sameBits n X K = true ∧ RP F x K := by
  cases hk with
  | int q k n' =>
    cases hx <;> simp [keyEq] at h
    obtain ⟨rfl, rfl⟩ := h
    exact ⟨by cases n <;> simp [Instr.sameBits], .int ..⟩
  | str s =>
    cases hx
    case str u =>
      simp only [keyEq, Option.some.injEq, beq_iff_eq] at h
      have hsu : s = u := by
        cases s; cases u
        congr 1
        exact Array.ext' h
      subst hsu
      have hb : (s == s) = true := by rw [bytes_beq]; simp
      exact ⟨by cases n <;> simp [Instr.sameBits, hb], .str s⟩
    all_goals simp [keyEq] at h

/-- A key put into both. -/
theorem putKey_ok {F : Fr} {d : TypeDesc} {k v : PV} {K V : Value} (hk : KeyFit d k K) (hkr : RP F k K) (hv : RP F v V) : ∀ {es es' : List (PV × PV)} {ents : List MapEntry} (i : Nat), F2 (fun (p : PV × PV) (e : MapEntry) => RP F p.1 e.key ∧ RP F p.2 e.val) es ents → putKey k v es = some es' →
    (Instr.findNow d K ents i = some none ∧ ∀ e : MapEntry, e.key = K → e.val = V → F2 (fun (p : PV × PV) (e : MapEntry) => RP F p.1 e.key ∧ RP F p.2 e.val) es' (ents ++ [e])) ∨
    ∃ j u, Instr.findNow d K ents i = some (some (i + j, u)) ∧ (∃ e : MapEntry, ents[j]? = some e ∧ ∀ n, Instr.sameBits n e.key K = true) ∧ F2 (fun (p : PV × PV) (e : MapEntry) => RP F p.1 e.key ∧ RP F p.2 e.val) es' (ents.modify j fun e => { e with key := K, val := V })
  | [], _, _, i, .nil, h => by
    simp only [putKey, Option.some.injEq] at h
    subst h
    exact .inl ⟨rfl, fun e h1 h2 => .cons ⟨by rw [h1]; exact hkr, by rw [h2]; exact hv⟩ .nil⟩
  | (x, u) :: es, es', e :: ents, i, .cons ⟨h1, h2⟩ t, h => by
    simp only [putKey] at h
    split at h
    · rename_i hq
      simp only [Option.some.injEq] at h
      subst h
      exact .inr ⟨0, e.val, by simp [Instr.findNow, sameNow_keyEq hk h1 hq], ⟨e, rfl, fun n => (sameBits_key hk h1 hq n).1⟩, .cons ⟨(sameBits_key hk h1 hq 0).2, hv⟩ t⟩
    · rename_i hq
      split at h
      · rename_i r' hr
        simp only [Option.some.injEq] at h
        subst h
        rcases putKey_ok hk hkr hv (i + 1) t hr with ⟨h3, h4⟩ | ⟨j, u', h3, h4, h5⟩
        · exact .inl ⟨by simp [Instr.findNow, sameNow_keyEq hk h1 hq, h3], fun e' k1 k2 => .cons ⟨h1, h2⟩ (h4 e' k1 k2)⟩
        · refine .inr ⟨j + 1, u', by simp [Instr.findNow, sameNow_keyEq hk h1 hq, h3]; omega, by simpa using h4, ?_⟩
          rw [List.modify_succ_cons]
          exact .cons ⟨h1, h2⟩ h5
      · simp at h
    · simp at h

section
variable {P : Program} {tb : Tabs} (H : TabsTy P tb) {o : Oper} {β : Bnd} {F : Fr} {M : Mem} {w : World} {T : List AV} {a : Act} (hT : RL β F T a.tmps.toList) (S : Sim β F M w) {v : AV} {M' : Mem} {fi : FnI}
include H

theorem keyFit_of {kt : TypeId} {k : PV} {K : Value} (hr : RP F k K) (h : keyOk tb.ty kt k = true) : ∃ d, P.underlying kt = some d ∧ KeyFit d k K := by
  unfold keyOk at h
  split at h
  · rename_i q _ _ _ _ _ k' n hty
    obtain ⟨d, hd, hkd⟩ := und_of H hty
    cases hkd
    cases hr
    exact ⟨_, hd, .int ..⟩
  · rename_i s hty
    obtain ⟨d, hd, hkd⟩ := und_of H hty
    cases hkd
    cases hr
    exact ⟨_, hd, .str _⟩
  · simp at h

theorem run_checkKey {kt : TypeId} {d : TypeDesc} {k : PV} {K : Value} (hd : P.underlying kt = some d) (hf : KeyFit d k K) (b : Bool) (w : World) : (Instr.checkKey b 10000 kt K).run P w = .ok () w := by
  generalize h : 9999 = n
  have : (10000 : Nat) = n + 1 := by omega
  rw [this]
  cases hf <;> simp [Instr.checkKey, run_underlying hd]

include hT S

theorem out_makeMap {t : TypeId} (ho : o.op = .makeMap t none) (h : stepOp tb fi T M o.dst o.op = .val v M') : Out P o a.eval β F M w v M' := by
  rw [ho] at h
  simp only [stepOp] at h
  split at h
  · simp only [Res.val.injEq] at h
    obtain ⟨rfl, rfl⟩ := h
    obtain ⟨β', S', X, r⟩ := S.newMap (w1 := w.alloc (.map #[] 0)) rfl rfl rfl rfl
    exact ⟨β', F, _, _, .inl (by simp [execOp, ho, Instr.makeMap]), X, S', r⟩
  · simp at h

theorem out_lookup {t : TypeId} {x i : Operand} {ok : Bool} (ho : o.op = .lookup t x i ok) (h : stepOp tb fi T M o.dst o.op = .val v M') : Out P o a.eval β F M w v M' := by
  rw [ho] at h
  simp only [stepOp] at h
  split at h
  · rename_i kt e _ _ _ _ _ hty
    obtain ⟨d, hd, hkd⟩ := und_of H hty
    obtain ⟨rfl, _⟩ := hkd
    split at h
    · rename_i ti g k hte hx hi
      split at h
      · rename_i hko
        split at h
        · rename_i es hes
          have hg := getMap_some hes
          have rx := evalO_R hT x
          have ri := evalO_R hT i
          rw [hx] at rx
          rw [hi] at ri
          generalize hX : a.eval x = X at rx
          generalize hI : a.eval i = I at ri
          cases rx with
          | mp hβ =>
            rename_i b
            cases ri with
            | pv ri =>
              obtain ⟨ents, clock, hb, hF2⟩ := S.map g es b hg hβ
              obtain ⟨kd, hkd, hfit⟩ := keyFit_of H ri hko
              split at h
              · rename_i r hr
                simp only [Res.val.injEq] at h
                obtain ⟨rfl, rfl⟩ := h
                obtain ⟨r', h1, h2⟩ := findNow_ok hfit 0 hF2 hr
                obtain ⟨iz, z, z1, z2, z3, z4, z5, z6, z7, z8, z9, z10⟩ := zero_ok (β := β) (F := F) (w := w) H hT S hte
                have hget : (getObj b).run P w = .ok (.map ents clock) w := by simp [getObj, Sem.run, hb]
                have hfind : (Instr.findKey kt I ents.toList).run P w = .ok r' w := by simp [Instr.findKey, run_underlying hkd, h1]
                have hck := run_checkKey H hkd hfit ents.isEmpty w
                cases r with
                | none =>
                  cases r' with
                  | none =>
                    have z8' : RP F (zeroOf ti) z := by cases z8 with | pv h => exact h
                    refine ⟨β, F, w, if ok then .tuple #[z, .bool false] else z, .inl ?_, .refl .., S, ?_⟩
                    · simp [execOp, ho, Instr.lookup, run_underlying hd, hX, hI, hget, hck, hfind, z4]
                    · cases ok
                      · simpa using z8
                      · simp only [if_true, Option.getD_none, Option.isSome_none]
                        have : RPL F [zeroOf ti, .bool false] [z, .bool false] := .cons z8' (.cons (.bool _) .nil)
                        exact .pv (.tup rfl fun i h1 h2 => by simpa using F2.get this i h1 (by simpa using h2))
                  | some p => exact h2.elim
                | some u =>
                  cases r' with
                  | none => exact h2.elim
                  | some p =>
                    obtain ⟨j, U⟩ := p
                    have h2 : RP F u U := h2
                    refine ⟨β, F, w, if ok then .tuple #[U, .bool true] else U, .inl ?_, .refl .., S, ?_⟩
                    · simp [execOp, ho, Instr.lookup, run_underlying hd, hX, hI, hget, hck, hfind, z4]
                    · cases ok
                      · simpa using R.pv (β := β) h2
                      · simp only [if_true, Option.getD_some, Option.isSome_some]
                        have : RPL F [u, .bool true] [U, .bool true] := .cons h2 (.cons (.bool _) .nil)
                        exact .pv (.tup rfl fun i h1 h2 => by simpa using F2.get this i h1 (by simpa using h2))
              · simp at h
        · simp at h
      · simp at h
    · simp at h
  · simp at h

theorem out_mapUpdate {t : TypeId} {m k x : Operand} (ho : o.op = .mapUpdate t m k x ∨ o.op = .insert t m k x) (h : stepOp tb fi T M o.dst o.op = .val v M') : Out P o a.eval β F M w v M' := by
  have h : stepOp tb fi T M o.dst (.mapUpdate t m k x) = .val v M' := by
    rcases ho with ho | ho <;> rw [ho] at h <;> exact h
  have hex : execOp a.eval o = (do Instr.mapUpdate t (a.eval m) (a.eval k) (a.eval x); pure .skip) := by
    rcases ho with ho | ho <;> simp only [execOp, ho]
  simp only [stepOp] at h
  split at h
  · rename_i kt e _ _ _ _ _ hty
    obtain ⟨d, hd, hkd⟩ := und_of H hty
    obtain ⟨rfl, _⟩ := hkd
    split at h
    · rename_i g k' v' hm hk hv
      split at h
      · rename_i hko
        split at h
        · rename_i es hes
          have hg := getMap_some hes
          have rm := evalO_R hT m
          have rk := evalO_R hT k
          have rv := (evalO_R hT x).nrm
          rw [hm] at rm
          rw [hk] at rk
          rw [hv] at rv
          generalize a.eval m = X at rm hex
          generalize a.eval k = K at rk hex
          generalize a.eval x = V at rv hex
          cases rm with
          | mp hβ =>
            rename_i b
            cases rk with
            | pv rk =>
              cases rv with
              | pv rv =>
                obtain ⟨ents, clock, hb, hF2⟩ := S.map g es b hg hβ
                obtain ⟨kd, hkd, hfit⟩ := keyFit_of H rk hko
                split at h
                · rename_i es' hput
                  simp only [Res.val.injEq] at h
                  obtain ⟨rfl, rfl⟩ := h
                  have hget : (getObj b).run P w = .ok (.map ents clock) w := by simp [getObj, Sem.run, hb]
                  have hset : ∀ ob, (setObj b ob).run P w = .ok () { w with heap := w.heap.setIfInBounds b ob } := fun ob => by simp [setObj, Sem.run, hb]
                  have hck := run_checkKey H hkd hfit false w
                  rcases putKey_ok hfit rk rv 0 hF2 hput with ⟨h1, h2⟩ | ⟨j, u, h1, ⟨e0, h3, h4⟩, h5⟩
                  · obtain ⟨S', X⟩ := S.setMap (w1 := { w with heap := w.heap.setIfInBounds b (.map (ents.push { key := K, val := V, born := clock }) (clock + 1)) }) hg hβ hb rfl rfl rfl rfl (by simpa using h2 { key := K, val := V, born := clock } rfl rfl)
                    refine ⟨β, F, _, undef, .inr ⟨?_, rfl⟩, X, S', .top _⟩
                    have hfind : (Instr.findKey kt K ents.toList).run P w = .ok none w := by simp [Instr.findKey, run_underlying hkd, h1]
                    rw [hex]
                    simp [Instr.mapUpdate, run_underlying hd, hget, hck, hfind, hset]
                  · obtain ⟨S', X⟩ := S.setMap (w1 := { w with heap := w.heap.setIfInBounds b (.map (ents.modify j fun e => { e with key := K, val := V }) clock) }) hg hβ hb rfl rfl rfl rfl (by rw [Array.toList_modify]; exact h5)
                    refine ⟨β, F, _, undef, .inr ⟨?_, rfl⟩, X, S', .top _⟩
                    have hfind : (Instr.findKey kt K ents.toList).run P w = .ok (some (j, u)) w := by simp [Instr.findKey, run_underlying hkd, h1]
                    have he : ents[j]? = some e0 := by simpa using h3
                    rw [hex]
                    simp [Instr.mapUpdate, run_underlying hd, hget, hck, hfind, he, Instr.keyThatStays, h4, hset]
                · simp at h
        · simp at h
      · simp at h
    · simp at h
  · simp at h
end
end Go.Vm
