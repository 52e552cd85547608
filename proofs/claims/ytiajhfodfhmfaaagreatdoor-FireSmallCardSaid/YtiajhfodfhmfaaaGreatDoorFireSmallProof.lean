/- constablelaw23.FireSmall: for all lists of bools and all numbers it returns true, and its arguments read as they did. Conditions: those of the given row and of its tied card alone (the listed variables hold what the program's text lays). -/
import Derived.Test.YtiajhfodfhmfaaaGreatDoorFireSmallRun
import Derived.Test.YtiajhfodfhmfaaaGreatDoorFireSmallFacts
import Derived.Test.YtiajhfodfhmfaaaGreatDoorFireSmallGoes
import Derived.Test.YtiajhfodfhmfaaaGreatDoorCards
import Derived.Test.YtiajhfodfhmfaaaGreatDoorTie
import Derived.ProofKit
import Derived.OpenShut
import Derived.LaidMore
import Derived.Lay
import Derived.SevenTiedAt
import Derived.Stop.Joined
namespace Go.Proofs.YtiajhfodfhmfaaaGreatDoor
open Go.ChangeShapes Go.WideShapes Go.ChangeAt Go.RowKit
namespace FireSmall

theorem own : ownKnob Tryz.prog.godebug = none := by kernel_rfl
def laidL : List (String × DataW Unit) := Rows.fireSmallRow.laid

theorem laidOut : laidOutB Tryz.prog = true := j1
theorem below {W w' : World} (h : Go.Vm.After W w') : Below W.heap.size W w' := ⟨h.os, h.tape, h.output, h.size, h.heap⟩
/-- A slice of bools that came in. -/
theorem opened {H : Type} {enc : TypeId × Value → H} {W : World} {fuel len cap : Nat} {a : Option Addr} {x : DataW H × List MemPlace}
    (h : DataW.trod enc Tryz.prog W 0 (fun _ => true) true fuel 54 [.slice a len cap] = some x) :
    ∃ (l : List Bool) (b o : Nat), l.length = len ∧ len ≤ cap ∧ (0 < len → a = some ⟨b, o, none⟩) ∧ ∀ i (hi : i < l.length), W.cell? ⟨b, o + i, none⟩ = some (.bool l[i]) := by
  rcases DataW.trod_slice Tryz.underlying54 h with ⟨hcs, _⟩ | ⟨a', len', cap', elems, rest, n, _, hcs, _, hb, hl, hm, hlen, hel, _, _⟩
  · simp only [List.cons.injEq, Value.slice.injEq, and_true] at hcs
    obtain ⟨rfl, rfl, rfl⟩ := hcs
    exact ⟨[], 0, 0, rfl, Nat.le_refl _, fun h => absurd h (Nat.lt_irrefl _), fun i hi => by simp at hi⟩
  · simp only [List.cons.injEq, Value.slice.injEq, and_true] at hcs
    obtain ⟨rfl, rfl, rfl⟩ := hcs
    have hc : Tryz.prog.cellsOf 4 = 1 := by kernel_rfl
    have each : ∀ i, i < len → ∃ b, W.cell? (a'.add i) = some (.bool b) := by
      intro i hi
      have h1 := hel i hi
      rw [List.getElem?_eq_getElem (by omega), hc, Nat.mul_one, Option.bind_eq_some_iff] at h1
      obtain ⟨cs, h2, h3⟩ := h1
      obtain ⟨b, rfl, _⟩ := DataW.trod_bool Tryz.underlying4 h3
      exact ⟨b, cell_of_cells?_one h2⟩
    have spot : 0 < len → a'.spot = none := by
      intro h0
      obtain ⟨b, hb⟩ := each 0 h0
      have e : a'.add 0 = a' := rfl
      rw [e] at hb
      cases hs : a'.spot with
      | none => rfl
      | some s =>
        unfold World.cell? at hb
        simp only [hs, Option.isSome_some, if_true] at hb
        split at hb <;> cases hb
    have addr : ∀ i, i < len → a'.add i = ⟨a'.block, a'.off + i, none⟩ := by
      intro i hi
      have hs := spot (by omega)
      unfold Addr.add
      by_cases h0 : i = 0
      · subst h0
        simp only [if_true, Nat.add_zero]
        rw [← hs]
      · simp [h0]
    refine ⟨(List.range len).map fun i => (match W.cell? (a'.add i) with | some (.bool b) => b | _ => false), a'.block, a'.off, by simp, hl, fun h0 => ?_, fun i hi => ?_⟩
    · have := addr 0 h0
      have e : a'.add 0 = a' := rfl
      rw [e, Nat.add_zero] at this
      rw [← this]
    · have hi' : i < len := by simpa using hi
      obtain ⟨b, hb⟩ := each i hi'
      rw [← addr i hi', hb]
      simp [hb]

theorem kept {W w' : World} (h : Go.Vm.After W w') (may : MemPlace → Prop) : W.keptBut w' may := by
  refine ⟨h.os, h.output, fun i hi => ?_⟩
  rw [h.heap i hi]
  cases W.heap[i]? with
  | none => rfl
  | some o => cases o with
    | cells c t fr => exact ⟨rfl, rfl, rfl, fun _ _ => rfl⟩
    | map es clock => exact .inr ⟨rfl, rfl⟩
    | _ => rfl

set_option maxRecDepth 100000 in
theorem lifted (os : Os) (started : os.Started) (H : Type) (enc : TypeId × Value → H) :
    ReturnsInHanded {} Tryz.checked os 4 .any (fun w args => (Rows.fireSmallSpec.pre enc Tryz.prog Tryz.f4 [] false w args ∧ laidMetH Tryz.prog laidL w) ∧ sizedMet enc Tryz.prog Tryz.f4 (OpenSpec.ofChange Rows.fireSmallSpec) false w args)
      (Rows.fireSmallSpec.post enc Tryz.prog Tryz.f4 false true false false) := by
  refine returnsInHanded_of_change_and (C := Tryz.checked) (X := fun w _ => laidMetH Tryz.prog laidL w) (fun _ _ _ hh h => h.of_heap hh) own started (by kernel_rfl) Tryz.func4
    (ChangeSpec.witness_shaped (enc := enc) (C := Tryz.checked) (os := os) (X := fun w _ => laidMetH Tryz.prog laidL w) false (World.laidAll Tryz.prog os laidL) #[.slice none 0 0, .int .i64 0] 8 (World.laidAll_os _ _ _)
      (World.shaped_of_ZipB (by kernel_rfl) (by kernel_rfl)) (by kernel_rfl) (by kernel_rfl) (by kernel_rfl)
      (by rw [MakeChecks.laidMetH_plain _ _ _ (by kernel_rfl)]; exact laidMet_laidAll _ (by kernel_rfl) (by kernel_rfl))) ?_
  intro W base args ds gs before hval0 hW hc _ hL _
  have hval : ∀ (j : Nat) t v, Tryz.f4.params[j]? = some t → args[j]? = some v → Value.okWide Tryz.prog W .any base t v := hval0
  have hW' := hW
  obtain ⟨p, q, hA0, hV, rfl, _, _⟩ := hW
  have hA : DataW.TrodAll enc Tryz.prog W 0 (fun _ => true) true Tryz.f4.params.toList args.toList ds p := hA0
  rw [Tryz.params4] at hA hval
  obtain ⟨v0, v1, d0, d1, p0, p1, rfl, rfl, rfl, h0, h1⟩ := trodAll_two hA
  obtain ⟨rfl, rfl⟩ := trodVars_none hV
  obtain ⟨y, rfl, rfl, rfl, wy⟩ := open_int Tryz.underlying3 (hval 1 3 v1 rfl rfl) h1
  obtain ⟨a, len, cap, rfl⟩ := okWide_slice Tryz.underlying54 (hval 0 54 v0 rfl rfl)
  have h0' := h0
  obtain ⟨fuel, hf⟩ := h0
  have hf' : DataW.trod enc Tryz.prog W 0 (fun _ => true) true fuel 54 [.slice a len cap] = some (d0, p0) := hf
  obtain ⟨l, b, o, hl, hcap, ha, hcell⟩ := opened hf'
  simp only [List.append_nil] at hW'
  have hlt : ∀ x ∈ p0, x.block < W.heap.size := fun x hx => hW'.lt x hx
  subst hl
  refine (calls l y a cap W b o hcap ha hcell).mono fun e W' ⟨he, hw⟩ => ?_
  subst he
  have hback := Below.trod laidOut (show Tryz.prog.readableRec 54 = true by kernel_rfl) (show 54 < Tryz.prog.types.size from of_decide_eq_true (by kernel_rfl)) h0' (below hw) hlt
  exact ⟨_, rfl, ⟨_, _, _, [], p0 ++ [], [], hW', trodAll_mk1 (shut_bool Tryz.underlying4 _), trodAll_mk2 hback (shut_int Tryz.underlying3 wy), rfl, kept hw _, fun h => by cases h⟩⟩

theorem inst : Tryz.f4.isInstance Tryz.prog Rows.fireSmallRow.origin Rows.fireSmallRow.targs := of_decide_eq_true (by kernel_rfl)
theorem wrapper : Tryz.f4.isWrapper Tryz.prog Rows.fireSmallRow.wrapper Rows.fireSmallRow.mainSum := by
  unfold Func.isWrapper; first | (rw [if_pos (by decide +kernel)]; kernel_rfl) | (rw [if_neg (by decide +kernel)]; exact ⟨rfl, rfl⟩)
theorem holds : Rows.FireSmallSaid :=
  OpenClaim.holds_of_wide (p := Tryz.pinned) (s := Rows.fireSmallSpec) (c := Rows.fireSmallRow) 4 Tryz.f4 rfl rfl rfl rfl rfl rfl rfl ⟨rfl, rfl, rfl, rfl, rfl⟩ rfl rfl rfl rfl rfl named3 Tryz.func4 closed
    inst wrapper (fun os started H enc _ => lifted os started H enc)

theorem wfT : Rows.fireSmallRow.wfByText (OpenSpec.ofChange Rows.fireSmallSpec) = true := by kernel_rfl
theorem mainT : Tryz.prog.mainIs = some (true, "58a362969a0f91a04b3b364fbec46e84572a79090011637bb8decf5a7299017d".toList) := by kernel_rfl
theorem looksT : true = Tryz.prog.looks [] := by kernel_rfl
theorem stands : ([54, 3].all fun u => !Tryz.prog.wantsStandIn u) = true := by kernel_rfl
theorem card_holds : Rows.FireSmallCardSaid :=
  Claim7.holds_tied_plain_at .later (p := Tryz.pinned) (s := OpenSpec.ofChange Rows.fireSmallSpec) (c := Rows.fireSmallRow) [] [.data, .data, .data, .data, .sentinel, .sentinel, .pinned] true (true, "58a362969a0f91a04b3b364fbec46e84572a79090011637bb8decf5a7299017d") true holds (fun _ h => by cases h) wfT (fun _ h => by cases h) fireSmall_row_tie rfl ⟨rfl, rfl⟩ mainT rfl
    (fun f fn hf hfn => by
      obtain rfl : f = 4 := Option.some.inj (named3.symm.trans hf) |>.symm
      obtain rfl : fn = Tryz.f4 := (Option.some.inj (Tryz.func4.symm.trans hfn)).symm
      exact ⟨looksT, fun j t ht => by
        have ht' : Tryz.f4.params[j]? = some t := ht
        rw [Tryz.params4] at ht'
        have hm : t ∈ [54, 3] := by simpa using Array.mem_of_getElem? ht'
        exact (show Tryz.prog.wantsStandIn t = false by simpa using List.all_eq_true.1 stands t hm)⟩)
    goesT
#print axioms card_holds
end FireSmall
end Go.Proofs.YtiajhfodfhmfaaaGreatDoor
