/- constablelaw24.RunCounter: for all numbers it returns true, and its arguments read as they did. Conditions: those of the given row and of its tied card alone (the listed variables hold what the program's text lays). -/
import Derived.Test.YtiajhfodfhmfaaaGreatDoorRunCounterRun
import Derived.Test.YtiajhfodfhmfaaaGreatDoorRunCounterFacts
import Derived.Test.YtiajhfodfhmfaaaGreatDoorRunCounterGoes
import Derived.Test.YtiajhfodfhmfaaaGreatDoorCards
import Derived.Test.YtiajhfodfhmfaaaGreatDoorTie
import Derived.ProofKit
import Derived.OpenShut
import Derived.LaidMore
import Derived.Lay
import Derived.SevenTiedAt
import Derived.Stop.Joined
namespace Go.Proofs.YtiajhfodfhmfaaaGreatDoor
open Go.ChangeShapes Go.WideShapes Go.ChangeAt Go.RowKit
namespace RunCounter

theorem own : ownKnob Tryz.prog.godebug = none := by kernel_rfl
def laidL : List (String × DataW Unit) := Rows.runCounterRow.laid

theorem kept {W w' : World} (h : Go.Vm.After W w') (may : MemPlace → Prop) : W.keptBut w' may := by
  refine ⟨h.os, h.output, fun i hi => ?_⟩
  rw [h.heap i hi]
  cases W.heap[i]? with
  | none => rfl
  | some o => cases o with
    | cells c t fr => exact ⟨rfl, rfl, rfl, fun _ _ => rfl⟩
    | map es clock => exact .inr ⟨rfl, rfl⟩
    | _ => rfl

set_option maxRecDepth 100000 in
theorem lifted (os : Os) (started : os.Started) (H : Type) (enc : TypeId × Value → H) :
    ReturnsInHanded {} Tryz.checked os 5 .any (fun w args => (Rows.runCounterSpec.pre enc Tryz.prog Tryz.f5 [] false w args ∧ laidMetH Tryz.prog laidL w) ∧ sizedMet enc Tryz.prog Tryz.f5 (OpenSpec.ofChange Rows.runCounterSpec) false w args)
      (Rows.runCounterSpec.post enc Tryz.prog Tryz.f5 false true false false) := by
  refine returnsInHanded_of_change_and (C := Tryz.checked) (X := fun w _ => laidMetH Tryz.prog laidL w) (fun _ _ _ hh h => h.of_heap hh) own started (by kernel_rfl) Tryz.func5
    (ChangeSpec.witness_shaped (enc := enc) (C := Tryz.checked) (os := os) (X := fun w _ => laidMetH Tryz.prog laidL w) false (World.laidAll Tryz.prog os laidL) #[.int .i64 0, .int .i64 0] 8 (World.laidAll_os _ _ _)
      (World.shaped_of_ZipB (by kernel_rfl) (by kernel_rfl)) (by kernel_rfl) (by kernel_rfl) (by kernel_rfl)
      (by rw [MakeChecks.laidMetH_plain _ _ _ (by kernel_rfl)]; exact laidMet_laidAll _ (by kernel_rfl) (by kernel_rfl))) ?_
  intro W base args ds gs before hval0 hW hc _ hL _
  have hval : ∀ (j : Nat) t v, Tryz.f5.params[j]? = some t → args[j]? = some v → Value.okWide Tryz.prog W .any base t v := hval0
  have hW' := hW
  obtain ⟨p, q, hA0, hV, rfl, _, _⟩ := hW
  have hA : DataW.TrodAll enc Tryz.prog W 0 (fun _ => true) true Tryz.f5.params.toList args.toList ds p := hA0
  rw [Tryz.params5] at hA hval
  obtain ⟨v0, v1, d0, d1, p0, p1, rfl, rfl, rfl, h0, h1⟩ := trodAll_two hA
  obtain ⟨rfl, rfl⟩ := trodVars_none hV
  obtain ⟨x, rfl, rfl, rfl, wx⟩ := open_int Tryz.underlying3 (hval 0 3 v0 rfl rfl) h0
  obtain ⟨y, rfl, rfl, rfl, wy⟩ := open_int Tryz.underlying3 (hval 1 3 v1 rfl rfl) h1
  simp only [List.append_nil] at hW'
  refine (calls x y W).mono fun e W' ⟨he, hw⟩ => ?_
  subst he
  exact ⟨_, rfl, ⟨_, _, _, [], [], [], hW', trodAll_mk1 (shut_bool Tryz.underlying4 _), trodAll_mk2 (shut_int Tryz.underlying3 wx) (shut_int Tryz.underlying3 wy), rfl, kept hw _, fun h => by cases h⟩⟩

theorem inst : Tryz.f5.isInstance Tryz.prog Rows.runCounterRow.origin Rows.runCounterRow.targs := of_decide_eq_true (by kernel_rfl)
theorem wrapper : Tryz.f5.isWrapper Tryz.prog Rows.runCounterRow.wrapper Rows.runCounterRow.mainSum := by
  unfold Func.isWrapper; first | (rw [if_pos (by decide +kernel)]; kernel_rfl) | (rw [if_neg (by decide +kernel)]; exact ⟨rfl, rfl⟩)
theorem holds : Rows.RunCounterSaid :=
  OpenClaim.holds_of_wide (p := Tryz.pinned) (s := Rows.runCounterSpec) (c := Rows.runCounterRow) 5 Tryz.f5 rfl rfl rfl rfl rfl rfl rfl ⟨rfl, rfl, rfl, rfl, rfl⟩ rfl rfl rfl rfl rfl named3 Tryz.func5 closed
    inst wrapper (fun os started H enc _ => lifted os started H enc)

theorem wfT : Rows.runCounterRow.wfByText (OpenSpec.ofChange Rows.runCounterSpec) = true := by kernel_rfl
theorem mainT : Tryz.prog.mainIs = some (true, "58a362969a0f91a04b3b364fbec46e84572a79090011637bb8decf5a7299017d".toList) := by kernel_rfl
theorem looksT : true = Tryz.prog.looks [] := by kernel_rfl
theorem stands : ([3].all fun u => !Tryz.prog.wantsStandIn u) = true := by kernel_rfl
theorem card_holds : Rows.RunCounterCardSaid :=
  Claim7.holds_tied_plain_at .later (p := Tryz.pinned) (s := OpenSpec.ofChange Rows.runCounterSpec) (c := Rows.runCounterRow) [] [.data, .data, .data, .data, .sentinel, .sentinel, .pinned] true (true, "58a362969a0f91a04b3b364fbec46e84572a79090011637bb8decf5a7299017d") true holds (fun _ h => by cases h) wfT (fun _ h => by cases h) runCounter_row_tie rfl ⟨rfl, rfl⟩ mainT rfl
    (fun f fn hf hfn => by
      obtain rfl : f = 5 := Option.some.inj (named3.symm.trans hf) |>.symm
      obtain rfl : fn = Tryz.f5 := (Option.some.inj (Tryz.func5.symm.trans hfn)).symm
      exact ⟨looksT, fun j t ht => by
        have ht' : Tryz.f5.params[j]? = some t := ht
        rw [Tryz.params5] at ht'
        have hm : t ∈ [3, 3] := by simpa using Array.mem_of_getElem? ht'
        have hm' : t ∈ [3] := by simpa using hm
        exact (show Tryz.prog.wantsStandIn t = false by simpa using List.all_eq_true.1 stands t hm')⟩)
    goesT
#print axioms card_holds
end RunCounter
end Go.Proofs.YtiajhfodfhmfaaaGreatDoor
