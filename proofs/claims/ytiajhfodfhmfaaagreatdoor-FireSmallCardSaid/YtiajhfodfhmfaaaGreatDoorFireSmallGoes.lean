/- The row of FireSmall starts no goroutine: no function of the whole program does. -/
import Derived.Test.YtiajhfodfhmfaaaGreatDoorFireSmallFacts
import Derived.SevenTiedAt
set_option maxRecDepth 100000
namespace Go.Proofs.YtiajhfodfhmfaaaGreatDoor
namespace FireSmall
theorem goes_false {P : Program} (h : P.funcs.any Func.goes = false) (f : FuncId) : P.goes f = false := by
  have k : ((P.closure f).any fun g => (P.funcs[g]?).any Func.goes) = false := by
    rw [List.any_eq_false]
    intro g _ hg
    cases hf : P.funcs[g]? with
    | none => rw [hf] at hg; cases hg
    | some fn =>
      rw [hf] at hg
      obtain ⟨hl, hfn⟩ := Array.getElem?_eq_some_iff.1 hf
      have h2 := (Array.any_eq_false.1 h) g hl
      rw [hfn] at h2
      exact h2 hg
  unfold Program.goes
  rw [k, h]
  simp
theorem none_goes : Tryz.prog.funcs.any Func.goes = false := by kernel_rfl
theorem goesT : false = Rows.fireSmallRow.goesBy Tryz.prog := by
  unfold OpenClaim.goesBy Program.goesAt Program.goesFrom
  rw [named3]
  have hs : Rows.fireSmallRow.start = .entering := rfl
  rw [hs]
  simp [goes_false none_goes]
end FireSmall
end Go.Proofs.YtiajhfodfhmfaaaGreatDoor
