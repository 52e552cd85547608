/- The tables of this program are right: each type, each function, looked at in the kernel. -/
import Derived.Test.YtiajhfodfhmfaaaGreatDoorWTabs
set_option maxRecDepth 100000
set_option linter.unusedSectionVars false
namespace Go.Proofs.YtiajhfodfhmfaaaGreatDoor
open Go.Vm Go.Proofs

theorem tyAll : allTo (fun t => match tyOf t with | some ti => tyOk Tryz.prog t ti | none => true) 499 = true := by kernel_rfl
variable [SymV]
theorem tyAt (t : TypeId) (ti : TI) (h : tyOf t = some ti) : tyOk Tryz.prog t ti = true := by
  by_cases hl : t < 499
  · have := allTo_spec tyAll t hl
    simp only [h] at this
    exact this
  · have e : tyOf t = none := by
      unfold tyOf
      have : Nat.blt t 499 = false := by rw [← Bool.not_eq_true, Nat.blt_eq]; exact hl
      rw [this]
      rfl
    rw [e] at h
    cases h
theorem tyRight : TabsTy Tryz.prog tb0 := tabsTy_of tyAt

end Go.Proofs.YtiajhfodfhmfaaaGreatDoor
