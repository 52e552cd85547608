/- Calls of this program, run in the kernel. -/
import Derived.Test.YtiajhfodfhmfaaaGreatDoorCVals
set_option maxRecDepth 100000
namespace Go.Proofs.YtiajhfodfhmfaaaGreatDoor
open Go.Vm Go.Proofs

theorem Ce57 : frozenP (runFE Ctb1 glOf 5000 15 (Ca57.map .pv) []) = some Cb57 := by kernel_rfl
end Go.Proofs.YtiajhfodfhmfaaaGreatDoor
