/- Calls of this program, run in the kernel. -/
import Derived.Test.YtiajhfodfhmfaaaGreatDoorSVals
set_option maxRecDepth 100000
namespace Go.Proofs.YtiajhfodfhmfaaaGreatDoor
open Go.Vm Go.Proofs

theorem Se1 : frozenP (runFE Stb1 glOf 5000 15 (Sa1.map .pv) []) = some Sb1 := by kernel_rfl
end Go.Proofs.YtiajhfodfhmfaaaGreatDoor
