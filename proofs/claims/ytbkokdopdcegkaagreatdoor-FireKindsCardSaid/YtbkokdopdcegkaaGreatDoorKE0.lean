/- Calls of this program, run in the kernel. -/
import Derived.Test.YtbkokdopdcegkaaGreatDoorKVals
set_option maxRecDepth 100000
namespace Go.Proofs.YtbkokdopdcegkaaGreatDoor
open Go.Vm Go.Proofs

theorem Ke71 : frozenP (runFE Ktb1 glOf 5000 24 (Ka71.map .pv) []) = some Kb71 := by kernel_rfl
end Go.Proofs.YtbkokdopdcegkaaGreatDoor
