/- Calls of this program, run in the kernel. -/
import Derived.Test.YtiajhfodfhmfaaaGreatDoorSVals
set_option maxRecDepth 100000
namespace Go.Proofs.YtiajhfodfhmfaaaGreatDoor
open Go.Vm Go.Proofs

theorem Se6 : frozenP (runFE Stb0 glOf 5000 152 (Sa6.map .pv) []) = some Sb6 := by kernel_rfl
theorem Se9 : frozenP (runFE Stb1 glOf 5000 130 (Sa9.map .pv) []) = some Sb9 := by kernel_rfl
theorem Se10 : frozenP (runFE Stb0 glOf 5000 152 (Sa10.map .pv) []) = some Sb10 := by kernel_rfl
theorem Se24 : frozenP (runFE Stb3 glOf 5000 135 (Sa24.map .pv) []) = some Sb24 := by kernel_rfl
theorem Se28 : frozenP (runFE Stb0 glOf 5000 152 (Sa28.map .pv) []) = some Sb28 := by kernel_rfl
theorem Se34 : frozenP (runFE Stb5 glOf 5000 35 (Sa34.map .pv) []) = some Sb34 := by kernel_rfl
theorem Se36 : frozenP (runFE Stb1 glOf 5000 130 (Sa36.map .pv) []) = some Sb36 := by kernel_rfl
theorem Se37 : frozenP (runFE Stb2 glOf 5000 143 (Sa37.map .pv) []) = some Sb37 := by kernel_rfl
theorem Se40 : frozenP (runFE Stb4 glOf 5000 80 (Sa40.map .pv) []) = some Sb40 := by kernel_rfl
theorem Se46 : frozenP (runFE Stb5 glOf 5000 226 (Sa46.map .pv) []) = some Sb46 := by kernel_rfl
theorem Se47 : frozenP (runFE Stb0 glOf 5000 93 (Sa47.map .pv) []) = some Sb47 := by kernel_rfl
theorem Se48 : frozenP (runFE Stb0 glOf 5000 93 (Sa48.map .pv) []) = some Sb48 := by kernel_rfl
theorem Se78 : frozenP (runFE Stb3 glOf 5000 338 (Sa78.map .pv) []) = some Sb78 := by kernel_rfl
theorem Se88 : frozenP (runFE Stb2 glOf 5000 90 (Sa88.map .pv) []) = some Sb88 := by kernel_rfl
theorem Se89 : frozenP (runFE Stb3 glOf 5000 87 (Sa89.map .pv) []) = some Sb89 := by kernel_rfl
theorem Se92 : frozenP (runFE Stb3 glOf 5000 338 (Sa92.map .pv) []) = some Sb92 := by kernel_rfl
theorem Se95 : frozenP (runFE Stb8 glOf 5000 413 (Sa95.map .pv) []) = some Sb95 := by kernel_rfl
theorem Se97 : frozenP (runFE Stb10 glOf 5000 7 (Sa97.map .pv) []) = some Sb97 := by kernel_rfl
theorem Se101 : frozenP (runFE Stb7 glOf 5000 117 (Sa101.map .pv) []) = some Sb101 := by kernel_rfl
theorem Se114 : frozenP (runFE Stb10 glOf 5000 7 (Sa114.map .pv) []) = some Sb114 := by kernel_rfl
theorem Se118 : frozenP (runFE Stb3 glOf 5000 338 (Sa118.map .pv) []) = some Sb118 := by kernel_rfl
theorem Se120 : frozenP (runFE Stb3 glOf 5000 338 (Sa120.map .pv) []) = some Sb120 := by kernel_rfl
theorem Se122 : frozenP (runFE Stb10 glOf 5000 7 (Sa122.map .pv) []) = some Sb122 := by kernel_rfl
theorem Se126 : frozenP (runFE Stb3 glOf 5000 338 (Sa126.map .pv) []) = some Sb126 := by kernel_rfl
theorem Se130 : frozenP (runFE Stb2 glOf 5000 90 (Sa130.map .pv) []) = some Sb130 := by kernel_rfl
theorem Se135 : frozenP (runFE Stb3 glOf 5000 338 (Sa135.map .pv) []) = some Sb135 := by kernel_rfl
theorem Se136 : frozenP (runFE Stb3 glOf 5000 338 (Sa136.map .pv) []) = some Sb136 := by kernel_rfl
theorem Se139 : frozenP (runFE Stb3 glOf 5000 87 (Sa139.map .pv) []) = some Sb139 := by kernel_rfl
theorem Se150 : frozenP (runFE Stb8 glOf 5000 413 (Sa150.map .pv) []) = some Sb150 := by kernel_rfl
theorem Se152 : frozenP (runFE Stb9 glOf 5000 19 (Sa152.map .pv) []) = some Sb152 := by kernel_rfl
theorem Se158 : frozenP (runFE Stb3 glOf 5000 87 (Sa158.map .pv) []) = some Sb158 := by kernel_rfl
theorem Se159 : frozenP (runFE Stb10 glOf 5000 7 (Sa159.map .pv) []) = some Sb159 := by kernel_rfl
end Go.Proofs.YtiajhfodfhmfaaaGreatDoor
