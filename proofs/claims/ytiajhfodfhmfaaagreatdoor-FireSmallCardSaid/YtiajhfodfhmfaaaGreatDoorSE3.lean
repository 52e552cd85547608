/- Calls of this program, run in the kernel. -/
import Derived.Test.YtiajhfodfhmfaaaGreatDoorSVals
set_option maxRecDepth 100000
namespace Go.Proofs.YtiajhfodfhmfaaaGreatDoor
open Go.Vm Go.Proofs

theorem Se2 : frozenP (runFE Stb0 glOf 5000 152 (Sa2.map .pv) []) = some Sb2 := by kernel_rfl
theorem Se7 : frozenP (runFE Stb1 glOf 5000 130 (Sa7.map .pv) []) = some Sb7 := by kernel_rfl
theorem Se19 : frozenP (runFE Stb4 glOf 5000 80 (Sa19.map .pv) []) = some Sb19 := by kernel_rfl
theorem Se23 : frozenP (runFE Stb2 glOf 5000 143 (Sa23.map .pv) []) = some Sb23 := by kernel_rfl
theorem Se27 : frozenP (runFE Stb5 glOf 5000 35 (Sa27.map .pv) []) = some Sb27 := by kernel_rfl
theorem Se29 : frozenP (runFE Stb1 glOf 5000 130 (Sa29.map .pv) []) = some Sb29 := by kernel_rfl
theorem Se32 : frozenP (runFE Stb2 glOf 5000 138 (Sa32.map .pv) []) = some Sb32 := by kernel_rfl
theorem Se33 : frozenP (runFE Stb4 glOf 5000 80 (Sa33.map .pv) []) = some Sb33 := by kernel_rfl
theorem Se41 : frozenP (runFE Stb5 glOf 5000 35 (Sa41.map .pv) []) = some Sb41 := by kernel_rfl
theorem Se42 : frozenP (runFE Stb0 glOf 5000 152 (Sa42.map .pv) []) = some Sb42 := by kernel_rfl
theorem Se52 : frozenP (runFE Stb6 glOf 5000 170 (Sa52.map .pv) []) = some Sb52 := by kernel_rfl
theorem Se57 : frozenP (runFE Stb7 glOf 5000 117 (Sa57.map .pv) []) = some Sb57 := by kernel_rfl
theorem Se67 : frozenP (runFE Stb3 glOf 5000 338 (Sa67.map .pv) []) = some Sb67 := by kernel_rfl
theorem Se69 : frozenP (runFE Stb2 glOf 5000 90 (Sa69.map .pv) []) = some Sb69 := by kernel_rfl
theorem Se70 : frozenP (runFE Stb3 glOf 5000 87 (Sa70.map .pv) []) = some Sb70 := by kernel_rfl
theorem Se77 : frozenP (runFE Stb3 glOf 5000 338 (Sa77.map .pv) []) = some Sb77 := by kernel_rfl
theorem Se85 : frozenP (runFE Stb3 glOf 5000 338 (Sa85.map .pv) []) = some Sb85 := by kernel_rfl
theorem Se86 : frozenP (runFE Stb3 glOf 5000 338 (Sa86.map .pv) []) = some Sb86 := by kernel_rfl
theorem Se98 : frozenP (runFE Stb11 glOf 5000 10 (Sa98.map .pv) []) = some Sb98 := by kernel_rfl
theorem Se104 : frozenP (runFE Stb0 glOf 5000 152 (Sa104.map .pv) []) = some Sb104 := by kernel_rfl
theorem Se110 : frozenP (runFE Stb3 glOf 5000 338 (Sa110.map .pv) []) = some Sb110 := by kernel_rfl
theorem Se112 : frozenP (runFE Stb2 glOf 5000 90 (Sa112.map .pv) []) = some Sb112 := by kernel_rfl
theorem Se116 : frozenP (runFE Stb3 glOf 5000 87 (Sa116.map .pv) []) = some Sb116 := by kernel_rfl
theorem Se119 : frozenP (runFE Stb3 glOf 5000 338 (Sa119.map .pv) []) = some Sb119 := by kernel_rfl
theorem Se132 : frozenP (runFE Stb3 glOf 5000 87 (Sa132.map .pv) []) = some Sb132 := by kernel_rfl
theorem Se133 : frozenP (runFE Stb3 glOf 5000 338 (Sa133.map .pv) []) = some Sb133 := by kernel_rfl
theorem Se137 : frozenP (runFE Stb8 glOf 5000 413 (Sa137.map .pv) []) = some Sb137 := by kernel_rfl
theorem Se143 : frozenP (runFE Stb3 glOf 5000 338 (Sa143.map .pv) []) = some Sb143 := by kernel_rfl
theorem Se144 : frozenP (runFE Stb3 glOf 5000 338 (Sa144.map .pv) []) = some Sb144 := by kernel_rfl
theorem Se146 : frozenP (runFE Stb10 glOf 5000 7 (Sa146.map .pv) []) = some Sb146 := by kernel_rfl
theorem Se154 : frozenP (runFE Stb10 glOf 5000 7 (Sa154.map .pv) []) = some Sb154 := by kernel_rfl
theorem Se156 : frozenP (runFE Stb3 glOf 5000 87 (Sa156.map .pv) []) = some Sb156 := by kernel_rfl
end Go.Proofs.YtiajhfodfhmfaaaGreatDoor
