/- Calls of this program, run in the kernel. -/
import Derived.Test.YtiajhfodfhmfaaaGreatDoorSVals
set_option maxRecDepth 100000
namespace Go.Proofs.YtiajhfodfhmfaaaGreatDoor
open Go.Vm Go.Proofs

theorem Se3 : frozenP (runFE Stb1 glOf 5000 130 (Sa3.map .pv) []) = some Sb3 := by kernel_rfl
theorem Se13 : frozenP (runFE Stb1 glOf 5000 130 (Sa13.map .pv) []) = some Sb13 := by kernel_rfl
theorem Se14 : frozenP (runFE Stb0 glOf 5000 261 (Sa14.map .pv) []) = some Sb14 := by kernel_rfl
theorem Se16 : frozenP (runFE Stb3 glOf 5000 135 (Sa16.map .pv) []) = some Sb16 := by kernel_rfl
theorem Se17 : frozenP (runFE Stb1 glOf 5000 194 (Sa17.map .pv) []) = some Sb17 := by kernel_rfl
theorem Se26 : frozenP (runFE Stb4 glOf 5000 80 (Sa26.map .pv) []) = some Sb26 := by kernel_rfl
theorem Se30 : frozenP (runFE Stb2 glOf 5000 143 (Sa30.map .pv) []) = some Sb30 := by kernel_rfl
theorem Se38 : frozenP (runFE Stb3 glOf 5000 135 (Sa38.map .pv) []) = some Sb38 := by kernel_rfl
theorem Se39 : frozenP (runFE Stb0 glOf 5000 138 (Sa39.map .pv) []) = some Sb39 := by kernel_rfl
theorem Se44 : frozenP (runFE Stb3 glOf 5000 36 (Sa44.map .pv) []) = some Sb44 := by kernel_rfl
theorem Se54 : frozenP (runFE Stb5 glOf 5000 171 (Sa54.map .pv) []) = some Sb54 := by kernel_rfl
theorem Se56 : frozenP (runFE Stb5 glOf 5000 171 (Sa56.map .pv) []) = some Sb56 := by kernel_rfl
theorem Se61 : frozenP (runFE Stb9 glOf 5000 19 (Sa61.map .pv) []) = some Sb61 := by kernel_rfl
theorem Se68 : frozenP (runFE Stb8 glOf 5000 413 (Sa68.map .pv) []) = some Sb68 := by kernel_rfl
theorem Se71 : frozenP (runFE Stb10 glOf 5000 7 (Sa71.map .pv) []) = some Sb71 := by kernel_rfl
theorem Se73 : frozenP (runFE Stb9 glOf 5000 19 (Sa73.map .pv) []) = some Sb73 := by kernel_rfl
theorem Se75 : frozenP (runFE Stb3 glOf 5000 338 (Sa75.map .pv) []) = some Sb75 := by kernel_rfl
theorem Se80 : frozenP (runFE Stb2 glOf 5000 90 (Sa80.map .pv) []) = some Sb80 := by kernel_rfl
theorem Se82 : frozenP (runFE Stb3 glOf 5000 87 (Sa82.map .pv) []) = some Sb82 := by kernel_rfl
theorem Se91 : frozenP (runFE Stb3 glOf 5000 338 (Sa91.map .pv) []) = some Sb91 := by kernel_rfl
theorem Se93 : frozenP (runFE Stb3 glOf 5000 338 (Sa93.map .pv) []) = some Sb93 := by kernel_rfl
theorem Se96 : frozenP (runFE Stb10 glOf 5000 7 (Sa96.map .pv) []) = some Sb96 := by kernel_rfl
theorem Se100 : frozenP (runFE Stb6 glOf 5000 170 (Sa100.map .pv) []) = some Sb100 := by kernel_rfl
theorem Se102 : frozenP (runFE Stb8 glOf 5000 38 (Sa102.map .pv) []) = some Sb102 := by kernel_rfl
theorem Se106 : frozenP (runFE Stb3 glOf 5000 87 (Sa106.map .pv) []) = some Sb106 := by kernel_rfl
theorem Se107 : frozenP (runFE Stb3 glOf 5000 338 (Sa107.map .pv) []) = some Sb107 := by kernel_rfl
theorem Se115 : frozenP (runFE Stb2 glOf 5000 90 (Sa115.map .pv) []) = some Sb115 := by kernel_rfl
theorem Se117 : frozenP (runFE Stb3 glOf 5000 338 (Sa117.map .pv) []) = some Sb117 := by kernel_rfl
theorem Se134 : frozenP (runFE Stb3 glOf 5000 338 (Sa134.map .pv) []) = some Sb134 := by kernel_rfl
theorem Se147 : frozenP (runFE Stb3 glOf 5000 87 (Sa147.map .pv) []) = some Sb147 := by kernel_rfl
theorem Se148 : frozenP (runFE Stb8 glOf 5000 413 (Sa148.map .pv) []) = some Sb148 := by kernel_rfl
theorem Se149 : frozenP (runFE Stb3 glOf 5000 87 (Sa149.map .pv) []) = some Sb149 := by kernel_rfl
end Go.Proofs.YtiajhfodfhmfaaaGreatDoor
