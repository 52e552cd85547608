/- Calls of this program, run in the kernel. -/
import Derived.Test.YtiajhfodfhmfaaaGreatDoorSVals
set_option maxRecDepth 100000
namespace Go.Proofs.YtiajhfodfhmfaaaGreatDoor
open Go.Vm Go.Proofs

theorem Se0 : frozenP (runFE Stb0 glOf 5000 152 (Sa0.map .pv) []) = some Sb0 := by kernel_rfl
theorem Se4 : frozenP (runFE Stb0 glOf 5000 152 (Sa4.map .pv) []) = some Sb4 := by kernel_rfl
theorem Se5 : frozenP (runFE Stb1 glOf 5000 130 (Sa5.map .pv) []) = some Sb5 := by kernel_rfl
theorem Se12 : frozenP (runFE Stb0 glOf 5000 152 (Sa12.map .pv) []) = some Sb12 := by kernel_rfl
theorem Se21 : frozenP (runFE Stb0 glOf 5000 152 (Sa21.map .pv) []) = some Sb21 := by kernel_rfl
theorem Se22 : frozenP (runFE Stb1 glOf 5000 130 (Sa22.map .pv) []) = some Sb22 := by kernel_rfl
theorem Se25 : frozenP (runFE Stb2 glOf 5000 138 (Sa25.map .pv) []) = some Sb25 := by kernel_rfl
theorem Se49 : frozenP (runFE Stb0 glOf 5000 93 (Sa49.map .pv) []) = some Sb49 := by kernel_rfl
theorem Se55 : frozenP (runFE Stb5 glOf 5000 171 (Sa55.map .pv) []) = some Sb55 := by kernel_rfl
theorem Se59 : frozenP (runFE Stb8 glOf 5000 38 (Sa59.map .pv) []) = some Sb59 := by kernel_rfl
theorem Se62 : frozenP (runFE Stb2 glOf 5000 90 (Sa62.map .pv) []) = some Sb62 := by kernel_rfl
theorem Se63 : frozenP (runFE Stb3 glOf 5000 87 (Sa63.map .pv) []) = some Sb63 := by kernel_rfl
theorem Se64 : frozenP (runFE Stb3 glOf 5000 338 (Sa64.map .pv) []) = some Sb64 := by kernel_rfl
theorem Se65 : frozenP (runFE Stb3 glOf 5000 338 (Sa65.map .pv) []) = some Sb65 := by kernel_rfl
theorem Se74 : frozenP (runFE Stb3 glOf 5000 87 (Sa74.map .pv) []) = some Sb74 := by kernel_rfl
theorem Se79 : frozenP (runFE Stb8 glOf 5000 413 (Sa79.map .pv) []) = some Sb79 := by kernel_rfl
theorem Se84 : frozenP (runFE Stb3 glOf 5000 338 (Sa84.map .pv) []) = some Sb84 := by kernel_rfl
theorem Se87 : frozenP (runFE Stb8 glOf 5000 413 (Sa87.map .pv) []) = some Sb87 := by kernel_rfl
theorem Se90 : frozenP (runFE Stb3 glOf 5000 87 (Sa90.map .pv) []) = some Sb90 := by kernel_rfl
theorem Se103 : frozenP (runFE Stb9 glOf 5000 19 (Sa103.map .pv) []) = some Sb103 := by kernel_rfl
theorem Se105 : frozenP (runFE Stb2 glOf 5000 90 (Sa105.map .pv) []) = some Sb105 := by kernel_rfl
theorem Se108 : frozenP (runFE Stb3 glOf 5000 338 (Sa108.map .pv) []) = some Sb108 := by kernel_rfl
theorem Se109 : frozenP (runFE Stb3 glOf 5000 338 (Sa109.map .pv) []) = some Sb109 := by kernel_rfl
theorem Se111 : frozenP (runFE Stb8 glOf 5000 413 (Sa111.map .pv) []) = some Sb111 := by kernel_rfl
theorem Se113 : frozenP (runFE Stb3 glOf 5000 87 (Sa113.map .pv) []) = some Sb113 := by kernel_rfl
theorem Se123 : frozenP (runFE Stb9 glOf 5000 19 (Sa123.map .pv) []) = some Sb123 := by kernel_rfl
theorem Se128 : frozenP (runFE Stb3 glOf 5000 338 (Sa128.map .pv) []) = some Sb128 := by kernel_rfl
theorem Se142 : frozenP (runFE Stb3 glOf 5000 338 (Sa142.map .pv) []) = some Sb142 := by kernel_rfl
theorem Se155 : frozenP (runFE Stb9 glOf 5000 19 (Sa155.map .pv) []) = some Sb155 := by kernel_rfl
theorem Se157 : frozenP (runFE Stb10 glOf 5000 7 (Sa157.map .pv) []) = some Sb157 := by kernel_rfl
end Go.Proofs.YtiajhfodfhmfaaaGreatDoor
