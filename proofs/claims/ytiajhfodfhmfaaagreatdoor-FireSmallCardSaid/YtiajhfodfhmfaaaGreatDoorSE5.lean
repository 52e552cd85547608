/- Calls of this program, run in the kernel. -/
import Derived.Test.YtiajhfodfhmfaaaGreatDoorSVals
set_option maxRecDepth 100000
namespace Go.Proofs.YtiajhfodfhmfaaaGreatDoor
open Go.Vm Go.Proofs

theorem Se8 : frozenP (runFE Stb0 glOf 5000 152 (Sa8.map .pv) []) = some Sb8 := by kernel_rfl
theorem Se11 : frozenP (runFE Stb1 glOf 5000 130 (Sa11.map .pv) []) = some Sb11 := by kernel_rfl
theorem Se15 : frozenP (runFE Stb2 glOf 5000 143 (Sa15.map .pv) []) = some Sb15 := by kernel_rfl
theorem Se18 : frozenP (runFE Stb2 glOf 5000 138 (Sa18.map .pv) []) = some Sb18 := by kernel_rfl
theorem Se20 : frozenP (runFE Stb5 glOf 5000 35 (Sa20.map .pv) []) = some Sb20 := by kernel_rfl
theorem Se31 : frozenP (runFE Stb3 glOf 5000 135 (Sa31.map .pv) []) = some Sb31 := by kernel_rfl
theorem Se35 : frozenP (runFE Stb0 glOf 5000 152 (Sa35.map .pv) []) = some Sb35 := by kernel_rfl
theorem Se43 : frozenP (runFE Stb1 glOf 5000 130 (Sa43.map .pv) []) = some Sb43 := by kernel_rfl
theorem Se45 : frozenP (runFE Stb6 glOf 5000 6 (Sa45.map .pv) []) = some Sb45 := by kernel_rfl
theorem Se50 : frozenP (runFE Stb0 glOf 5000 93 (Sa50.map .pv) []) = some Sb50 := by kernel_rfl
theorem Se51 : frozenP (runFE Stb0 glOf 5000 93 (Sa51.map .pv) []) = some Sb51 := by kernel_rfl
theorem Se53 : frozenP (runFE Stb5 glOf 5000 171 (Sa53.map .pv) []) = some Sb53 := by kernel_rfl
theorem Se58 : frozenP (runFE Stb0 glOf 5000 93 (Sa58.map .pv) []) = some Sb58 := by kernel_rfl
theorem Se60 : frozenP (runFE Stb0 glOf 5000 87 (Sa60.map .pv) []) = some Sb60 := by kernel_rfl
theorem Se66 : frozenP (runFE Stb3 glOf 5000 338 (Sa66.map .pv) []) = some Sb66 := by kernel_rfl
theorem Se72 : frozenP (runFE Stb0 glOf 5000 87 (Sa72.map .pv) []) = some Sb72 := by kernel_rfl
theorem Se76 : frozenP (runFE Stb3 glOf 5000 338 (Sa76.map .pv) []) = some Sb76 := by kernel_rfl
theorem Se81 : frozenP (runFE Stb3 glOf 5000 87 (Sa81.map .pv) []) = some Sb81 := by kernel_rfl
theorem Se83 : frozenP (runFE Stb3 glOf 5000 338 (Sa83.map .pv) []) = some Sb83 := by kernel_rfl
theorem Se94 : frozenP (runFE Stb3 glOf 5000 338 (Sa94.map .pv) []) = some Sb94 := by kernel_rfl
theorem Se99 : frozenP (runFE Stb5 glOf 5000 226 (Sa99.map .pv) []) = some Sb99 := by kernel_rfl
theorem Se121 : frozenP (runFE Stb8 glOf 5000 413 (Sa121.map .pv) []) = some Sb121 := by kernel_rfl
theorem Se124 : frozenP (runFE Stb3 glOf 5000 87 (Sa124.map .pv) []) = some Sb124 := by kernel_rfl
theorem Se125 : frozenP (runFE Stb3 glOf 5000 338 (Sa125.map .pv) []) = some Sb125 := by kernel_rfl
theorem Se127 : frozenP (runFE Stb3 glOf 5000 338 (Sa127.map .pv) []) = some Sb127 := by kernel_rfl
theorem Se129 : frozenP (runFE Stb8 glOf 5000 413 (Sa129.map .pv) []) = some Sb129 := by kernel_rfl
theorem Se131 : frozenP (runFE Stb3 glOf 5000 87 (Sa131.map .pv) []) = some Sb131 := by kernel_rfl
theorem Se138 : frozenP (runFE Stb2 glOf 5000 90 (Sa138.map .pv) []) = some Sb138 := by kernel_rfl
theorem Se140 : frozenP (runFE Stb3 glOf 5000 87 (Sa140.map .pv) []) = some Sb140 := by kernel_rfl
theorem Se141 : frozenP (runFE Stb3 glOf 5000 338 (Sa141.map .pv) []) = some Sb141 := by kernel_rfl
theorem Se145 : frozenP (runFE Stb8 glOf 5000 413 (Sa145.map .pv) []) = some Sb145 := by kernel_rfl
theorem Se151 : frozenP (runFE Stb10 glOf 5000 7 (Sa151.map .pv) []) = some Sb151 := by kernel_rfl
theorem Se153 : frozenP (runFE Stb10 glOf 5000 7 (Sa153.map .pv) []) = some Sb153 := by kernel_rfl
end Go.Proofs.YtiajhfodfhmfaaaGreatDoor
