/- Calls of this program, run in the kernel. -/
import Derived.Test.YtiajhfodfhmfaaaGreatDoorCVals
set_option maxRecDepth 100000
namespace Go.Proofs.YtiajhfodfhmfaaaGreatDoor
open Go.Vm Go.Proofs

theorem Ce1 : frozenP (runFE Ctb1 glOf 5000 15 (Ca1.map .pv) []) = some Cb1 := by kernel_rfl
theorem Ce9 : frozenP (runFE Ctb1 glOf 5000 130 (Ca9.map .pv) []) = some Cb9 := by kernel_rfl
theorem Ce23 : frozenP (runFE Ctb3 glOf 5000 135 (Ca23.map .pv) []) = some Cb23 := by kernel_rfl
theorem Ce31 : frozenP (runFE Ctb0 glOf 5000 93 (Ca31.map .pv) []) = some Cb31 := by kernel_rfl
theorem Ce42 : frozenP (runFE Ctb0 glOf 5000 152 (Ca42.map .pv) []) = some Cb42 := by kernel_rfl
theorem Ce44 : frozenP (runFE Ctb3 glOf 5000 87 (Ca44.map .pv) []) = some Cb44 := by kernel_rfl
theorem Ce52 : frozenP (runFE Ctb3 glOf 5000 338 (Ca52.map .pv) []) = some Cb52 := by kernel_rfl
theorem Ce65 : frozenP (runFE Ctb1 glOf 5000 130 (Ca65.map .pv) []) = some Cb65 := by kernel_rfl
theorem Ce66 : frozenP (runFE Ctb0 glOf 5000 152 (Ca66.map .pv) []) = some Cb66 := by kernel_rfl
theorem Ce73 : frozenP (runFE Ctb4 glOf 5000 80 (Ca73.map .pv) []) = some Cb73 := by kernel_rfl
theorem Ce77 : frozenP (runFE Ctb2 glOf 5000 143 (Ca77.map .pv) []) = some Cb77 := by kernel_rfl
theorem Ce87 : frozenP (runFE Ctb0 glOf 5000 152 (Ca87.map .pv) []) = some Cb87 := by kernel_rfl
theorem Ce94 : frozenP (runFE Ctb1 glOf 5000 130 (Ca94.map .pv) []) = some Cb94 := by kernel_rfl
theorem Ce99 : frozenP (runFE Ctb0 glOf 5000 93 (Ca99.map .pv) []) = some Cb99 := by kernel_rfl
theorem Ce127 : frozenP (runFE Ctb3 glOf 5000 338 (Ca127.map .pv) []) = some Cb127 := by kernel_rfl
theorem Ce130 : frozenP (runFE Ctb2 glOf 5000 90 (Ca130.map .pv) []) = some Cb130 := by kernel_rfl
theorem Ce131 : frozenP (runFE Ctb3 glOf 5000 87 (Ca131.map .pv) []) = some Cb131 := by kernel_rfl
theorem Ce133 : frozenP (runFE Ctb3 glOf 5000 338 (Ca133.map .pv) []) = some Cb133 := by kernel_rfl
theorem Ce144 : frozenP (runFE Ctb3 glOf 5000 338 (Ca144.map .pv) []) = some Cb144 := by kernel_rfl
theorem Ce148 : frozenP (runFE Ctb3 glOf 5000 135 (Ca148.map .pv) []) = some Cb148 := by kernel_rfl
theorem Ce153 : frozenP (runFE Ctb4 glOf 5000 80 (Ca153.map .pv) []) = some Cb153 := by kernel_rfl
theorem Ce162 : frozenP (runFE Ctb7 glOf 5000 117 (Ca162.map .pv) []) = some Cb162 := by kernel_rfl
theorem Ce167 : frozenP (runFE Ctb2 glOf 5000 90 (Ca167.map .pv) []) = some Cb167 := by kernel_rfl
theorem Ce170 : frozenP (runFE Ctb9 glOf 5000 19 (Ca170.map .pv) []) = some Cb170 := by kernel_rfl
theorem Ce176 : frozenP (runFE Ctb3 glOf 5000 338 (Ca176.map .pv) []) = some Cb176 := by kernel_rfl
theorem Ce187 : frozenP (runFE Ctb3 glOf 5000 338 (Ca187.map .pv) []) = some Cb187 := by kernel_rfl
theorem Ce190 : frozenP (runFE Ctb3 glOf 5000 338 (Ca190.map .pv) []) = some Cb190 := by kernel_rfl
theorem Ce196 : frozenP (runFE Ctb11 glOf 5000 12 (Ca196.map .pv) []) = some Cb196 := by kernel_rfl
theorem Ce201 : frozenP (runFE Ctb11 glOf 5000 12 (Ca201.map .pv) []) = some Cb201 := by kernel_rfl
theorem Ce206 : frozenP (runFE Ctb11 glOf 5000 12 (Ca206.map .pv) []) = some Cb206 := by kernel_rfl
theorem Ce211 : frozenP (runFE Ctb11 glOf 5000 12 (Ca211.map .pv) []) = some Cb211 := by kernel_rfl
end Go.Proofs.YtiajhfodfhmfaaaGreatDoor
