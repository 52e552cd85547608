/- Calls of this program, run in the kernel. -/
import Derived.Test.YtiajhfodfhmfaaaGreatDoorCVals
set_option maxRecDepth 100000
namespace Go.Proofs.YtiajhfodfhmfaaaGreatDoor
open Go.Vm Go.Proofs

theorem Ce3 : frozenP (runFE Ctb1 glOf 5000 130 (Ca3.map .pv) []) = some Cb3 := by kernel_rfl
theorem Ce6 : frozenP (runFE Ctb0 glOf 5000 152 (Ca6.map .pv) []) = some Cb6 := by kernel_rfl
theorem Ce12 : frozenP (runFE Ctb3 glOf 5000 135 (Ca12.map .pv) []) = some Cb12 := by kernel_rfl
theorem Ce14 : frozenP (runFE Ctb2 glOf 5000 138 (Ca14.map .pv) []) = some Cb14 := by kernel_rfl
theorem Ce16 : frozenP (runFE Ctb5 glOf 5000 35 (Ca16.map .pv) []) = some Cb16 := by kernel_rfl
theorem Ce21 : frozenP (runFE Ctb2 glOf 5000 143 (Ca21.map .pv) []) = some Cb21 := by kernel_rfl
theorem Ce25 : frozenP (runFE Ctb1 glOf 5000 194 (Ca25.map .pv) []) = some Cb25 := by kernel_rfl
theorem Ce30 : frozenP (runFE Ctb5 glOf 5000 226 (Ca30.map .pv) []) = some Cb30 := by kernel_rfl
theorem Ce40 : frozenP (runFE Ctb0 glOf 5000 87 (Ca40.map .pv) []) = some Cb40 := by kernel_rfl
theorem Ce48 : frozenP (runFE Ctb2 glOf 5000 90 (Ca48.map .pv) []) = some Cb48 := by kernel_rfl
theorem Ce58 : frozenP (runFE Ctb0 glOf 5000 152 (Ca58.map .pv) []) = some Cb58 := by kernel_rfl
theorem Ce59 : frozenP (runFE Ctb1 glOf 5000 130 (Ca59.map .pv) []) = some Cb59 := by kernel_rfl
theorem Ce68 : frozenP (runFE Ctb0 glOf 5000 152 (Ca68.map .pv) []) = some Cb68 := by kernel_rfl
theorem Ce69 : frozenP (runFE Ctb1 glOf 5000 130 (Ca69.map .pv) []) = some Cb69 := by kernel_rfl
theorem Ce78 : frozenP (runFE Ctb3 glOf 5000 135 (Ca78.map .pv) []) = some Cb78 := by kernel_rfl
theorem Ce79 : frozenP (runFE Ctb2 glOf 5000 138 (Ca79.map .pv) []) = some Cb79 := by kernel_rfl
theorem Ce98 : frozenP (runFE Ctb0 glOf 5000 93 (Ca98.map .pv) []) = some Cb98 := by kernel_rfl
theorem Ce100 : frozenP (runFE Ctb0 glOf 5000 93 (Ca100.map .pv) []) = some Cb100 := by kernel_rfl
theorem Ce103 : frozenP (runFE Ctb6 glOf 5000 170 (Ca103.map .pv) []) = some Cb103 := by kernel_rfl
theorem Ce105 : frozenP (runFE Ctb5 glOf 5000 171 (Ca105.map .pv) []) = some Cb105 := by kernel_rfl
theorem Ce106 : frozenP (runFE Ctb5 glOf 5000 171 (Ca106.map .pv) []) = some Cb106 := by kernel_rfl
theorem Ce111 : frozenP (runFE Ctb9 glOf 5000 19 (Ca111.map .pv) []) = some Cb111 := by kernel_rfl
theorem Ce114 : frozenP (runFE Ctb3 glOf 5000 338 (Ca114.map .pv) []) = some Cb114 := by kernel_rfl
theorem Ce117 : frozenP (runFE Ctb3 glOf 5000 338 (Ca117.map .pv) []) = some Cb117 := by kernel_rfl
theorem Ce121 : frozenP (runFE Ctb10 glOf 5000 7 (Ca121.map .pv) []) = some Cb121 := by kernel_rfl
theorem Ce129 : frozenP (runFE Ctb8 glOf 5000 413 (Ca129.map .pv) []) = some Cb129 := by kernel_rfl
theorem Ce135 : frozenP (runFE Ctb3 glOf 5000 338 (Ca135.map .pv) []) = some Cb135 := by kernel_rfl
theorem Ce136 : frozenP (runFE Ctb3 glOf 5000 338 (Ca136.map .pv) []) = some Cb136 := by kernel_rfl
theorem Ce140 : frozenP (runFE Ctb3 glOf 5000 87 (Ca140.map .pv) []) = some Cb140 := by kernel_rfl
theorem Ce151 : frozenP (runFE Ctb4 glOf 5000 80 (Ca151.map .pv) []) = some Cb151 := by kernel_rfl
theorem Ce152 : frozenP (runFE Ctb3 glOf 5000 135 (Ca152.map .pv) []) = some Cb152 := by kernel_rfl
theorem Ce156 : frozenP (runFE Ctb5 glOf 5000 226 (Ca156.map .pv) []) = some Cb156 := by kernel_rfl
theorem Ce168 : frozenP (runFE Ctb0 glOf 5000 93 (Ca168.map .pv) []) = some Cb168 := by kernel_rfl
theorem Ce169 : frozenP (runFE Ctb12 glOf 5000 14 (Ca169.map .pv) []) = some Cb169 := by kernel_rfl
theorem Ce172 : frozenP (runFE Ctb2 glOf 5000 90 (Ca172.map .pv) []) = some Cb172 := by kernel_rfl
theorem Ce173 : frozenP (runFE Ctb3 glOf 5000 87 (Ca173.map .pv) []) = some Cb173 := by kernel_rfl
theorem Ce174 : frozenP (runFE Ctb3 glOf 5000 87 (Ca174.map .pv) []) = some Cb174 := by kernel_rfl
theorem Ce175 : frozenP (runFE Ctb3 glOf 5000 338 (Ca175.map .pv) []) = some Cb175 := by kernel_rfl
theorem Ce179 : frozenP (runFE Ctb3 glOf 5000 338 (Ca179.map .pv) []) = some Cb179 := by kernel_rfl
theorem Ce183 : frozenP (runFE Ctb2 glOf 5000 90 (Ca183.map .pv) []) = some Cb183 := by kernel_rfl
theorem Ce192 : frozenP (runFE Ctb10 glOf 5000 7 (Ca192.map .pv) []) = some Cb192 := by kernel_rfl
theorem Ce194 : frozenP (runFE Ctb11 glOf 5000 12 (Ca194.map .pv) []) = some Cb194 := by kernel_rfl
theorem Ce199 : frozenP (runFE Ctb11 glOf 5000 12 (Ca199.map .pv) []) = some Cb199 := by kernel_rfl
theorem Ce204 : frozenP (runFE Ctb11 glOf 5000 12 (Ca204.map .pv) []) = some Cb204 := by kernel_rfl
theorem Ce209 : frozenP (runFE Ctb11 glOf 5000 12 (Ca209.map .pv) []) = some Cb209 := by kernel_rfl
end Go.Proofs.YtiajhfodfhmfaaaGreatDoor
