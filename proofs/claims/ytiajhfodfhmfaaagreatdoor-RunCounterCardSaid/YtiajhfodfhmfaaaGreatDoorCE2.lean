/- Calls of this program, run in the kernel. -/
import Derived.Test.YtiajhfodfhmfaaaGreatDoorCVals
set_option maxRecDepth 100000
namespace Go.Proofs.YtiajhfodfhmfaaaGreatDoor
open Go.Vm Go.Proofs

theorem Ce5 : frozenP (runFE Ctb1 glOf 5000 130 (Ca5.map .pv) []) = some Cb5 := by kernel_rfl
theorem Ce11 : frozenP (runFE Ctb2 glOf 5000 143 (Ca11.map .pv) []) = some Cb11 := by kernel_rfl
theorem Ce17 : frozenP (runFE Ctb0 glOf 5000 152 (Ca17.map .pv) []) = some Cb17 := by kernel_rfl
theorem Ce20 : frozenP (runFE Ctb3 glOf 5000 135 (Ca20.map .pv) []) = some Cb20 := by kernel_rfl
theorem Ce24 : frozenP (runFE Ctb0 glOf 5000 138 (Ca24.map .pv) []) = some Cb24 := by kernel_rfl
theorem Ce32 : frozenP (runFE Ctb0 glOf 5000 93 (Ca32.map .pv) []) = some Cb32 := by kernel_rfl
theorem Ce34 : frozenP (runFE Ctb6 glOf 5000 170 (Ca34.map .pv) []) = some Cb34 := by kernel_rfl
theorem Ce35 : frozenP (runFE Ctb5 glOf 5000 171 (Ca35.map .pv) []) = some Cb35 := by kernel_rfl
theorem Ce36 : frozenP (runFE Ctb5 glOf 5000 171 (Ca36.map .pv) []) = some Cb36 := by kernel_rfl
theorem Ce41 : frozenP (runFE Ctb9 glOf 5000 19 (Ca41.map .pv) []) = some Cb41 := by kernel_rfl
theorem Ce46 : frozenP (runFE Ctb3 glOf 5000 338 (Ca46.map .pv) []) = some Cb46 := by kernel_rfl
theorem Ce50 : frozenP (runFE Ctb3 glOf 5000 87 (Ca50.map .pv) []) = some Cb50 := by kernel_rfl
theorem Ce61 : frozenP (runFE Ctb1 glOf 5000 130 (Ca61.map .pv) []) = some Cb61 := by kernel_rfl
theorem Ce64 : frozenP (runFE Ctb0 glOf 5000 152 (Ca64.map .pv) []) = some Cb64 := by kernel_rfl
theorem Ce74 : frozenP (runFE Ctb5 glOf 5000 35 (Ca74.map .pv) []) = some Cb74 := by kernel_rfl
theorem Ce76 : frozenP (runFE Ctb1 glOf 5000 130 (Ca76.map .pv) []) = some Cb76 := by kernel_rfl
theorem Ce83 : frozenP (runFE Ctb3 glOf 5000 135 (Ca83.map .pv) []) = some Cb83 := by kernel_rfl
theorem Ce84 : frozenP (runFE Ctb2 glOf 5000 138 (Ca84.map .pv) []) = some Cb84 := by kernel_rfl
theorem Ce85 : frozenP (runFE Ctb4 glOf 5000 80 (Ca85.map .pv) []) = some Cb85 := by kernel_rfl
theorem Ce89 : frozenP (runFE Ctb2 glOf 5000 143 (Ca89.map .pv) []) = some Cb89 := by kernel_rfl
theorem Ce95 : frozenP (runFE Ctb3 glOf 5000 36 (Ca95.map .pv) []) = some Cb95 := by kernel_rfl
theorem Ce97 : frozenP (runFE Ctb5 glOf 5000 226 (Ca97.map .pv) []) = some Cb97 := by kernel_rfl
theorem Ce109 : frozenP (runFE Ctb0 glOf 5000 93 (Ca109.map .pv) []) = some Cb109 := by kernel_rfl
theorem Ce110 : frozenP (runFE Ctb8 glOf 5000 38 (Ca110.map .pv) []) = some Cb110 := by kernel_rfl
theorem Ce112 : frozenP (runFE Ctb2 glOf 5000 90 (Ca112.map .pv) []) = some Cb112 := by kernel_rfl
theorem Ce113 : frozenP (runFE Ctb3 glOf 5000 87 (Ca113.map .pv) []) = some Cb113 := by kernel_rfl
theorem Ce122 : frozenP (runFE Ctb0 glOf 5000 87 (Ca122.map .pv) []) = some Cb122 := by kernel_rfl
theorem Ce125 : frozenP (runFE Ctb3 glOf 5000 338 (Ca125.map .pv) []) = some Cb125 := by kernel_rfl
theorem Ce141 : frozenP (runFE Ctb3 glOf 5000 338 (Ca141.map .pv) []) = some Cb141 := by kernel_rfl
theorem Ce145 : frozenP (runFE Ctb8 glOf 5000 413 (Ca145.map .pv) []) = some Cb145 := by kernel_rfl
theorem Ce146 : frozenP (runFE Ctb10 glOf 5000 7 (Ca146.map .pv) []) = some Cb146 := by kernel_rfl
theorem Ce149 : frozenP (runFE Ctb4 glOf 5000 80 (Ca149.map .pv) []) = some Cb149 := by kernel_rfl
theorem Ce154 : frozenP (runFE Ctb3 glOf 5000 135 (Ca154.map .pv) []) = some Cb154 := by kernel_rfl
theorem Ce159 : frozenP (runFE Ctb5 glOf 5000 171 (Ca159.map .pv) []) = some Cb159 := by kernel_rfl
theorem Ce161 : frozenP (runFE Ctb5 glOf 5000 171 (Ca161.map .pv) []) = some Cb161 := by kernel_rfl
theorem Ce177 : frozenP (runFE Ctb3 glOf 5000 338 (Ca177.map .pv) []) = some Cb177 := by kernel_rfl
theorem Ce178 : frozenP (runFE Ctb3 glOf 5000 338 (Ca178.map .pv) []) = some Cb178 := by kernel_rfl
theorem Ce180 : frozenP (runFE Ctb3 glOf 5000 338 (Ca180.map .pv) []) = some Cb180 := by kernel_rfl
theorem Ce181 : frozenP (runFE Ctb8 glOf 5000 413 (Ca181.map .pv) []) = some Cb181 := by kernel_rfl
theorem Ce184 : frozenP (runFE Ctb3 glOf 5000 87 (Ca184.map .pv) []) = some Cb184 := by kernel_rfl
theorem Ce185 : frozenP (runFE Ctb3 glOf 5000 87 (Ca185.map .pv) []) = some Cb185 := by kernel_rfl
theorem Ce193 : frozenP (runFE Ctb11 glOf 5000 12 (Ca193.map .pv) []) = some Cb193 := by kernel_rfl
theorem Ce198 : frozenP (runFE Ctb11 glOf 5000 12 (Ca198.map .pv) []) = some Cb198 := by kernel_rfl
theorem Ce203 : frozenP (runFE Ctb11 glOf 5000 12 (Ca203.map .pv) []) = some Cb203 := by kernel_rfl
theorem Ce208 : frozenP (runFE Ctb11 glOf 5000 12 (Ca208.map .pv) []) = some Cb208 := by kernel_rfl
end Go.Proofs.YtiajhfodfhmfaaaGreatDoor
