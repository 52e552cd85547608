/- Calls of this program, run in the kernel. -/
import Derived.Test.YtiajhfodfhmfaaaGreatDoorCVals
set_option maxRecDepth 100000
namespace Go.Proofs.YtiajhfodfhmfaaaGreatDoor
open Go.Vm Go.Proofs

theorem Ce8 : frozenP (runFE Ctb0 glOf 5000 152 (Ca8.map .pv) []) = some Cb8 := by kernel_rfl
theorem Ce10 : frozenP (runFE Ctb0 glOf 5000 261 (Ca10.map .pv) []) = some Cb10 := by kernel_rfl
theorem Ce13 : frozenP (runFE Ctb1 glOf 5000 194 (Ca13.map .pv) []) = some Cb13 := by kernel_rfl
theorem Ce18 : frozenP (runFE Ctb1 glOf 5000 130 (Ca18.map .pv) []) = some Cb18 := by kernel_rfl
theorem Ce27 : frozenP (runFE Ctb4 glOf 5000 80 (Ca27.map .pv) []) = some Cb27 := by kernel_rfl
theorem Ce28 : frozenP (runFE Ctb5 glOf 5000 35 (Ca28.map .pv) []) = some Cb28 := by kernel_rfl
theorem Ce37 : frozenP (runFE Ctb7 glOf 5000 117 (Ca37.map .pv) []) = some Cb37 := by kernel_rfl
theorem Ce39 : frozenP (runFE Ctb8 glOf 5000 38 (Ca39.map .pv) []) = some Cb39 := by kernel_rfl
theorem Ce43 : frozenP (runFE Ctb2 glOf 5000 90 (Ca43.map .pv) []) = some Cb43 := by kernel_rfl
theorem Ce47 : frozenP (runFE Ctb8 glOf 5000 413 (Ca47.map .pv) []) = some Cb47 := by kernel_rfl
theorem Ce49 : frozenP (runFE Ctb3 glOf 5000 87 (Ca49.map .pv) []) = some Cb49 := by kernel_rfl
theorem Ce60 : frozenP (runFE Ctb0 glOf 5000 152 (Ca60.map .pv) []) = some Cb60 := by kernel_rfl
theorem Ce62 : frozenP (runFE Ctb0 glOf 5000 152 (Ca62.map .pv) []) = some Cb62 := by kernel_rfl
theorem Ce67 : frozenP (runFE Ctb1 glOf 5000 130 (Ca67.map .pv) []) = some Cb67 := by kernel_rfl
theorem Ce71 : frozenP (runFE Ctb3 glOf 5000 135 (Ca71.map .pv) []) = some Cb71 := by kernel_rfl
theorem Ce72 : frozenP (runFE Ctb2 glOf 5000 138 (Ca72.map .pv) []) = some Cb72 := by kernel_rfl
theorem Ce80 : frozenP (runFE Ctb4 glOf 5000 80 (Ca80.map .pv) []) = some Cb80 := by kernel_rfl
theorem Ce82 : frozenP (runFE Ctb2 glOf 5000 143 (Ca82.map .pv) []) = some Cb82 := by kernel_rfl
theorem Ce86 : frozenP (runFE Ctb5 glOf 5000 35 (Ca86.map .pv) []) = some Cb86 := by kernel_rfl
theorem Ce92 : frozenP (runFE Ctb5 glOf 5000 35 (Ca92.map .pv) []) = some Cb92 := by kernel_rfl
theorem Ce93 : frozenP (runFE Ctb0 glOf 5000 152 (Ca93.map .pv) []) = some Cb93 := by kernel_rfl
theorem Ce96 : frozenP (runFE Ctb6 glOf 5000 6 (Ca96.map .pv) []) = some Cb96 := by kernel_rfl
theorem Ce101 : frozenP (runFE Ctb0 glOf 5000 93 (Ca101.map .pv) []) = some Cb101 := by kernel_rfl
theorem Ce107 : frozenP (runFE Ctb5 glOf 5000 171 (Ca107.map .pv) []) = some Cb107 := by kernel_rfl
theorem Ce108 : frozenP (runFE Ctb7 glOf 5000 117 (Ca108.map .pv) []) = some Cb108 := by kernel_rfl
theorem Ce115 : frozenP (runFE Ctb3 glOf 5000 338 (Ca115.map .pv) []) = some Cb115 := by kernel_rfl
theorem Ce126 : frozenP (runFE Ctb3 glOf 5000 338 (Ca126.map .pv) []) = some Cb126 := by kernel_rfl
theorem Ce132 : frozenP (runFE Ctb3 glOf 5000 87 (Ca132.map .pv) []) = some Cb132 := by kernel_rfl
theorem Ce134 : frozenP (runFE Ctb3 glOf 5000 338 (Ca134.map .pv) []) = some Cb134 := by kernel_rfl
theorem Ce138 : frozenP (runFE Ctb2 glOf 5000 90 (Ca138.map .pv) []) = some Cb138 := by kernel_rfl
theorem Ce139 : frozenP (runFE Ctb3 glOf 5000 87 (Ca139.map .pv) []) = some Cb139 := by kernel_rfl
theorem Ce143 : frozenP (runFE Ctb3 glOf 5000 338 (Ca143.map .pv) []) = some Cb143 := by kernel_rfl
theorem Ce147 : frozenP (runFE Ctb11 glOf 5000 12 (Ca147.map .pv) []) = some Cb147 := by kernel_rfl
theorem Ce150 : frozenP (runFE Ctb3 glOf 5000 135 (Ca150.map .pv) []) = some Cb150 := by kernel_rfl
theorem Ce155 : frozenP (runFE Ctb4 glOf 5000 80 (Ca155.map .pv) []) = some Cb155 := by kernel_rfl
theorem Ce158 : frozenP (runFE Ctb5 glOf 5000 171 (Ca158.map .pv) []) = some Cb158 := by kernel_rfl
theorem Ce160 : frozenP (runFE Ctb5 glOf 5000 171 (Ca160.map .pv) []) = some Cb160 := by kernel_rfl
theorem Ce163 : frozenP (runFE Ctb8 glOf 5000 38 (Ca163.map .pv) []) = some Cb163 := by kernel_rfl
theorem Ce164 : frozenP (runFE Ctb3 glOf 5000 338 (Ca164.map .pv) []) = some Cb164 := by kernel_rfl
theorem Ce166 : frozenP (runFE Ctb1 glOf 5000 130 (Ca166.map .pv) []) = some Cb166 := by kernel_rfl
theorem Ce171 : frozenP (runFE Ctb2 glOf 5000 90 (Ca171.map .pv) []) = some Cb171 := by kernel_rfl
theorem Ce182 : frozenP (runFE Ctb0 glOf 5000 152 (Ca182.map .pv) []) = some Cb182 := by kernel_rfl
theorem Ce191 : frozenP (runFE Ctb8 glOf 5000 413 (Ca191.map .pv) []) = some Cb191 := by kernel_rfl
theorem Ce197 : frozenP (runFE Ctb11 glOf 5000 12 (Ca197.map .pv) []) = some Cb197 := by kernel_rfl
theorem Ce202 : frozenP (runFE Ctb11 glOf 5000 12 (Ca202.map .pv) []) = some Cb202 := by kernel_rfl
theorem Ce207 : frozenP (runFE Ctb11 glOf 5000 12 (Ca207.map .pv) []) = some Cb207 := by kernel_rfl
end Go.Proofs.YtiajhfodfhmfaaaGreatDoor
