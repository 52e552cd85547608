/- Calls of this program, run in the kernel. -/
import Derived.Test.YtiajhfodfhmfaaaGreatDoorCVals
set_option maxRecDepth 100000
namespace Go.Proofs.YtiajhfodfhmfaaaGreatDoor
open Go.Vm Go.Proofs

theorem Ce0 : frozenP (runFE Ctb0 glOf 5000 152 (Ca0.map .pv) []) = some Cb0 := by kernel_rfl
theorem Ce2 : frozenP (runFE Ctb0 glOf 5000 152 (Ca2.map .pv) []) = some Cb2 := by kernel_rfl
theorem Ce4 : frozenP (runFE Ctb0 glOf 5000 152 (Ca4.map .pv) []) = some Cb4 := by kernel_rfl
theorem Ce7 : frozenP (runFE Ctb1 glOf 5000 130 (Ca7.map .pv) []) = some Cb7 := by kernel_rfl
theorem Ce15 : frozenP (runFE Ctb4 glOf 5000 80 (Ca15.map .pv) []) = some Cb15 := by kernel_rfl
theorem Ce19 : frozenP (runFE Ctb2 glOf 5000 143 (Ca19.map .pv) []) = some Cb19 := by kernel_rfl
theorem Ce22 : frozenP (runFE Ctb3 glOf 5000 135 (Ca22.map .pv) []) = some Cb22 := by kernel_rfl
theorem Ce26 : frozenP (runFE Ctb2 glOf 5000 138 (Ca26.map .pv) []) = some Cb26 := by kernel_rfl
theorem Ce29 : frozenP (runFE Ctb6 glOf 5000 6 (Ca29.map .pv) []) = some Cb29 := by kernel_rfl
theorem Ce33 : frozenP (runFE Ctb0 glOf 5000 93 (Ca33.map .pv) []) = some Cb33 := by kernel_rfl
theorem Ce38 : frozenP (runFE Ctb0 glOf 5000 93 (Ca38.map .pv) []) = some Cb38 := by kernel_rfl
theorem Ce45 : frozenP (runFE Ctb3 glOf 5000 338 (Ca45.map .pv) []) = some Cb45 := by kernel_rfl
theorem Ce51 : frozenP (runFE Ctb3 glOf 5000 338 (Ca51.map .pv) []) = some Cb51 := by kernel_rfl
theorem Ce53 : frozenP (runFE Ctb8 glOf 5000 413 (Ca53.map .pv) []) = some Cb53 := by kernel_rfl
theorem Ce54 : frozenP (runFE Ctb10 glOf 5000 7 (Ca54.map .pv) []) = some Cb54 := by kernel_rfl
theorem Ce55 : frozenP (runFE Ctb11 glOf 5000 12 (Ca55.map .pv) []) = some Cb55 := by kernel_rfl
theorem Ce56 : frozenP (runFE Ctb0 glOf 5000 13 (Ca56.map .pv) []) = some Cb56 := by kernel_rfl
theorem Ce63 : frozenP (runFE Ctb1 glOf 5000 130 (Ca63.map .pv) []) = some Cb63 := by kernel_rfl
theorem Ce70 : frozenP (runFE Ctb2 glOf 5000 143 (Ca70.map .pv) []) = some Cb70 := by kernel_rfl
theorem Ce75 : frozenP (runFE Ctb0 glOf 5000 152 (Ca75.map .pv) []) = some Cb75 := by kernel_rfl
theorem Ce81 : frozenP (runFE Ctb5 glOf 5000 35 (Ca81.map .pv) []) = some Cb81 := by kernel_rfl
theorem Ce88 : frozenP (runFE Ctb1 glOf 5000 130 (Ca88.map .pv) []) = some Cb88 := by kernel_rfl
theorem Ce90 : frozenP (runFE Ctb3 glOf 5000 135 (Ca90.map .pv) []) = some Cb90 := by kernel_rfl
theorem Ce91 : frozenP (runFE Ctb4 glOf 5000 80 (Ca91.map .pv) []) = some Cb91 := by kernel_rfl
theorem Ce102 : frozenP (runFE Ctb0 glOf 5000 93 (Ca102.map .pv) []) = some Cb102 := by kernel_rfl
theorem Ce104 : frozenP (runFE Ctb5 glOf 5000 171 (Ca104.map .pv) []) = some Cb104 := by kernel_rfl
theorem Ce116 : frozenP (runFE Ctb3 glOf 5000 338 (Ca116.map .pv) []) = some Cb116 := by kernel_rfl
theorem Ce118 : frozenP (runFE Ctb8 glOf 5000 413 (Ca118.map .pv) []) = some Cb118 := by kernel_rfl
theorem Ce119 : frozenP (runFE Ctb2 glOf 5000 90 (Ca119.map .pv) []) = some Cb119 := by kernel_rfl
theorem Ce120 : frozenP (runFE Ctb3 glOf 5000 87 (Ca120.map .pv) []) = some Cb120 := by kernel_rfl
theorem Ce123 : frozenP (runFE Ctb9 glOf 5000 19 (Ca123.map .pv) []) = some Cb123 := by kernel_rfl
theorem Ce124 : frozenP (runFE Ctb3 glOf 5000 87 (Ca124.map .pv) []) = some Cb124 := by kernel_rfl
theorem Ce128 : frozenP (runFE Ctb3 glOf 5000 338 (Ca128.map .pv) []) = some Cb128 := by kernel_rfl
theorem Ce137 : frozenP (runFE Ctb8 glOf 5000 413 (Ca137.map .pv) []) = some Cb137 := by kernel_rfl
theorem Ce142 : frozenP (runFE Ctb3 glOf 5000 338 (Ca142.map .pv) []) = some Cb142 := by kernel_rfl
theorem Ce157 : frozenP (runFE Ctb6 glOf 5000 170 (Ca157.map .pv) []) = some Cb157 := by kernel_rfl
theorem Ce165 : frozenP (runFE Ctb0 glOf 5000 152 (Ca165.map .pv) []) = some Cb165 := by kernel_rfl
theorem Ce186 : frozenP (runFE Ctb3 glOf 5000 338 (Ca186.map .pv) []) = some Cb186 := by kernel_rfl
theorem Ce188 : frozenP (runFE Ctb3 glOf 5000 338 (Ca188.map .pv) []) = some Cb188 := by kernel_rfl
theorem Ce189 : frozenP (runFE Ctb3 glOf 5000 338 (Ca189.map .pv) []) = some Cb189 := by kernel_rfl
theorem Ce195 : frozenP (runFE Ctb11 glOf 5000 12 (Ca195.map .pv) []) = some Cb195 := by kernel_rfl
theorem Ce200 : frozenP (runFE Ctb11 glOf 5000 12 (Ca200.map .pv) []) = some Cb200 := by kernel_rfl
theorem Ce205 : frozenP (runFE Ctb11 glOf 5000 12 (Ca205.map .pv) []) = some Cb205 := by kernel_rfl
theorem Ce210 : frozenP (runFE Ctb11 glOf 5000 12 (Ca210.map .pv) []) = some Cb210 := by kernel_rfl
end Go.Proofs.YtiajhfodfhmfaaaGreatDoor
