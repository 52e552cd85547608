/- Calls of this program, run in the kernel. -/
import Derived.Test.YtbkokdopdcegkaaGreatDoorKVals
set_option maxRecDepth 100000
namespace Go.Proofs.YtbkokdopdcegkaaGreatDoor
open Go.Vm Go.Proofs

theorem Ke0 : frozenP (runFE Ktb0 glOf 5000 172 (Ka0.map .pv) []) = some Kb0 := by kernel_rfl
theorem Ke9 : frozenP (runFE Ktb1 glOf 5000 152 (Ka9.map .pv) []) = some Kb9 := by kernel_rfl
theorem Ke10 : frozenP (runFE Ktb0 glOf 5000 172 (Ka10.map .pv) []) = some Kb10 := by kernel_rfl
theorem Ke22 : frozenP (runFE Ktb2 glOf 5000 160 (Ka22.map .pv) []) = some Kb22 := by kernel_rfl
theorem Ke33 : frozenP (runFE Ktb7 glOf 5000 36 (Ka33.map .pv) []) = some Kb33 := by kernel_rfl
theorem Ke36 : frozenP (runFE Ktb9 glOf 5000 28 (Ka36.map .pv) []) = some Kb36 := by kernel_rfl
theorem Ke43 : frozenP (runFE Ktb3 glOf 5000 110 (Ka43.map .pv) []) = some Kb43 := by kernel_rfl
theorem Ke45 : frozenP (runFE Ktb3 glOf 5000 110 (Ka45.map .pv) []) = some Kb45 := by kernel_rfl
theorem Ke53 : frozenP (runFE Ktb3 glOf 5000 356 (Ka53.map .pv) []) = some Kb53 := by kernel_rfl
theorem Ke55 : frozenP (runFE Ktb8 glOf 5000 409 (Ka55.map .pv) []) = some Kb55 := by kernel_rfl
theorem Ke62 : frozenP (runFE Ktb3 glOf 5000 110 (Ka62.map .pv) []) = some Kb62 := by kernel_rfl
theorem Ke72 : frozenP (runFE Ktb0 glOf 5000 172 (Ka72.map .pv) []) = some Kb72 := by kernel_rfl
theorem Ke75 : frozenP (runFE Ktb1 glOf 5000 152 (Ka75.map .pv) []) = some Kb75 := by kernel_rfl
theorem Ke88 : frozenP (runFE Ktb2 glOf 5000 165 (Ka88.map .pv) []) = some Kb88 := by kernel_rfl
theorem Ke91 : frozenP (runFE Ktb4 glOf 5000 106 (Ka91.map .pv) []) = some Kb91 := by kernel_rfl
theorem Ke93 : frozenP (runFE Ktb3 glOf 5000 157 (Ka93.map .pv) []) = some Kb93 := by kernel_rfl
theorem Ke95 : frozenP (runFE Ktb4 glOf 5000 106 (Ka95.map .pv) []) = some Kb95 := by kernel_rfl
theorem Ke101 : frozenP (runFE Ktb1 glOf 5000 152 (Ka101.map .pv) []) = some Kb101 := by kernel_rfl
theorem Ke102 : frozenP (runFE Ktb5 glOf 5000 6 (Ka102.map .pv) []) = some Kb102 := by kernel_rfl
theorem Ke108 : frozenP (runFE Ktb0 glOf 5000 80 (Ka108.map .pv) []) = some Kb108 := by kernel_rfl
theorem Ke118 : frozenP (runFE Ktb2 glOf 5000 113 (Ka118.map .pv) []) = some Kb118 := by kernel_rfl
theorem Ke119 : frozenP (runFE Ktb3 glOf 5000 110 (Ka119.map .pv) []) = some Kb119 := by kernel_rfl
theorem Ke121 : frozenP (runFE Ktb3 glOf 5000 356 (Ka121.map .pv) []) = some Kb121 := by kernel_rfl
theorem Ke124 : frozenP (runFE Ktb8 glOf 5000 409 (Ka124.map .pv) []) = some Kb124 := by kernel_rfl
theorem Ke127 : frozenP (runFE Ktb10 glOf 5000 7 (Ka127.map .pv) []) = some Kb127 := by kernel_rfl
theorem Ke128 : frozenP (runFE Ktb9 glOf 5000 28 (Ka128.map .pv) []) = some Kb128 := by kernel_rfl
theorem Ke131 : frozenP (runFE Ktb3 glOf 5000 356 (Ka131.map .pv) []) = some Kb131 := by kernel_rfl
theorem Ke137 : frozenP (runFE Ktb3 glOf 5000 110 (Ka137.map .pv) []) = some Kb137 := by kernel_rfl
theorem Ke139 : frozenP (runFE Ktb3 glOf 5000 356 (Ka139.map .pv) []) = some Kb139 := by kernel_rfl
theorem Ke142 : frozenP (runFE Ktb8 glOf 5000 409 (Ka142.map .pv) []) = some Kb142 := by kernel_rfl
theorem Ke148 : frozenP (runFE Ktb3 glOf 5000 356 (Ka148.map .pv) []) = some Kb148 := by kernel_rfl
theorem Ke158 : frozenP (runFE Ktb8 glOf 5000 409 (Ka158.map .pv) []) = some Kb158 := by kernel_rfl
theorem Ke159 : frozenP (runFE Ktb2 glOf 5000 113 (Ka159.map .pv) []) = some Kb159 := by kernel_rfl
theorem Ke160 : frozenP (runFE Ktb3 glOf 5000 110 (Ka160.map .pv) []) = some Kb160 := by kernel_rfl
theorem Ke170 : frozenP (runFE Ktb3 glOf 5000 356 (Ka170.map .pv) []) = some Kb170 := by kernel_rfl
theorem Ke177 : frozenP (runFE Ktb3 glOf 5000 110 (Ka177.map .pv) []) = some Kb177 := by kernel_rfl
theorem Ke179 : frozenP (runFE Ktb8 glOf 5000 409 (Ka179.map .pv) []) = some Kb179 := by kernel_rfl
theorem Ke180 : frozenP (runFE Ktb10 glOf 5000 7 (Ka180.map .pv) []) = some Kb180 := by kernel_rfl
theorem Ke190 : frozenP (runFE Ktb2 glOf 5000 113 (Ka190.map .pv) []) = some Kb190 := by kernel_rfl
theorem Ke191 : frozenP (runFE Ktb3 glOf 5000 110 (Ka191.map .pv) []) = some Kb191 := by kernel_rfl
theorem Ke192 : frozenP (runFE Ktb3 glOf 5000 110 (Ka192.map .pv) []) = some Kb192 := by kernel_rfl
theorem Ke202 : frozenP (runFE Ktb3 glOf 5000 356 (Ka202.map .pv) []) = some Kb202 := by kernel_rfl
theorem Ke206 : frozenP (runFE Ktb9 glOf 5000 28 (Ka206.map .pv) []) = some Kb206 := by kernel_rfl
theorem Ke212 : frozenP (runFE Ktb9 glOf 5000 28 (Ka212.map .pv) []) = some Kb212 := by kernel_rfl
theorem Ke214 : frozenP (runFE Ktb8 glOf 5000 409 (Ka214.map .pv) []) = some Kb214 := by kernel_rfl
theorem Ke215 : frozenP (runFE Ktb10 glOf 5000 7 (Ka215.map .pv) []) = some Kb215 := by kernel_rfl
theorem Ke221 : frozenP (runFE Ktb2 glOf 5000 113 (Ka221.map .pv) []) = some Kb221 := by kernel_rfl
theorem Ke222 : frozenP (runFE Ktb3 glOf 5000 110 (Ka222.map .pv) []) = some Kb222 := by kernel_rfl
theorem Ke234 : frozenP (runFE Ktb3 glOf 5000 356 (Ka234.map .pv) []) = some Kb234 := by kernel_rfl
end Go.Proofs.YtbkokdopdcegkaaGreatDoor
