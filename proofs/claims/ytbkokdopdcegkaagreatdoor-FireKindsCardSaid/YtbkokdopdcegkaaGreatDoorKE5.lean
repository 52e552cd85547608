/- Calls of this program, run in the kernel. -/
import Derived.Test.YtbkokdopdcegkaaGreatDoorKVals
set_option maxRecDepth 100000
namespace Go.Proofs.YtbkokdopdcegkaaGreatDoor
open Go.Vm Go.Proofs

theorem Ke5 : frozenP (runFE Ktb1 glOf 5000 152 (Ka5.map .pv) []) = some Kb5 := by kernel_rfl
theorem Ke6 : frozenP (runFE Ktb0 glOf 5000 172 (Ka6.map .pv) []) = some Kb6 := by kernel_rfl
theorem Ke15 : frozenP (runFE Ktb1 glOf 5000 152 (Ka15.map .pv) []) = some Kb15 := by kernel_rfl
theorem Ke19 : frozenP (runFE Ktb2 glOf 5000 160 (Ka19.map .pv) []) = some Kb19 := by kernel_rfl
theorem Ke29 : frozenP (runFE Ktb0 glOf 5000 80 (Ka29.map .pv) []) = some Kb29 := by kernel_rfl
theorem Ke35 : frozenP (runFE Ktb0 glOf 5000 110 (Ka35.map .pv) []) = some Kb35 := by kernel_rfl
theorem Ke38 : frozenP (runFE Ktb3 glOf 5000 110 (Ka38.map .pv) []) = some Kb38 := by kernel_rfl
theorem Ke44 : frozenP (runFE Ktb2 glOf 5000 113 (Ka44.map .pv) []) = some Kb44 := by kernel_rfl
theorem Ke48 : frozenP (runFE Ktb3 glOf 5000 110 (Ka48.map .pv) []) = some Kb48 := by kernel_rfl
theorem Ke56 : frozenP (runFE Ktb10 glOf 5000 7 (Ka56.map .pv) []) = some Kb56 := by kernel_rfl
theorem Ke59 : frozenP (runFE Ktb0 glOf 5000 80 (Ka59.map .pv) []) = some Kb59 := by kernel_rfl
theorem Ke61 : frozenP (runFE Ktb3 glOf 5000 110 (Ka61.map .pv) []) = some Kb61 := by kernel_rfl
theorem Ke63 : frozenP (runFE Ktb3 glOf 5000 356 (Ka63.map .pv) []) = some Kb63 := by kernel_rfl
theorem Ke65 : frozenP (runFE Ktb8 glOf 5000 409 (Ka65.map .pv) []) = some Kb65 := by kernel_rfl
theorem Ke66 : frozenP (runFE Ktb10 glOf 5000 7 (Ka66.map .pv) []) = some Kb66 := by kernel_rfl
theorem Ke70 : frozenP (runFE Ktb10 glOf 5000 7 (Ka70.map .pv) []) = some Kb70 := by kernel_rfl
theorem Ke80 : frozenP (runFE Ktb0 glOf 5000 172 (Ka80.map .pv) []) = some Kb80 := by kernel_rfl
theorem Ke81 : frozenP (runFE Ktb1 glOf 5000 152 (Ka81.map .pv) []) = some Kb81 := by kernel_rfl
theorem Ke82 : frozenP (runFE Ktb2 glOf 5000 165 (Ka82.map .pv) []) = some Kb82 := by kernel_rfl
theorem Ke83 : frozenP (runFE Ktb3 glOf 5000 157 (Ka83.map .pv) []) = some Kb83 := by kernel_rfl
theorem Ke86 : frozenP (runFE Ktb0 glOf 5000 172 (Ka86.map .pv) []) = some Kb86 := by kernel_rfl
theorem Ke90 : frozenP (runFE Ktb2 glOf 5000 160 (Ka90.map .pv) []) = some Kb90 := by kernel_rfl
theorem Ke109 : frozenP (runFE Ktb6 glOf 5000 68 (Ka109.map .pv) []) = some Kb109 := by kernel_rfl
theorem Ke111 : frozenP (runFE Ktb5 glOf 5000 69 (Ka111.map .pv) []) = some Kb111 := by kernel_rfl
theorem Ke114 : frozenP (runFE Ktb7 glOf 5000 36 (Ka114.map .pv) []) = some Kb114 := by kernel_rfl
theorem Ke115 : frozenP (runFE Ktb0 glOf 5000 80 (Ka115.map .pv) []) = some Kb115 := by kernel_rfl
theorem Ke132 : frozenP (runFE Ktb3 glOf 5000 356 (Ka132.map .pv) []) = some Kb132 := by kernel_rfl
theorem Ke133 : frozenP (runFE Ktb3 glOf 5000 356 (Ka133.map .pv) []) = some Kb133 := by kernel_rfl
theorem Ke135 : frozenP (runFE Ktb2 glOf 5000 113 (Ka135.map .pv) []) = some Kb135 := by kernel_rfl
theorem Ke144 : frozenP (runFE Ktb3 glOf 5000 110 (Ka144.map .pv) []) = some Kb144 := by kernel_rfl
theorem Ke147 : frozenP (runFE Ktb3 glOf 5000 356 (Ka147.map .pv) []) = some Kb147 := by kernel_rfl
theorem Ke161 : frozenP (runFE Ktb3 glOf 5000 110 (Ka161.map .pv) []) = some Kb161 := by kernel_rfl
theorem Ke164 : frozenP (runFE Ktb2 glOf 5000 113 (Ka164.map .pv) []) = some Kb164 := by kernel_rfl
theorem Ke168 : frozenP (runFE Ktb3 glOf 5000 110 (Ka168.map .pv) []) = some Kb168 := by kernel_rfl
theorem Ke174 : frozenP (runFE Ktb10 glOf 5000 7 (Ka174.map .pv) []) = some Kb174 := by kernel_rfl
theorem Ke175 : frozenP (runFE Ktb9 glOf 5000 28 (Ka175.map .pv) []) = some Kb175 := by kernel_rfl
theorem Ke178 : frozenP (runFE Ktb3 glOf 5000 356 (Ka178.map .pv) []) = some Kb178 := by kernel_rfl
theorem Ke183 : frozenP (runFE Ktb8 glOf 5000 409 (Ka183.map .pv) []) = some Kb183 := by kernel_rfl
theorem Ke188 : frozenP (runFE Ktb3 glOf 5000 356 (Ka188.map .pv) []) = some Kb188 := by kernel_rfl
theorem Ke195 : frozenP (runFE Ktb2 glOf 5000 113 (Ka195.map .pv) []) = some Kb195 := by kernel_rfl
theorem Ke197 : frozenP (runFE Ktb3 glOf 5000 110 (Ka197.map .pv) []) = some Kb197 := by kernel_rfl
theorem Ke199 : frozenP (runFE Ktb3 glOf 5000 110 (Ka199.map .pv) []) = some Kb199 := by kernel_rfl
theorem Ke204 : frozenP (runFE Ktb8 glOf 5000 409 (Ka204.map .pv) []) = some Kb204 := by kernel_rfl
theorem Ke211 : frozenP (runFE Ktb10 glOf 5000 7 (Ka211.map .pv) []) = some Kb211 := by kernel_rfl
theorem Ke213 : frozenP (runFE Ktb3 glOf 5000 110 (Ka213.map .pv) []) = some Kb213 := by kernel_rfl
theorem Ke226 : frozenP (runFE Ktb2 glOf 5000 113 (Ka226.map .pv) []) = some Kb226 := by kernel_rfl
theorem Ke230 : frozenP (runFE Ktb3 glOf 5000 110 (Ka230.map .pv) []) = some Kb230 := by kernel_rfl
theorem Ke231 : frozenP (runFE Ktb3 glOf 5000 110 (Ka231.map .pv) []) = some Kb231 := by kernel_rfl
theorem Ke232 : frozenP (runFE Ktb3 glOf 5000 356 (Ka232.map .pv) []) = some Kb232 := by kernel_rfl
theorem Ke238 : frozenP (runFE Ktb3 glOf 5000 110 (Ka238.map .pv) []) = some Kb238 := by kernel_rfl
theorem Ke239 : frozenP (runFE Ktb3 glOf 5000 110 (Ka239.map .pv) []) = some Kb239 := by kernel_rfl
end Go.Proofs.YtbkokdopdcegkaaGreatDoor
