/- Calls of this program, run in the kernel. -/
import Derived.Test.YtbkokdopdcegkaaGreatDoorKVals
set_option maxRecDepth 100000
namespace Go.Proofs.YtbkokdopdcegkaaGreatDoor
open Go.Vm Go.Proofs

theorem Ke3 : frozenP (runFE Ktb1 glOf 5000 152 (Ka3.map .pv) []) = some Kb3 := by kernel_rfl
theorem Ke4 : frozenP (runFE Ktb0 glOf 5000 172 (Ka4.map .pv) []) = some Kb4 := by kernel_rfl
theorem Ke13 : frozenP (runFE Ktb1 glOf 5000 152 (Ka13.map .pv) []) = some Kb13 := by kernel_rfl
theorem Ke14 : frozenP (runFE Ktb0 glOf 5000 172 (Ka14.map .pv) []) = some Kb14 := by kernel_rfl
theorem Ke16 : frozenP (runFE Ktb0 glOf 5000 217 (Ka16.map .pv) []) = some Kb16 := by kernel_rfl
theorem Ke23 : frozenP (runFE Ktb4 glOf 5000 106 (Ka23.map .pv) []) = some Kb23 := by kernel_rfl
theorem Ke34 : frozenP (runFE Ktb8 glOf 5000 20 (Ka34.map .pv) []) = some Kb34 := by kernel_rfl
theorem Ke39 : frozenP (runFE Ktb3 glOf 5000 356 (Ka39.map .pv) []) = some Kb39 := by kernel_rfl
theorem Ke40 : frozenP (runFE Ktb8 glOf 5000 409 (Ka40.map .pv) []) = some Kb40 := by kernel_rfl
theorem Ke46 : frozenP (runFE Ktb2 glOf 5000 113 (Ka46.map .pv) []) = some Kb46 := by kernel_rfl
theorem Ke47 : frozenP (runFE Ktb3 glOf 5000 110 (Ka47.map .pv) []) = some Kb47 := by kernel_rfl
theorem Ke69 : frozenP (runFE Ktb8 glOf 5000 409 (Ka69.map .pv) []) = some Kb69 := by kernel_rfl
theorem Ke79 : frozenP (runFE Ktb1 glOf 5000 152 (Ka79.map .pv) []) = some Kb79 := by kernel_rfl
theorem Ke84 : frozenP (runFE Ktb2 glOf 5000 160 (Ka84.map .pv) []) = some Kb84 := by kernel_rfl
theorem Ke92 : frozenP (runFE Ktb2 glOf 5000 165 (Ka92.map .pv) []) = some Kb92 := by kernel_rfl
theorem Ke97 : frozenP (runFE Ktb3 glOf 5000 157 (Ka97.map .pv) []) = some Kb97 := by kernel_rfl
theorem Ke98 : frozenP (runFE Ktb0 glOf 5000 160 (Ka98.map .pv) []) = some Kb98 := by kernel_rfl
theorem Ke99 : frozenP (runFE Ktb4 glOf 5000 106 (Ka99.map .pv) []) = some Kb99 := by kernel_rfl
theorem Ke103 : frozenP (runFE Ktb5 glOf 5000 120 (Ka103.map .pv) []) = some Kb103 := by kernel_rfl
theorem Ke105 : frozenP (runFE Ktb0 glOf 5000 80 (Ka105.map .pv) []) = some Kb105 := by kernel_rfl
theorem Ke116 : frozenP (runFE Ktb8 glOf 5000 20 (Ka116.map .pv) []) = some Kb116 := by kernel_rfl
theorem Ke122 : frozenP (runFE Ktb3 glOf 5000 356 (Ka122.map .pv) []) = some Kb122 := by kernel_rfl
theorem Ke123 : frozenP (runFE Ktb3 glOf 5000 356 (Ka123.map .pv) []) = some Kb123 := by kernel_rfl
theorem Ke126 : frozenP (runFE Ktb3 glOf 5000 110 (Ka126.map .pv) []) = some Kb126 := by kernel_rfl
theorem Ke141 : frozenP (runFE Ktb3 glOf 5000 356 (Ka141.map .pv) []) = some Kb141 := by kernel_rfl
theorem Ke143 : frozenP (runFE Ktb2 glOf 5000 113 (Ka143.map .pv) []) = some Kb143 := by kernel_rfl
theorem Ke151 : frozenP (runFE Ktb10 glOf 5000 7 (Ka151.map .pv) []) = some Kb151 := by kernel_rfl
theorem Ke152 : frozenP (runFE Ktb10 glOf 5000 7 (Ka152.map .pv) []) = some Kb152 := by kernel_rfl
theorem Ke153 : frozenP (runFE Ktb11 glOf 5000 9 (Ka153.map .pv) []) = some Kb153 := by kernel_rfl
theorem Ke163 : frozenP (runFE Ktb3 glOf 5000 110 (Ka163.map .pv) []) = some Kb163 := by kernel_rfl
theorem Ke167 : frozenP (runFE Ktb2 glOf 5000 113 (Ka167.map .pv) []) = some Kb167 := by kernel_rfl
theorem Ke171 : frozenP (runFE Ktb3 glOf 5000 356 (Ka171.map .pv) []) = some Kb171 := by kernel_rfl
theorem Ke176 : frozenP (runFE Ktb3 glOf 5000 110 (Ka176.map .pv) []) = some Kb176 := by kernel_rfl
theorem Ke182 : frozenP (runFE Ktb3 glOf 5000 110 (Ka182.map .pv) []) = some Kb182 := by kernel_rfl
theorem Ke185 : frozenP (runFE Ktb0 glOf 5000 172 (Ka185.map .pv) []) = some Kb185 := by kernel_rfl
theorem Ke194 : frozenP (runFE Ktb3 glOf 5000 110 (Ka194.map .pv) []) = some Kb194 := by kernel_rfl
theorem Ke198 : frozenP (runFE Ktb2 glOf 5000 113 (Ka198.map .pv) []) = some Kb198 := by kernel_rfl
theorem Ke200 : frozenP (runFE Ktb3 glOf 5000 110 (Ka200.map .pv) []) = some Kb200 := by kernel_rfl
theorem Ke203 : frozenP (runFE Ktb3 glOf 5000 356 (Ka203.map .pv) []) = some Kb203 := by kernel_rfl
theorem Ke219 : frozenP (runFE Ktb3 glOf 5000 356 (Ka219.map .pv) []) = some Kb219 := by kernel_rfl
theorem Ke220 : frozenP (runFE Ktb8 glOf 5000 409 (Ka220.map .pv) []) = some Kb220 := by kernel_rfl
theorem Ke225 : frozenP (runFE Ktb3 glOf 5000 110 (Ka225.map .pv) []) = some Kb225 := by kernel_rfl
theorem Ke228 : frozenP (runFE Ktb3 glOf 5000 110 (Ka228.map .pv) []) = some Kb228 := by kernel_rfl
theorem Ke229 : frozenP (runFE Ktb2 glOf 5000 113 (Ka229.map .pv) []) = some Kb229 := by kernel_rfl
theorem Ke235 : frozenP (runFE Ktb8 glOf 5000 409 (Ka235.map .pv) []) = some Kb235 := by kernel_rfl
theorem Ke236 : frozenP (runFE Ktb10 glOf 5000 7 (Ka236.map .pv) []) = some Kb236 := by kernel_rfl
theorem Ke240 : frozenP (runFE Ktb3 glOf 5000 356 (Ka240.map .pv) []) = some Kb240 := by kernel_rfl
theorem Ke241 : frozenP (runFE Ktb8 glOf 5000 409 (Ka241.map .pv) []) = some Kb241 := by kernel_rfl
theorem Ke243 : frozenP (runFE Ktb9 glOf 5000 28 (Ka243.map .pv) []) = some Kb243 := by kernel_rfl
theorem Ke246 : frozenP (runFE Ktb10 glOf 5000 7 (Ka246.map .pv) []) = some Kb246 := by kernel_rfl
end Go.Proofs.YtbkokdopdcegkaaGreatDoor
