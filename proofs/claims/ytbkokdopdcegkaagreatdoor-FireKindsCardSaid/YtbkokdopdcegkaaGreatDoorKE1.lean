/- Calls of this program, run in the kernel. -/
import Derived.Test.YtbkokdopdcegkaaGreatDoorKVals
set_option maxRecDepth 100000
namespace Go.Proofs.YtbkokdopdcegkaaGreatDoor
open Go.Vm Go.Proofs

theorem Ke1 : frozenP (runFE Ktb1 glOf 5000 24 (Ka1.map .pv) []) = some Kb1 := by kernel_rfl
theorem Ke2 : frozenP (runFE Ktb0 glOf 5000 172 (Ka2.map .pv) []) = some Kb2 := by kernel_rfl
theorem Ke11 : frozenP (runFE Ktb1 glOf 5000 152 (Ka11.map .pv) []) = some Kb11 := by kernel_rfl
theorem Ke12 : frozenP (runFE Ktb0 glOf 5000 172 (Ka12.map .pv) []) = some Kb12 := by kernel_rfl
theorem Ke17 : frozenP (runFE Ktb2 glOf 5000 165 (Ka17.map .pv) []) = some Kb17 := by kernel_rfl
theorem Ke21 : frozenP (runFE Ktb2 glOf 5000 160 (Ka21.map .pv) []) = some Kb21 := by kernel_rfl
theorem Ke28 : frozenP (runFE Ktb0 glOf 5000 80 (Ka28.map .pv) []) = some Kb28 := by kernel_rfl
theorem Ke30 : frozenP (runFE Ktb0 glOf 5000 80 (Ka30.map .pv) []) = some Kb30 := by kernel_rfl
theorem Ke31 : frozenP (runFE Ktb6 glOf 5000 68 (Ka31.map .pv) []) = some Kb31 := by kernel_rfl
theorem Ke42 : frozenP (runFE Ktb3 glOf 5000 110 (Ka42.map .pv) []) = some Kb42 := by kernel_rfl
theorem Ke49 : frozenP (runFE Ktb2 glOf 5000 113 (Ka49.map .pv) []) = some Kb49 := by kernel_rfl
theorem Ke52 : frozenP (runFE Ktb3 glOf 5000 356 (Ka52.map .pv) []) = some Kb52 := by kernel_rfl
theorem Ke57 : frozenP (runFE Ktb9 glOf 5000 28 (Ka57.map .pv) []) = some Kb57 := by kernel_rfl
theorem Ke58 : frozenP (runFE Ktb2 glOf 5000 113 (Ka58.map .pv) []) = some Kb58 := by kernel_rfl
theorem Ke64 : frozenP (runFE Ktb3 glOf 5000 356 (Ka64.map .pv) []) = some Kb64 := by kernel_rfl
theorem Ke67 : frozenP (runFE Ktb9 glOf 5000 28 (Ka67.map .pv) []) = some Kb67 := by kernel_rfl
theorem Ke68 : frozenP (runFE Ktb3 glOf 5000 110 (Ka68.map .pv) []) = some Kb68 := by kernel_rfl
theorem Ke74 : frozenP (runFE Ktb0 glOf 5000 172 (Ka74.map .pv) []) = some Kb74 := by kernel_rfl
theorem Ke77 : frozenP (runFE Ktb1 glOf 5000 152 (Ka77.map .pv) []) = some Kb77 := by kernel_rfl
theorem Ke78 : frozenP (runFE Ktb0 glOf 5000 172 (Ka78.map .pv) []) = some Kb78 := by kernel_rfl
theorem Ke89 : frozenP (runFE Ktb3 glOf 5000 157 (Ka89.map .pv) []) = some Kb89 := by kernel_rfl
theorem Ke96 : frozenP (runFE Ktb2 glOf 5000 165 (Ka96.map .pv) []) = some Kb96 := by kernel_rfl
theorem Ke104 : frozenP (runFE Ktb0 glOf 5000 80 (Ka104.map .pv) []) = some Kb104 := by kernel_rfl
theorem Ke110 : frozenP (runFE Ktb5 glOf 5000 69 (Ka110.map .pv) []) = some Kb110 := by kernel_rfl
theorem Ke117 : frozenP (runFE Ktb9 glOf 5000 28 (Ka117.map .pv) []) = some Kb117 := by kernel_rfl
theorem Ke129 : frozenP (runFE Ktb3 glOf 5000 110 (Ka129.map .pv) []) = some Kb129 := by kernel_rfl
theorem Ke134 : frozenP (runFE Ktb8 glOf 5000 409 (Ka134.map .pv) []) = some Kb134 := by kernel_rfl
theorem Ke138 : frozenP (runFE Ktb3 glOf 5000 356 (Ka138.map .pv) []) = some Kb138 := by kernel_rfl
theorem Ke145 : frozenP (runFE Ktb3 glOf 5000 110 (Ka145.map .pv) []) = some Kb145 := by kernel_rfl
theorem Ke149 : frozenP (runFE Ktb3 glOf 5000 356 (Ka149.map .pv) []) = some Kb149 := by kernel_rfl
theorem Ke154 : frozenP (runFE Ktb0 glOf 5000 172 (Ka154.map .pv) []) = some Kb154 := by kernel_rfl
theorem Ke155 : frozenP (runFE Ktb2 glOf 5000 113 (Ka155.map .pv) []) = some Kb155 := by kernel_rfl
theorem Ke156 : frozenP (runFE Ktb3 glOf 5000 110 (Ka156.map .pv) []) = some Kb156 := by kernel_rfl
theorem Ke157 : frozenP (runFE Ktb3 glOf 5000 356 (Ka157.map .pv) []) = some Kb157 := by kernel_rfl
theorem Ke166 : frozenP (runFE Ktb3 glOf 5000 110 (Ka166.map .pv) []) = some Kb166 := by kernel_rfl
theorem Ke173 : frozenP (runFE Ktb8 glOf 5000 409 (Ka173.map .pv) []) = some Kb173 := by kernel_rfl
theorem Ke181 : frozenP (runFE Ktb9 glOf 5000 28 (Ka181.map .pv) []) = some Kb181 := by kernel_rfl
theorem Ke186 : frozenP (runFE Ktb2 glOf 5000 113 (Ka186.map .pv) []) = some Kb186 := by kernel_rfl
theorem Ke187 : frozenP (runFE Ktb3 glOf 5000 110 (Ka187.map .pv) []) = some Kb187 := by kernel_rfl
theorem Ke201 : frozenP (runFE Ktb3 glOf 5000 356 (Ka201.map .pv) []) = some Kb201 := by kernel_rfl
theorem Ke208 : frozenP (runFE Ktb3 glOf 5000 110 (Ka208.map .pv) []) = some Kb208 := by kernel_rfl
theorem Ke217 : frozenP (runFE Ktb2 glOf 5000 113 (Ka217.map .pv) []) = some Kb217 := by kernel_rfl
theorem Ke218 : frozenP (runFE Ktb3 glOf 5000 110 (Ka218.map .pv) []) = some Kb218 := by kernel_rfl
theorem Ke223 : frozenP (runFE Ktb3 glOf 5000 110 (Ka223.map .pv) []) = some Kb223 := by kernel_rfl
theorem Ke233 : frozenP (runFE Ktb3 glOf 5000 356 (Ka233.map .pv) []) = some Kb233 := by kernel_rfl
theorem Ke237 : frozenP (runFE Ktb9 glOf 5000 28 (Ka237.map .pv) []) = some Kb237 := by kernel_rfl
end Go.Proofs.YtbkokdopdcegkaaGreatDoor
