/- Calls of this program, run in the kernel. -/
import Derived.Test.YtbkokdopdcegkaaGreatDoorKVals
set_option maxRecDepth 100000
namespace Go.Proofs.YtbkokdopdcegkaaGreatDoor
open Go.Vm Go.Proofs

theorem Ke7 : frozenP (runFE Ktb1 glOf 5000 152 (Ka7.map .pv) []) = some Kb7 := by kernel_rfl
theorem Ke8 : frozenP (runFE Ktb0 glOf 5000 172 (Ka8.map .pv) []) = some Kb8 := by kernel_rfl
theorem Ke18 : frozenP (runFE Ktb3 glOf 5000 157 (Ka18.map .pv) []) = some Kb18 := by kernel_rfl
theorem Ke20 : frozenP (runFE Ktb2 glOf 5000 160 (Ka20.map .pv) []) = some Kb20 := by kernel_rfl
theorem Ke24 : frozenP (runFE Ktb5 glOf 5000 6 (Ka24.map .pv) []) = some Kb24 := by kernel_rfl
theorem Ke25 : frozenP (runFE Ktb5 glOf 5000 120 (Ka25.map .pv) []) = some Kb25 := by kernel_rfl
theorem Ke26 : frozenP (runFE Ktb0 glOf 5000 80 (Ka26.map .pv) []) = some Kb26 := by kernel_rfl
theorem Ke27 : frozenP (runFE Ktb0 glOf 5000 80 (Ka27.map .pv) []) = some Kb27 := by kernel_rfl
theorem Ke32 : frozenP (runFE Ktb5 glOf 5000 69 (Ka32.map .pv) []) = some Kb32 := by kernel_rfl
theorem Ke37 : frozenP (runFE Ktb2 glOf 5000 113 (Ka37.map .pv) []) = some Kb37 := by kernel_rfl
theorem Ke41 : frozenP (runFE Ktb2 glOf 5000 113 (Ka41.map .pv) []) = some Kb41 := by kernel_rfl
theorem Ke50 : frozenP (runFE Ktb3 glOf 5000 110 (Ka50.map .pv) []) = some Kb50 := by kernel_rfl
theorem Ke51 : frozenP (runFE Ktb3 glOf 5000 110 (Ka51.map .pv) []) = some Kb51 := by kernel_rfl
theorem Ke54 : frozenP (runFE Ktb3 glOf 5000 356 (Ka54.map .pv) []) = some Kb54 := by kernel_rfl
theorem Ke60 : frozenP (runFE Ktb3 glOf 5000 110 (Ka60.map .pv) []) = some Kb60 := by kernel_rfl
theorem Ke73 : frozenP (runFE Ktb1 glOf 5000 152 (Ka73.map .pv) []) = some Kb73 := by kernel_rfl
theorem Ke76 : frozenP (runFE Ktb0 glOf 5000 172 (Ka76.map .pv) []) = some Kb76 := by kernel_rfl
theorem Ke85 : frozenP (runFE Ktb4 glOf 5000 106 (Ka85.map .pv) []) = some Kb85 := by kernel_rfl
theorem Ke87 : frozenP (runFE Ktb1 glOf 5000 152 (Ka87.map .pv) []) = some Kb87 := by kernel_rfl
theorem Ke94 : frozenP (runFE Ktb2 glOf 5000 160 (Ka94.map .pv) []) = some Kb94 := by kernel_rfl
theorem Ke100 : frozenP (runFE Ktb0 glOf 5000 172 (Ka100.map .pv) []) = some Kb100 := by kernel_rfl
theorem Ke106 : frozenP (runFE Ktb0 glOf 5000 80 (Ka106.map .pv) []) = some Kb106 := by kernel_rfl
theorem Ke107 : frozenP (runFE Ktb0 glOf 5000 80 (Ka107.map .pv) []) = some Kb107 := by kernel_rfl
theorem Ke112 : frozenP (runFE Ktb5 glOf 5000 69 (Ka112.map .pv) []) = some Kb112 := by kernel_rfl
theorem Ke113 : frozenP (runFE Ktb5 glOf 5000 69 (Ka113.map .pv) []) = some Kb113 := by kernel_rfl
theorem Ke120 : frozenP (runFE Ktb3 glOf 5000 356 (Ka120.map .pv) []) = some Kb120 := by kernel_rfl
theorem Ke125 : frozenP (runFE Ktb2 glOf 5000 113 (Ka125.map .pv) []) = some Kb125 := by kernel_rfl
theorem Ke130 : frozenP (runFE Ktb3 glOf 5000 356 (Ka130.map .pv) []) = some Kb130 := by kernel_rfl
theorem Ke136 : frozenP (runFE Ktb3 glOf 5000 110 (Ka136.map .pv) []) = some Kb136 := by kernel_rfl
theorem Ke140 : frozenP (runFE Ktb3 glOf 5000 356 (Ka140.map .pv) []) = some Kb140 := by kernel_rfl
theorem Ke146 : frozenP (runFE Ktb3 glOf 5000 356 (Ka146.map .pv) []) = some Kb146 := by kernel_rfl
theorem Ke150 : frozenP (runFE Ktb8 glOf 5000 409 (Ka150.map .pv) []) = some Kb150 := by kernel_rfl
theorem Ke162 : frozenP (runFE Ktb2 glOf 5000 113 (Ka162.map .pv) []) = some Kb162 := by kernel_rfl
theorem Ke165 : frozenP (runFE Ktb3 glOf 5000 110 (Ka165.map .pv) []) = some Kb165 := by kernel_rfl
theorem Ke169 : frozenP (runFE Ktb3 glOf 5000 110 (Ka169.map .pv) []) = some Kb169 := by kernel_rfl
theorem Ke172 : frozenP (runFE Ktb3 glOf 5000 356 (Ka172.map .pv) []) = some Kb172 := by kernel_rfl
theorem Ke184 : frozenP (runFE Ktb10 glOf 5000 7 (Ka184.map .pv) []) = some Kb184 := by kernel_rfl
theorem Ke189 : frozenP (runFE Ktb8 glOf 5000 409 (Ka189.map .pv) []) = some Kb189 := by kernel_rfl
theorem Ke193 : frozenP (runFE Ktb2 glOf 5000 113 (Ka193.map .pv) []) = some Kb193 := by kernel_rfl
theorem Ke196 : frozenP (runFE Ktb3 glOf 5000 110 (Ka196.map .pv) []) = some Kb196 := by kernel_rfl
theorem Ke205 : frozenP (runFE Ktb10 glOf 5000 7 (Ka205.map .pv) []) = some Kb205 := by kernel_rfl
theorem Ke207 : frozenP (runFE Ktb3 glOf 5000 110 (Ka207.map .pv) []) = some Kb207 := by kernel_rfl
theorem Ke209 : frozenP (runFE Ktb3 glOf 5000 356 (Ka209.map .pv) []) = some Kb209 := by kernel_rfl
theorem Ke210 : frozenP (runFE Ktb8 glOf 5000 409 (Ka210.map .pv) []) = some Kb210 := by kernel_rfl
theorem Ke216 : frozenP (runFE Ktb0 glOf 5000 172 (Ka216.map .pv) []) = some Kb216 := by kernel_rfl
theorem Ke224 : frozenP (runFE Ktb2 glOf 5000 113 (Ka224.map .pv) []) = some Kb224 := by kernel_rfl
theorem Ke227 : frozenP (runFE Ktb3 glOf 5000 110 (Ka227.map .pv) []) = some Kb227 := by kernel_rfl
theorem Ke242 : frozenP (runFE Ktb10 glOf 5000 7 (Ka242.map .pv) []) = some Kb242 := by kernel_rfl
theorem Ke244 : frozenP (runFE Ktb3 glOf 5000 110 (Ka244.map .pv) []) = some Kb244 := by kernel_rfl
theorem Ke245 : frozenP (runFE Ktb8 glOf 5000 409 (Ka245.map .pv) []) = some Kb245 := by kernel_rfl
end Go.Proofs.YtbkokdopdcegkaaGreatDoor
