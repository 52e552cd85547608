/- constablelaw23.FireSmall: lists of 5, 8 elements, round by round. -/
import Derived.Test.YtiajhfodfhmfaaaGreatDoorFsBase
set_option maxRecDepth 100000
set_option linter.unusedVariables false
set_option linter.unusedSectionVars false
namespace Go.Proofs.YtiajhfodfhmfaaaGreatDoor
open Go.Vm Go.Proofs
variable [SymV]
namespace FireSmall
theorem h8 (b0 b1 b2 b3 b4 b5 b6 b7 : Bool) (n : Int) : runPre Stb12 fn4 (glOf 4) (runFE Stb12 glOf 4999) 4999 pre (startE glOf 4 fn4 [.pv (.sl [.bool b0, .bool b1, .bool b2, .bool b3, .bool b4, .bool b5, .bool b6, .bool b7]), .pv (.int .i64 n)] []) = some (sB [.bool b0, .bool b1, .bool b2, .bool b3, .bool b4, .bool b5, .bool b6, .bool b7] n) := by kernel_rfl
theorem t8 (b0 b1 b2 b3 b4 b5 b6 b7 : Bool) (n : Int) : (cutAll 3891 3 0 (toL (glOf 4) 99 (sB [.bool b0, .bool b1, .bool b2, .bool b3, .bool b4, .bool b5, .bool b6, .bool b7] n).e)).set 1 (.pv (.sym 0)) = Tz [.bool b0, .bool b1, .bool b2, .bool b3, .bool b4, .bool b5, .bool b6, .bool b7] := by kernel_rfl
theorem k8 (b0 b1 b2 b3 b4 b5 b6 b7 : Bool) (n : Int) : (toL (glOf 4) 99 (sB [.bool b0, .bool b1, .bool b2, .bool b3, .bool b4, .bool b5, .bool b6, .bool b7] n).e)[1]? = some (.pv (.int .i64 (x n))) := by kernel_rfl
theorem m8 (b0 b1 b2 b3 b4 b5 b6 b7 : Bool) (n : Int) : (sB [.bool b0, .bool b1, .bool b2, .bool b3, .bool b4, .bool b5, .bool b6, .bool b7] n).m = M stZ := by kernel_rfl
theorem s8_7A0 (b0 b1 b2 b3 b4 b5 b6 : Bool) : roundT Stb12 fn4 glOf 4 4999 3 bd ⟨T [.bool b0, .bool b1, .bool b2, .bool b3, .bool b4, .bool b5, .bool b6, .bool false] 7 false false, M stA⟩ = some ⟨T [.bool b0, .bool b1, .bool b2, .bool b3, .bool b4, .bool b5, .bool b6, .bool false] 8 false true, M stB⟩ := by kernel_rfl
theorem s8_7A1 (b0 b1 b2 b3 b4 b5 b6 : Bool) : roundT Stb12 fn4 glOf 4 4999 3 bd ⟨T [.bool b0, .bool b1, .bool b2, .bool b3, .bool b4, .bool b5, .bool b6, .bool true] 7 false false, M stA⟩ = some ⟨T [.bool b0, .bool b1, .bool b2, .bool b3, .bool b4, .bool b5, .bool b6, .bool true] 8 false false, M stA⟩ := by kernel_rfl
theorem s8_7B0 (b0 b1 b2 b3 b4 b5 b6 : Bool) : roundT Stb12 fn4 glOf 4 4999 3 bd ⟨T [.bool b0, .bool b1, .bool b2, .bool b3, .bool b4, .bool b5, .bool b6, .bool false] 7 false true, M stB⟩ = some ⟨T [.bool b0, .bool b1, .bool b2, .bool b3, .bool b4, .bool b5, .bool b6, .bool false] 8 true true, M stC⟩ := by kernel_rfl
theorem s8_7B1 (b0 b1 b2 b3 b4 b5 b6 : Bool) : roundT Stb12 fn4 glOf 4 4999 3 bd ⟨T [.bool b0, .bool b1, .bool b2, .bool b3, .bool b4, .bool b5, .bool b6, .bool true] 7 false true, M stB⟩ = some ⟨T [.bool b0, .bool b1, .bool b2, .bool b3, .bool b4, .bool b5, .bool b6, .bool true] 8 false false, M stA⟩ := by kernel_rfl
theorem s8_7C0 (b0 b1 b2 b3 b4 b5 b6 : Bool) : roundT Stb12 fn4 glOf 4 4999 3 bd ⟨T [.bool b0, .bool b1, .bool b2, .bool b3, .bool b4, .bool b5, .bool b6, .bool false] 7 true true, M stC⟩ = some ⟨T [.bool b0, .bool b1, .bool b2, .bool b3, .bool b4, .bool b5, .bool b6, .bool false] 8 true true, M stC⟩ := by kernel_rfl
theorem s8_7C1 (b0 b1 b2 b3 b4 b5 b6 : Bool) : roundT Stb12 fn4 glOf 4 4999 3 bd ⟨T [.bool b0, .bool b1, .bool b2, .bool b3, .bool b4, .bool b5, .bool b6, .bool true] 7 true true, M stC⟩ = some ⟨T [.bool b0, .bool b1, .bool b2, .bool b3, .bool b4, .bool b5, .bool b6, .bool true] 8 false false, M stA⟩ := by kernel_rfl
theorem s8_6A0 (b0 b1 b2 b3 b4 b5 b7 : Bool) : roundT Stb12 fn4 glOf 4 4999 3 bd ⟨T [.bool b0, .bool b1, .bool b2, .bool b3, .bool b4, .bool b5, .bool false, .bool b7] 6 false false, M stA⟩ = some ⟨T [.bool b0, .bool b1, .bool b2, .bool b3, .bool b4, .bool b5, .bool false, .bool b7] 7 false true, M stB⟩ := by kernel_rfl
theorem s8_6A1 (b0 b1 b2 b3 b4 b5 b7 : Bool) : roundT Stb12 fn4 glOf 4 4999 3 bd ⟨T [.bool b0, .bool b1, .bool b2, .bool b3, .bool b4, .bool b5, .bool true, .bool b7] 6 false false, M stA⟩ = some ⟨T [.bool b0, .bool b1, .bool b2, .bool b3, .bool b4, .bool b5, .bool true, .bool b7] 7 false false, M stA⟩ := by kernel_rfl
theorem s8_6B0 (b0 b1 b2 b3 b4 b5 b7 : Bool) : roundT Stb12 fn4 glOf 4 4999 3 bd ⟨T [.bool b0, .bool b1, .bool b2, .bool b3, .bool b4, .bool b5, .bool false, .bool b7] 6 false true, M stB⟩ = some ⟨T [.bool b0, .bool b1, .bool b2, .bool b3, .bool b4, .bool b5, .bool false, .bool b7] 7 true true, M stC⟩ := by kernel_rfl
theorem s8_6B1 (b0 b1 b2 b3 b4 b5 b7 : Bool) : roundT Stb12 fn4 glOf 4 4999 3 bd ⟨T [.bool b0, .bool b1, .bool b2, .bool b3, .bool b4, .bool b5, .bool true, .bool b7] 6 false true, M stB⟩ = some ⟨T [.bool b0, .bool b1, .bool b2, .bool b3, .bool b4, .bool b5, .bool true, .bool b7] 7 false false, M stA⟩ := by kernel_rfl
theorem s8_6C0 (b0 b1 b2 b3 b4 b5 b7 : Bool) : roundT Stb12 fn4 glOf 4 4999 3 bd ⟨T [.bool b0, .bool b1, .bool b2, .bool b3, .bool b4, .bool b5, .bool false, .bool b7] 6 true true, M stC⟩ = some ⟨T [.bool b0, .bool b1, .bool b2, .bool b3, .bool b4, .bool b5, .bool false, .bool b7] 7 true true, M stC⟩ := by kernel_rfl
theorem s8_6C1 (b0 b1 b2 b3 b4 b5 b7 : Bool) : roundT Stb12 fn4 glOf 4 4999 3 bd ⟨T [.bool b0, .bool b1, .bool b2, .bool b3, .bool b4, .bool b5, .bool true, .bool b7] 6 true true, M stC⟩ = some ⟨T [.bool b0, .bool b1, .bool b2, .bool b3, .bool b4, .bool b5, .bool true, .bool b7] 7 false false, M stA⟩ := by kernel_rfl
theorem s8_5A0 (b0 b1 b2 b3 b4 b6 b7 : Bool) : roundT Stb12 fn4 glOf 4 4999 3 bd ⟨T [.bool b0, .bool b1, .bool b2, .bool b3, .bool b4, .bool false, .bool b6, .bool b7] 5 false false, M stA⟩ = some ⟨T [.bool b0, .bool b1, .bool b2, .bool b3, .bool b4, .bool false, .bool b6, .bool b7] 6 false true, M stB⟩ := by kernel_rfl
theorem s8_5A1 (b0 b1 b2 b3 b4 b6 b7 : Bool) : roundT Stb12 fn4 glOf 4 4999 3 bd ⟨T [.bool b0, .bool b1, .bool b2, .bool b3, .bool b4, .bool true, .bool b6, .bool b7] 5 false false, M stA⟩ = some ⟨T [.bool b0, .bool b1, .bool b2, .bool b3, .bool b4, .bool true, .bool b6, .bool b7] 6 false false, M stA⟩ := by kernel_rfl
theorem s8_5B0 (b0 b1 b2 b3 b4 b6 b7 : Bool) : roundT Stb12 fn4 glOf 4 4999 3 bd ⟨T [.bool b0, .bool b1, .bool b2, .bool b3, .bool b4, .bool false, .bool b6, .bool b7] 5 false true, M stB⟩ = some ⟨T [.bool b0, .bool b1, .bool b2, .bool b3, .bool b4, .bool false, .bool b6, .bool b7] 6 true true, M stC⟩ := by kernel_rfl
theorem s8_5B1 (b0 b1 b2 b3 b4 b6 b7 : Bool) : roundT Stb12 fn4 glOf 4 4999 3 bd ⟨T [.bool b0, .bool b1, .bool b2, .bool b3, .bool b4, .bool true, .bool b6, .bool b7] 5 false true, M stB⟩ = some ⟨T [.bool b0, .bool b1, .bool b2, .bool b3, .bool b4, .bool true, .bool b6, .bool b7] 6 false false, M stA⟩ := by kernel_rfl
theorem s8_5C0 (b0 b1 b2 b3 b4 b6 b7 : Bool) : roundT Stb12 fn4 glOf 4 4999 3 bd ⟨T [.bool b0, .bool b1, .bool b2, .bool b3, .bool b4, .bool false, .bool b6, .bool b7] 5 true true, M stC⟩ = some ⟨T [.bool b0, .bool b1, .bool b2, .bool b3, .bool b4, .bool false, .bool b6, .bool b7] 6 true true, M stC⟩ := by kernel_rfl
theorem s8_5C1 (b0 b1 b2 b3 b4 b6 b7 : Bool) : roundT Stb12 fn4 glOf 4 4999 3 bd ⟨T [.bool b0, .bool b1, .bool b2, .bool b3, .bool b4, .bool true, .bool b6, .bool b7] 5 true true, M stC⟩ = some ⟨T [.bool b0, .bool b1, .bool b2, .bool b3, .bool b4, .bool true, .bool b6, .bool b7] 6 false false, M stA⟩ := by kernel_rfl
theorem s8_4A0 (b0 b1 b2 b3 b5 b6 b7 : Bool) : roundT Stb12 fn4 glOf 4 4999 3 bd ⟨T [.bool b0, .bool b1, .bool b2, .bool b3, .bool false, .bool b5, .bool b6, .bool b7] 4 false false, M stA⟩ = some ⟨T [.bool b0, .bool b1, .bool b2, .bool b3, .bool false, .bool b5, .bool b6, .bool b7] 5 false true, M stB⟩ := by kernel_rfl
theorem s8_4A1 (b0 b1 b2 b3 b5 b6 b7 : Bool) : roundT Stb12 fn4 glOf 4 4999 3 bd ⟨T [.bool b0, .bool b1, .bool b2, .bool b3, .bool true, .bool b5, .bool b6, .bool b7] 4 false false, M stA⟩ = some ⟨T [.bool b0, .bool b1, .bool b2, .bool b3, .bool true, .bool b5, .bool b6, .bool b7] 5 false false, M stA⟩ := by kernel_rfl
theorem s8_4B0 (b0 b1 b2 b3 b5 b6 b7 : Bool) : roundT Stb12 fn4 glOf 4 4999 3 bd ⟨T [.bool b0, .bool b1, .bool b2, .bool b3, .bool false, .bool b5, .bool b6, .bool b7] 4 false true, M stB⟩ = some ⟨T [.bool b0, .bool b1, .bool b2, .bool b3, .bool false, .bool b5, .bool b6, .bool b7] 5 true true, M stC⟩ := by kernel_rfl
theorem s8_4B1 (b0 b1 b2 b3 b5 b6 b7 : Bool) : roundT Stb12 fn4 glOf 4 4999 3 bd ⟨T [.bool b0, .bool b1, .bool b2, .bool b3, .bool true, .bool b5, .bool b6, .bool b7] 4 false true, M stB⟩ = some ⟨T [.bool b0, .bool b1, .bool b2, .bool b3, .bool true, .bool b5, .bool b6, .bool b7] 5 false false, M stA⟩ := by kernel_rfl
theorem s8_4C0 (b0 b1 b2 b3 b5 b6 b7 : Bool) : roundT Stb12 fn4 glOf 4 4999 3 bd ⟨T [.bool b0, .bool b1, .bool b2, .bool b3, .bool false, .bool b5, .bool b6, .bool b7] 4 true true, M stC⟩ = some ⟨T [.bool b0, .bool b1, .bool b2, .bool b3, .bool false, .bool b5, .bool b6, .bool b7] 5 true true, M stC⟩ := by kernel_rfl
theorem s8_4C1 (b0 b1 b2 b3 b5 b6 b7 : Bool) : roundT Stb12 fn4 glOf 4 4999 3 bd ⟨T [.bool b0, .bool b1, .bool b2, .bool b3, .bool true, .bool b5, .bool b6, .bool b7] 4 true true, M stC⟩ = some ⟨T [.bool b0, .bool b1, .bool b2, .bool b3, .bool true, .bool b5, .bool b6, .bool b7] 5 false false, M stA⟩ := by kernel_rfl
theorem s8_3A0 (b0 b1 b2 b4 b5 b6 b7 : Bool) : roundT Stb12 fn4 glOf 4 4999 3 bd ⟨T [.bool b0, .bool b1, .bool b2, .bool false, .bool b4, .bool b5, .bool b6, .bool b7] 3 false false, M stA⟩ = some ⟨T [.bool b0, .bool b1, .bool b2, .bool false, .bool b4, .bool b5, .bool b6, .bool b7] 4 false true, M stB⟩ := by kernel_rfl
theorem s8_3A1 (b0 b1 b2 b4 b5 b6 b7 : Bool) : roundT Stb12 fn4 glOf 4 4999 3 bd ⟨T [.bool b0, .bool b1, .bool b2, .bool true, .bool b4, .bool b5, .bool b6, .bool b7] 3 false false, M stA⟩ = some ⟨T [.bool b0, .bool b1, .bool b2, .bool true, .bool b4, .bool b5, .bool b6, .bool b7] 4 false false, M stA⟩ := by kernel_rfl
theorem s8_3B0 (b0 b1 b2 b4 b5 b6 b7 : Bool) : roundT Stb12 fn4 glOf 4 4999 3 bd ⟨T [.bool b0, .bool b1, .bool b2, .bool false, .bool b4, .bool b5, .bool b6, .bool b7] 3 false true, M stB⟩ = some ⟨T [.bool b0, .bool b1, .bool b2, .bool false, .bool b4, .bool b5, .bool b6, .bool b7] 4 true true, M stC⟩ := by kernel_rfl
theorem s8_3B1 (b0 b1 b2 b4 b5 b6 b7 : Bool) : roundT Stb12 fn4 glOf 4 4999 3 bd ⟨T [.bool b0, .bool b1, .bool b2, .bool true, .bool b4, .bool b5, .bool b6, .bool b7] 3 false true, M stB⟩ = some ⟨T [.bool b0, .bool b1, .bool b2, .bool true, .bool b4, .bool b5, .bool b6, .bool b7] 4 false false, M stA⟩ := by kernel_rfl
theorem s8_3C0 (b0 b1 b2 b4 b5 b6 b7 : Bool) : roundT Stb12 fn4 glOf 4 4999 3 bd ⟨T [.bool b0, .bool b1, .bool b2, .bool false, .bool b4, .bool b5, .bool b6, .bool b7] 3 true true, M stC⟩ = some ⟨T [.bool b0, .bool b1, .bool b2, .bool false, .bool b4, .bool b5, .bool b6, .bool b7] 4 true true, M stC⟩ := by kernel_rfl
theorem s8_3C1 (b0 b1 b2 b4 b5 b6 b7 : Bool) : roundT Stb12 fn4 glOf 4 4999 3 bd ⟨T [.bool b0, .bool b1, .bool b2, .bool true, .bool b4, .bool b5, .bool b6, .bool b7] 3 true true, M stC⟩ = some ⟨T [.bool b0, .bool b1, .bool b2, .bool true, .bool b4, .bool b5, .bool b6, .bool b7] 4 false false, M stA⟩ := by kernel_rfl
theorem s8_2A0 (b0 b1 b3 b4 b5 b6 b7 : Bool) : roundT Stb12 fn4 glOf 4 4999 3 bd ⟨T [.bool b0, .bool b1, .bool false, .bool b3, .bool b4, .bool b5, .bool b6, .bool b7] 2 false false, M stA⟩ = some ⟨T [.bool b0, .bool b1, .bool false, .bool b3, .bool b4, .bool b5, .bool b6, .bool b7] 3 false true, M stB⟩ := by kernel_rfl
theorem s8_2A1 (b0 b1 b3 b4 b5 b6 b7 : Bool) : roundT Stb12 fn4 glOf 4 4999 3 bd ⟨T [.bool b0, .bool b1, .bool true, .bool b3, .bool b4, .bool b5, .bool b6, .bool b7] 2 false false, M stA⟩ = some ⟨T [.bool b0, .bool b1, .bool true, .bool b3, .bool b4, .bool b5, .bool b6, .bool b7] 3 false false, M stA⟩ := by kernel_rfl
theorem s8_2B0 (b0 b1 b3 b4 b5 b6 b7 : Bool) : roundT Stb12 fn4 glOf 4 4999 3 bd ⟨T [.bool b0, .bool b1, .bool false, .bool b3, .bool b4, .bool b5, .bool b6, .bool b7] 2 false true, M stB⟩ = some ⟨T [.bool b0, .bool b1, .bool false, .bool b3, .bool b4, .bool b5, .bool b6, .bool b7] 3 true true, M stC⟩ := by kernel_rfl
theorem s8_2B1 (b0 b1 b3 b4 b5 b6 b7 : Bool) : roundT Stb12 fn4 glOf 4 4999 3 bd ⟨T [.bool b0, .bool b1, .bool true, .bool b3, .bool b4, .bool b5, .bool b6, .bool b7] 2 false true, M stB⟩ = some ⟨T [.bool b0, .bool b1, .bool true, .bool b3, .bool b4, .bool b5, .bool b6, .bool b7] 3 false false, M stA⟩ := by kernel_rfl
theorem s8_2C0 (b0 b1 b3 b4 b5 b6 b7 : Bool) : roundT Stb12 fn4 glOf 4 4999 3 bd ⟨T [.bool b0, .bool b1, .bool false, .bool b3, .bool b4, .bool b5, .bool b6, .bool b7] 2 true true, M stC⟩ = some ⟨T [.bool b0, .bool b1, .bool false, .bool b3, .bool b4, .bool b5, .bool b6, .bool b7] 3 true true, M stC⟩ := by kernel_rfl
theorem s8_2C1 (b0 b1 b3 b4 b5 b6 b7 : Bool) : roundT Stb12 fn4 glOf 4 4999 3 bd ⟨T [.bool b0, .bool b1, .bool true, .bool b3, .bool b4, .bool b5, .bool b6, .bool b7] 2 true true, M stC⟩ = some ⟨T [.bool b0, .bool b1, .bool true, .bool b3, .bool b4, .bool b5, .bool b6, .bool b7] 3 false false, M stA⟩ := by kernel_rfl
theorem s8_1A0 (b0 b2 b3 b4 b5 b6 b7 : Bool) : roundT Stb12 fn4 glOf 4 4999 3 bd ⟨T [.bool b0, .bool false, .bool b2, .bool b3, .bool b4, .bool b5, .bool b6, .bool b7] 1 false false, M stA⟩ = some ⟨T [.bool b0, .bool false, .bool b2, .bool b3, .bool b4, .bool b5, .bool b6, .bool b7] 2 false true, M stB⟩ := by kernel_rfl
theorem s8_1A1 (b0 b2 b3 b4 b5 b6 b7 : Bool) : roundT Stb12 fn4 glOf 4 4999 3 bd ⟨T [.bool b0, .bool true, .bool b2, .bool b3, .bool b4, .bool b5, .bool b6, .bool b7] 1 false false, M stA⟩ = some ⟨T [.bool b0, .bool true, .bool b2, .bool b3, .bool b4, .bool b5, .bool b6, .bool b7] 2 false false, M stA⟩ := by kernel_rfl
theorem s8_1B0 (b0 b2 b3 b4 b5 b6 b7 : Bool) : roundT Stb12 fn4 glOf 4 4999 3 bd ⟨T [.bool b0, .bool false, .bool b2, .bool b3, .bool b4, .bool b5, .bool b6, .bool b7] 1 false true, M stB⟩ = some ⟨T [.bool b0, .bool false, .bool b2, .bool b3, .bool b4, .bool b5, .bool b6, .bool b7] 2 true true, M stC⟩ := by kernel_rfl
theorem s8_1B1 (b0 b2 b3 b4 b5 b6 b7 : Bool) : roundT Stb12 fn4 glOf 4 4999 3 bd ⟨T [.bool b0, .bool true, .bool b2, .bool b3, .bool b4, .bool b5, .bool b6, .bool b7] 1 false true, M stB⟩ = some ⟨T [.bool b0, .bool true, .bool b2, .bool b3, .bool b4, .bool b5, .bool b6, .bool b7] 2 false false, M stA⟩ := by kernel_rfl
theorem s8_1C0 (b0 b2 b3 b4 b5 b6 b7 : Bool) : roundT Stb12 fn4 glOf 4 4999 3 bd ⟨T [.bool b0, .bool false, .bool b2, .bool b3, .bool b4, .bool b5, .bool b6, .bool b7] 1 true true, M stC⟩ = some ⟨T [.bool b0, .bool false, .bool b2, .bool b3, .bool b4, .bool b5, .bool b6, .bool b7] 2 true true, M stC⟩ := by kernel_rfl
theorem s8_1C1 (b0 b2 b3 b4 b5 b6 b7 : Bool) : roundT Stb12 fn4 glOf 4 4999 3 bd ⟨T [.bool b0, .bool true, .bool b2, .bool b3, .bool b4, .bool b5, .bool b6, .bool b7] 1 true true, M stC⟩ = some ⟨T [.bool b0, .bool true, .bool b2, .bool b3, .bool b4, .bool b5, .bool b6, .bool b7] 2 false false, M stA⟩ := by kernel_rfl
theorem s8_0Z0 (b1 b2 b3 b4 b5 b6 b7 : Bool) : roundT Stb12 fn4 glOf 4 4999 3 bd ⟨T [.bool false, .bool b1, .bool b2, .bool b3, .bool b4, .bool b5, .bool b6, .bool b7] 0 false false, M stZ⟩ = some ⟨T [.bool false, .bool b1, .bool b2, .bool b3, .bool b4, .bool b5, .bool b6, .bool b7] 1 false true, M stB⟩ := by kernel_rfl
theorem s8_0Z1 (b1 b2 b3 b4 b5 b6 b7 : Bool) : roundT Stb12 fn4 glOf 4 4999 3 bd ⟨T [.bool true, .bool b1, .bool b2, .bool b3, .bool b4, .bool b5, .bool b6, .bool b7] 0 false false, M stZ⟩ = some ⟨T [.bool true, .bool b1, .bool b2, .bool b3, .bool b4, .bool b5, .bool b6, .bool b7] 1 false false, M stA⟩ := by kernel_rfl
theorem g8_8A (b0 b1 b2 b3 b4 b5 b6 b7 : Bool) (k : Nat) : endT Stb12 fn4 (cont (lp (k + 1) ⟨T [.bool b0, .bool b1, .bool b2, .bool b3, .bool b4, .bool b5, .bool b6, .bool b7] 8 false false, M stA⟩)) = true := by kernel_rfl
theorem g8_8B (b0 b1 b2 b3 b4 b5 b6 b7 : Bool) (k : Nat) : endT Stb12 fn4 (cont (lp (k + 1) ⟨T [.bool b0, .bool b1, .bool b2, .bool b3, .bool b4, .bool b5, .bool b6, .bool b7] 8 false true, M stB⟩)) = true := by kernel_rfl
theorem g8_8C (b0 b1 b2 b3 b4 b5 b6 b7 : Bool) (k : Nat) : endT Stb12 fn4 (cont (lp (k + 1) ⟨T [.bool b0, .bool b1, .bool b2, .bool b3, .bool b4, .bool b5, .bool b6, .bool b7] 8 true true, M stC⟩)) = true := by kernel_rfl
theorem g8_7A (b0 b1 b2 b3 b4 b5 b6 b7 : Bool) (k : Nat) : endT Stb12 fn4 (cont (lp (k + 1 + 1) ⟨T [.bool b0, .bool b1, .bool b2, .bool b3, .bool b4, .bool b5, .bool b6, .bool b7] 7 false false, M stA⟩)) = true := by
  cases b7
  · exact (congrArg (fun q => endT Stb12 fn4 (cont q)) (loop_round (k := k + 1) (gls := glOf) (f := 4) rfl (T_length _ _ _ _) (s8_7A0 b0 b1 b2 b3 b4 b5 b6))).trans (g8_8B b0 b1 b2 b3 b4 b5 b6 false k)
  · exact (congrArg (fun q => endT Stb12 fn4 (cont q)) (loop_round (k := k + 1) (gls := glOf) (f := 4) rfl (T_length _ _ _ _) (s8_7A1 b0 b1 b2 b3 b4 b5 b6))).trans (g8_8A b0 b1 b2 b3 b4 b5 b6 true k)
theorem g8_7B (b0 b1 b2 b3 b4 b5 b6 b7 : Bool) (k : Nat) : endT Stb12 fn4 (cont (lp (k + 1 + 1) ⟨T [.bool b0, .bool b1, .bool b2, .bool b3, .bool b4, .bool b5, .bool b6, .bool b7] 7 false true, M stB⟩)) = true := by
  cases b7
  · exact (congrArg (fun q => endT Stb12 fn4 (cont q)) (loop_round (k := k + 1) (gls := glOf) (f := 4) rfl (T_length _ _ _ _) (s8_7B0 b0 b1 b2 b3 b4 b5 b6))).trans (g8_8C b0 b1 b2 b3 b4 b5 b6 false k)
  · exact (congrArg (fun q => endT Stb12 fn4 (cont q)) (loop_round (k := k + 1) (gls := glOf) (f := 4) rfl (T_length _ _ _ _) (s8_7B1 b0 b1 b2 b3 b4 b5 b6))).trans (g8_8A b0 b1 b2 b3 b4 b5 b6 true k)
theorem g8_7C (b0 b1 b2 b3 b4 b5 b6 b7 : Bool) (k : Nat) : endT Stb12 fn4 (cont (lp (k + 1 + 1) ⟨T [.bool b0, .bool b1, .bool b2, .bool b3, .bool b4, .bool b5, .bool b6, .bool b7] 7 true true, M stC⟩)) = true := by
  cases b7
  · exact (congrArg (fun q => endT Stb12 fn4 (cont q)) (loop_round (k := k + 1) (gls := glOf) (f := 4) rfl (T_length _ _ _ _) (s8_7C0 b0 b1 b2 b3 b4 b5 b6))).trans (g8_8C b0 b1 b2 b3 b4 b5 b6 false k)
  · exact (congrArg (fun q => endT Stb12 fn4 (cont q)) (loop_round (k := k + 1) (gls := glOf) (f := 4) rfl (T_length _ _ _ _) (s8_7C1 b0 b1 b2 b3 b4 b5 b6))).trans (g8_8A b0 b1 b2 b3 b4 b5 b6 true k)
theorem g8_6A (b0 b1 b2 b3 b4 b5 b6 b7 : Bool) (k : Nat) : endT Stb12 fn4 (cont (lp (k + 2 + 1) ⟨T [.bool b0, .bool b1, .bool b2, .bool b3, .bool b4, .bool b5, .bool b6, .bool b7] 6 false false, M stA⟩)) = true := by
  cases b6
  · exact (congrArg (fun q => endT Stb12 fn4 (cont q)) (loop_round (k := k + 2) (gls := glOf) (f := 4) rfl (T_length _ _ _ _) (s8_6A0 b0 b1 b2 b3 b4 b5 b7))).trans (g8_7B b0 b1 b2 b3 b4 b5 false b7 k)
  · exact (congrArg (fun q => endT Stb12 fn4 (cont q)) (loop_round (k := k + 2) (gls := glOf) (f := 4) rfl (T_length _ _ _ _) (s8_6A1 b0 b1 b2 b3 b4 b5 b7))).trans (g8_7A b0 b1 b2 b3 b4 b5 true b7 k)
theorem g8_6B (b0 b1 b2 b3 b4 b5 b6 b7 : Bool) (k : Nat) : endT Stb12 fn4 (cont (lp (k + 2 + 1) ⟨T [.bool b0, .bool b1, .bool b2, .bool b3, .bool b4, .bool b5, .bool b6, .bool b7] 6 false true, M stB⟩)) = true := by
  cases b6
  · exact (congrArg (fun q => endT Stb12 fn4 (cont q)) (loop_round (k := k + 2) (gls := glOf) (f := 4) rfl (T_length _ _ _ _) (s8_6B0 b0 b1 b2 b3 b4 b5 b7))).trans (g8_7C b0 b1 b2 b3 b4 b5 false b7 k)
  · exact (congrArg (fun q => endT Stb12 fn4 (cont q)) (loop_round (k := k + 2) (gls := glOf) (f := 4) rfl (T_length _ _ _ _) (s8_6B1 b0 b1 b2 b3 b4 b5 b7))).trans (g8_7A b0 b1 b2 b3 b4 b5 true b7 k)
theorem g8_6C (b0 b1 b2 b3 b4 b5 b6 b7 : Bool) (k : Nat) : endT Stb12 fn4 (cont (lp (k + 2 + 1) ⟨T [.bool b0, .bool b1, .bool b2, .bool b3, .bool b4, .bool b5, .bool b6, .bool b7] 6 true true, M stC⟩)) = true := by
  cases b6
  · exact (congrArg (fun q => endT Stb12 fn4 (cont q)) (loop_round (k := k + 2) (gls := glOf) (f := 4) rfl (T_length _ _ _ _) (s8_6C0 b0 b1 b2 b3 b4 b5 b7))).trans (g8_7C b0 b1 b2 b3 b4 b5 false b7 k)
  · exact (congrArg (fun q => endT Stb12 fn4 (cont q)) (loop_round (k := k + 2) (gls := glOf) (f := 4) rfl (T_length _ _ _ _) (s8_6C1 b0 b1 b2 b3 b4 b5 b7))).trans (g8_7A b0 b1 b2 b3 b4 b5 true b7 k)
theorem g8_5A (b0 b1 b2 b3 b4 b5 b6 b7 : Bool) (k : Nat) : endT Stb12 fn4 (cont (lp (k + 3 + 1) ⟨T [.bool b0, .bool b1, .bool b2, .bool b3, .bool b4, .bool b5, .bool b6, .bool b7] 5 false false, M stA⟩)) = true := by
  cases b5
  · exact (congrArg (fun q => endT Stb12 fn4 (cont q)) (loop_round (k := k + 3) (gls := glOf) (f := 4) rfl (T_length _ _ _ _) (s8_5A0 b0 b1 b2 b3 b4 b6 b7))).trans (g8_6B b0 b1 b2 b3 b4 false b6 b7 k)
  · exact (congrArg (fun q => endT Stb12 fn4 (cont q)) (loop_round (k := k + 3) (gls := glOf) (f := 4) rfl (T_length _ _ _ _) (s8_5A1 b0 b1 b2 b3 b4 b6 b7))).trans (g8_6A b0 b1 b2 b3 b4 true b6 b7 k)
theorem g8_5B (b0 b1 b2 b3 b4 b5 b6 b7 : Bool) (k : Nat) : endT Stb12 fn4 (cont (lp (k + 3 + 1) ⟨T [.bool b0, .bool b1, .bool b2, .bool b3, .bool b4, .bool b5, .bool b6, .bool b7] 5 false true, M stB⟩)) = true := by
  cases b5
  · exact (congrArg (fun q => endT Stb12 fn4 (cont q)) (loop_round (k := k + 3) (gls := glOf) (f := 4) rfl (T_length _ _ _ _) (s8_5B0 b0 b1 b2 b3 b4 b6 b7))).trans (g8_6C b0 b1 b2 b3 b4 false b6 b7 k)
  · exact (congrArg (fun q => endT Stb12 fn4 (cont q)) (loop_round (k := k + 3) (gls := glOf) (f := 4) rfl (T_length _ _ _ _) (s8_5B1 b0 b1 b2 b3 b4 b6 b7))).trans (g8_6A b0 b1 b2 b3 b4 true b6 b7 k)
theorem g8_5C (b0 b1 b2 b3 b4 b5 b6 b7 : Bool) (k : Nat) : endT Stb12 fn4 (cont (lp (k + 3 + 1) ⟨T [.bool b0, .bool b1, .bool b2, .bool b3, .bool b4, .bool b5, .bool b6, .bool b7] 5 true true, M stC⟩)) = true := by
  cases b5
  · exact (congrArg (fun q => endT Stb12 fn4 (cont q)) (loop_round (k := k + 3) (gls := glOf) (f := 4) rfl (T_length _ _ _ _) (s8_5C0 b0 b1 b2 b3 b4 b6 b7))).trans (g8_6C b0 b1 b2 b3 b4 false b6 b7 k)
  · exact (congrArg (fun q => endT Stb12 fn4 (cont q)) (loop_round (k := k + 3) (gls := glOf) (f := 4) rfl (T_length _ _ _ _) (s8_5C1 b0 b1 b2 b3 b4 b6 b7))).trans (g8_6A b0 b1 b2 b3 b4 true b6 b7 k)
theorem g8_4A (b0 b1 b2 b3 b4 b5 b6 b7 : Bool) (k : Nat) : endT Stb12 fn4 (cont (lp (k + 4 + 1) ⟨T [.bool b0, .bool b1, .bool b2, .bool b3, .bool b4, .bool b5, .bool b6, .bool b7] 4 false false, M stA⟩)) = true := by
  cases b4
  · exact (congrArg (fun q => endT Stb12 fn4 (cont q)) (loop_round (k := k + 4) (gls := glOf) (f := 4) rfl (T_length _ _ _ _) (s8_4A0 b0 b1 b2 b3 b5 b6 b7))).trans (g8_5B b0 b1 b2 b3 false b5 b6 b7 k)
  · exact (congrArg (fun q => endT Stb12 fn4 (cont q)) (loop_round (k := k + 4) (gls := glOf) (f := 4) rfl (T_length _ _ _ _) (s8_4A1 b0 b1 b2 b3 b5 b6 b7))).trans (g8_5A b0 b1 b2 b3 true b5 b6 b7 k)
theorem g8_4B (b0 b1 b2 b3 b4 b5 b6 b7 : Bool) (k : Nat) : endT Stb12 fn4 (cont (lp (k + 4 + 1) ⟨T [.bool b0, .bool b1, .bool b2, .bool b3, .bool b4, .bool b5, .bool b6, .bool b7] 4 false true, M stB⟩)) = true := by
  cases b4
  · exact (congrArg (fun q => endT Stb12 fn4 (cont q)) (loop_round (k := k + 4) (gls := glOf) (f := 4) rfl (T_length _ _ _ _) (s8_4B0 b0 b1 b2 b3 b5 b6 b7))).trans (g8_5C b0 b1 b2 b3 false b5 b6 b7 k)
  · exact (congrArg (fun q => endT Stb12 fn4 (cont q)) (loop_round (k := k + 4) (gls := glOf) (f := 4) rfl (T_length _ _ _ _) (s8_4B1 b0 b1 b2 b3 b5 b6 b7))).trans (g8_5A b0 b1 b2 b3 true b5 b6 b7 k)
theorem g8_4C (b0 b1 b2 b3 b4 b5 b6 b7 : Bool) (k : Nat) : endT Stb12 fn4 (cont (lp (k + 4 + 1) ⟨T [.bool b0, .bool b1, .bool b2, .bool b3, .bool b4, .bool b5, .bool b6, .bool b7] 4 true true, M stC⟩)) = true := by
  cases b4
  · exact (congrArg (fun q => endT Stb12 fn4 (cont q)) (loop_round (k := k + 4) (gls := glOf) (f := 4) rfl (T_length _ _ _ _) (s8_4C0 b0 b1 b2 b3 b5 b6 b7))).trans (g8_5C b0 b1 b2 b3 false b5 b6 b7 k)
  · exact (congrArg (fun q => endT Stb12 fn4 (cont q)) (loop_round (k := k + 4) (gls := glOf) (f := 4) rfl (T_length _ _ _ _) (s8_4C1 b0 b1 b2 b3 b5 b6 b7))).trans (g8_5A b0 b1 b2 b3 true b5 b6 b7 k)
theorem g8_3A (b0 b1 b2 b3 b4 b5 b6 b7 : Bool) (k : Nat) : endT Stb12 fn4 (cont (lp (k + 5 + 1) ⟨T [.bool b0, .bool b1, .bool b2, .bool b3, .bool b4, .bool b5, .bool b6, .bool b7] 3 false false, M stA⟩)) = true := by
  cases b3
  · exact (congrArg (fun q => endT Stb12 fn4 (cont q)) (loop_round (k := k + 5) (gls := glOf) (f := 4) rfl (T_length _ _ _ _) (s8_3A0 b0 b1 b2 b4 b5 b6 b7))).trans (g8_4B b0 b1 b2 false b4 b5 b6 b7 k)
  · exact (congrArg (fun q => endT Stb12 fn4 (cont q)) (loop_round (k := k + 5) (gls := glOf) (f := 4) rfl (T_length _ _ _ _) (s8_3A1 b0 b1 b2 b4 b5 b6 b7))).trans (g8_4A b0 b1 b2 true b4 b5 b6 b7 k)
theorem g8_3B (b0 b1 b2 b3 b4 b5 b6 b7 : Bool) (k : Nat) : endT Stb12 fn4 (cont (lp (k + 5 + 1) ⟨T [.bool b0, .bool b1, .bool b2, .bool b3, .bool b4, .bool b5, .bool b6, .bool b7] 3 false true, M stB⟩)) = true := by
  cases b3
  · exact (congrArg (fun q => endT Stb12 fn4 (cont q)) (loop_round (k := k + 5) (gls := glOf) (f := 4) rfl (T_length _ _ _ _) (s8_3B0 b0 b1 b2 b4 b5 b6 b7))).trans (g8_4C b0 b1 b2 false b4 b5 b6 b7 k)
  · exact (congrArg (fun q => endT Stb12 fn4 (cont q)) (loop_round (k := k + 5) (gls := glOf) (f := 4) rfl (T_length _ _ _ _) (s8_3B1 b0 b1 b2 b4 b5 b6 b7))).trans (g8_4A b0 b1 b2 true b4 b5 b6 b7 k)
theorem g8_3C (b0 b1 b2 b3 b4 b5 b6 b7 : Bool) (k : Nat) : endT Stb12 fn4 (cont (lp (k + 5 + 1) ⟨T [.bool b0, .bool b1, .bool b2, .bool b3, .bool b4, .bool b5, .bool b6, .bool b7] 3 true true, M stC⟩)) = true := by
  cases b3
  · exact (congrArg (fun q => endT Stb12 fn4 (cont q)) (loop_round (k := k + 5) (gls := glOf) (f := 4) rfl (T_length _ _ _ _) (s8_3C0 b0 b1 b2 b4 b5 b6 b7))).trans (g8_4C b0 b1 b2 false b4 b5 b6 b7 k)
  · exact (congrArg (fun q => endT Stb12 fn4 (cont q)) (loop_round (k := k + 5) (gls := glOf) (f := 4) rfl (T_length _ _ _ _) (s8_3C1 b0 b1 b2 b4 b5 b6 b7))).trans (g8_4A b0 b1 b2 true b4 b5 b6 b7 k)
theorem g8_2A (b0 b1 b2 b3 b4 b5 b6 b7 : Bool) (k : Nat) : endT Stb12 fn4 (cont (lp (k + 6 + 1) ⟨T [.bool b0, .bool b1, .bool b2, .bool b3, .bool b4, .bool b5, .bool b6, .bool b7] 2 false false, M stA⟩)) = true := by
  cases b2
  · exact (congrArg (fun q => endT Stb12 fn4 (cont q)) (loop_round (k := k + 6) (gls := glOf) (f := 4) rfl (T_length _ _ _ _) (s8_2A0 b0 b1 b3 b4 b5 b6 b7))).trans (g8_3B b0 b1 false b3 b4 b5 b6 b7 k)
  · exact (congrArg (fun q => endT Stb12 fn4 (cont q)) (loop_round (k := k + 6) (gls := glOf) (f := 4) rfl (T_length _ _ _ _) (s8_2A1 b0 b1 b3 b4 b5 b6 b7))).trans (g8_3A b0 b1 true b3 b4 b5 b6 b7 k)
theorem g8_2B (b0 b1 b2 b3 b4 b5 b6 b7 : Bool) (k : Nat) : endT Stb12 fn4 (cont (lp (k + 6 + 1) ⟨T [.bool b0, .bool b1, .bool b2, .bool b3, .bool b4, .bool b5, .bool b6, .bool b7] 2 false true, M stB⟩)) = true := by
  cases b2
  · exact (congrArg (fun q => endT Stb12 fn4 (cont q)) (loop_round (k := k + 6) (gls := glOf) (f := 4) rfl (T_length _ _ _ _) (s8_2B0 b0 b1 b3 b4 b5 b6 b7))).trans (g8_3C b0 b1 false b3 b4 b5 b6 b7 k)
  · exact (congrArg (fun q => endT Stb12 fn4 (cont q)) (loop_round (k := k + 6) (gls := glOf) (f := 4) rfl (T_length _ _ _ _) (s8_2B1 b0 b1 b3 b4 b5 b6 b7))).trans (g8_3A b0 b1 true b3 b4 b5 b6 b7 k)
theorem g8_2C (b0 b1 b2 b3 b4 b5 b6 b7 : Bool) (k : Nat) : endT Stb12 fn4 (cont (lp (k + 6 + 1) ⟨T [.bool b0, .bool b1, .bool b2, .bool b3, .bool b4, .bool b5, .bool b6, .bool b7] 2 true true, M stC⟩)) = true := by
  cases b2
  · exact (congrArg (fun q => endT Stb12 fn4 (cont q)) (loop_round (k := k + 6) (gls := glOf) (f := 4) rfl (T_length _ _ _ _) (s8_2C0 b0 b1 b3 b4 b5 b6 b7))).trans (g8_3C b0 b1 false b3 b4 b5 b6 b7 k)
  · exact (congrArg (fun q => endT Stb12 fn4 (cont q)) (loop_round (k := k + 6) (gls := glOf) (f := 4) rfl (T_length _ _ _ _) (s8_2C1 b0 b1 b3 b4 b5 b6 b7))).trans (g8_3A b0 b1 true b3 b4 b5 b6 b7 k)
theorem g8_1A (b0 b1 b2 b3 b4 b5 b6 b7 : Bool) (k : Nat) : endT Stb12 fn4 (cont (lp (k + 7 + 1) ⟨T [.bool b0, .bool b1, .bool b2, .bool b3, .bool b4, .bool b5, .bool b6, .bool b7] 1 false false, M stA⟩)) = true := by
  cases b1
  · exact (congrArg (fun q => endT Stb12 fn4 (cont q)) (loop_round (k := k + 7) (gls := glOf) (f := 4) rfl (T_length _ _ _ _) (s8_1A0 b0 b2 b3 b4 b5 b6 b7))).trans (g8_2B b0 false b2 b3 b4 b5 b6 b7 k)
  · exact (congrArg (fun q => endT Stb12 fn4 (cont q)) (loop_round (k := k + 7) (gls := glOf) (f := 4) rfl (T_length _ _ _ _) (s8_1A1 b0 b2 b3 b4 b5 b6 b7))).trans (g8_2A b0 true b2 b3 b4 b5 b6 b7 k)
theorem g8_1B (b0 b1 b2 b3 b4 b5 b6 b7 : Bool) (k : Nat) : endT Stb12 fn4 (cont (lp (k + 7 + 1) ⟨T [.bool b0, .bool b1, .bool b2, .bool b3, .bool b4, .bool b5, .bool b6, .bool b7] 1 false true, M stB⟩)) = true := by
  cases b1
  · exact (congrArg (fun q => endT Stb12 fn4 (cont q)) (loop_round (k := k + 7) (gls := glOf) (f := 4) rfl (T_length _ _ _ _) (s8_1B0 b0 b2 b3 b4 b5 b6 b7))).trans (g8_2C b0 false b2 b3 b4 b5 b6 b7 k)
  · exact (congrArg (fun q => endT Stb12 fn4 (cont q)) (loop_round (k := k + 7) (gls := glOf) (f := 4) rfl (T_length _ _ _ _) (s8_1B1 b0 b2 b3 b4 b5 b6 b7))).trans (g8_2A b0 true b2 b3 b4 b5 b6 b7 k)
theorem g8_1C (b0 b1 b2 b3 b4 b5 b6 b7 : Bool) (k : Nat) : endT Stb12 fn4 (cont (lp (k + 7 + 1) ⟨T [.bool b0, .bool b1, .bool b2, .bool b3, .bool b4, .bool b5, .bool b6, .bool b7] 1 true true, M stC⟩)) = true := by
  cases b1
  · exact (congrArg (fun q => endT Stb12 fn4 (cont q)) (loop_round (k := k + 7) (gls := glOf) (f := 4) rfl (T_length _ _ _ _) (s8_1C0 b0 b2 b3 b4 b5 b6 b7))).trans (g8_2C b0 false b2 b3 b4 b5 b6 b7 k)
  · exact (congrArg (fun q => endT Stb12 fn4 (cont q)) (loop_round (k := k + 7) (gls := glOf) (f := 4) rfl (T_length _ _ _ _) (s8_1C1 b0 b2 b3 b4 b5 b6 b7))).trans (g8_2A b0 true b2 b3 b4 b5 b6 b7 k)
theorem g8_0Z (b0 b1 b2 b3 b4 b5 b6 b7 : Bool) (k : Nat) : endT Stb12 fn4 (cont (lp (k + 8 + 1) ⟨T [.bool b0, .bool b1, .bool b2, .bool b3, .bool b4, .bool b5, .bool b6, .bool b7] 0 false false, M stZ⟩)) = true := by
  cases b0
  · exact (congrArg (fun q => endT Stb12 fn4 (cont q)) (loop_round (k := k + 8) (gls := glOf) (f := 4) rfl (T_length _ _ _ _) (s8_0Z0 b1 b2 b3 b4 b5 b6 b7))).trans (g8_1B false b1 b2 b3 b4 b5 b6 b7 k)
  · exact (congrArg (fun q => endT Stb12 fn4 (cont q)) (loop_round (k := k + 8) (gls := glOf) (f := 4) rfl (T_length _ _ _ _) (s8_0Z1 b1 b2 b3 b4 b5 b6 b7))).trans (g8_1A true b1 b2 b3 b4 b5 b6 b7 k)
theorem h5 (b0 b1 b2 b3 b4 : Bool) (n : Int) : runPre Stb12 fn4 (glOf 4) (runFE Stb12 glOf 4999) 4999 pre (startE glOf 4 fn4 [.pv (.sl [.bool b0, .bool b1, .bool b2, .bool b3, .bool b4]), .pv (.int .i64 n)] []) = some (sB [.bool b0, .bool b1, .bool b2, .bool b3, .bool b4] n) := by kernel_rfl
theorem t5 (b0 b1 b2 b3 b4 : Bool) (n : Int) : (cutAll 3891 3 0 (toL (glOf 4) 99 (sB [.bool b0, .bool b1, .bool b2, .bool b3, .bool b4] n).e)).set 1 (.pv (.sym 0)) = Tz [.bool b0, .bool b1, .bool b2, .bool b3, .bool b4] := by kernel_rfl
theorem k5 (b0 b1 b2 b3 b4 : Bool) (n : Int) : (toL (glOf 4) 99 (sB [.bool b0, .bool b1, .bool b2, .bool b3, .bool b4] n).e)[1]? = some (.pv (.int .i64 (x n))) := by kernel_rfl
theorem m5 (b0 b1 b2 b3 b4 : Bool) (n : Int) : (sB [.bool b0, .bool b1, .bool b2, .bool b3, .bool b4] n).m = M stZ := by kernel_rfl
theorem s5_4A0 (b0 b1 b2 b3 : Bool) : roundT Stb12 fn4 glOf 4 4999 3 bd ⟨T [.bool b0, .bool b1, .bool b2, .bool b3, .bool false] 4 false false, M stA⟩ = some ⟨T [.bool b0, .bool b1, .bool b2, .bool b3, .bool false] 5 false true, M stB⟩ := by kernel_rfl
theorem s5_4A1 (b0 b1 b2 b3 : Bool) : roundT Stb12 fn4 glOf 4 4999 3 bd ⟨T [.bool b0, .bool b1, .bool b2, .bool b3, .bool true] 4 false false, M stA⟩ = some ⟨T [.bool b0, .bool b1, .bool b2, .bool b3, .bool true] 5 false false, M stA⟩ := by kernel_rfl
theorem s5_4B0 (b0 b1 b2 b3 : Bool) : roundT Stb12 fn4 glOf 4 4999 3 bd ⟨T [.bool b0, .bool b1, .bool b2, .bool b3, .bool false] 4 false true, M stB⟩ = some ⟨T [.bool b0, .bool b1, .bool b2, .bool b3, .bool false] 5 true true, M stC⟩ := by kernel_rfl
theorem s5_4B1 (b0 b1 b2 b3 : Bool) : roundT Stb12 fn4 glOf 4 4999 3 bd ⟨T [.bool b0, .bool b1, .bool b2, .bool b3, .bool true] 4 false true, M stB⟩ = some ⟨T [.bool b0, .bool b1, .bool b2, .bool b3, .bool true] 5 false false, M stA⟩ := by kernel_rfl
theorem s5_4C0 (b0 b1 b2 b3 : Bool) : roundT Stb12 fn4 glOf 4 4999 3 bd ⟨T [.bool b0, .bool b1, .bool b2, .bool b3, .bool false] 4 true true, M stC⟩ = some ⟨T [.bool b0, .bool b1, .bool b2, .bool b3, .bool false] 5 true true, M stC⟩ := by kernel_rfl
theorem s5_4C1 (b0 b1 b2 b3 : Bool) : roundT Stb12 fn4 glOf 4 4999 3 bd ⟨T [.bool b0, .bool b1, .bool b2, .bool b3, .bool true] 4 true true, M stC⟩ = some ⟨T [.bool b0, .bool b1, .bool b2, .bool b3, .bool true] 5 false false, M stA⟩ := by kernel_rfl
theorem s5_3A0 (b0 b1 b2 b4 : Bool) : roundT Stb12 fn4 glOf 4 4999 3 bd ⟨T [.bool b0, .bool b1, .bool b2, .bool false, .bool b4] 3 false false, M stA⟩ = some ⟨T [.bool b0, .bool b1, .bool b2, .bool false, .bool b4] 4 false true, M stB⟩ := by kernel_rfl
theorem s5_3A1 (b0 b1 b2 b4 : Bool) : roundT Stb12 fn4 glOf 4 4999 3 bd ⟨T [.bool b0, .bool b1, .bool b2, .bool true, .bool b4] 3 false false, M stA⟩ = some ⟨T [.bool b0, .bool b1, .bool b2, .bool true, .bool b4] 4 false false, M stA⟩ := by kernel_rfl
theorem s5_3B0 (b0 b1 b2 b4 : Bool) : roundT Stb12 fn4 glOf 4 4999 3 bd ⟨T [.bool b0, .bool b1, .bool b2, .bool false, .bool b4] 3 false true, M stB⟩ = some ⟨T [.bool b0, .bool b1, .bool b2, .bool false, .bool b4] 4 true true, M stC⟩ := by kernel_rfl
theorem s5_3B1 (b0 b1 b2 b4 : Bool) : roundT Stb12 fn4 glOf 4 4999 3 bd ⟨T [.bool b0, .bool b1, .bool b2, .bool true, .bool b4] 3 false true, M stB⟩ = some ⟨T [.bool b0, .bool b1, .bool b2, .bool true, .bool b4] 4 false false, M stA⟩ := by kernel_rfl
theorem s5_3C0 (b0 b1 b2 b4 : Bool) : roundT Stb12 fn4 glOf 4 4999 3 bd ⟨T [.bool b0, .bool b1, .bool b2, .bool false, .bool b4] 3 true true, M stC⟩ = some ⟨T [.bool b0, .bool b1, .bool b2, .bool false, .bool b4] 4 true true, M stC⟩ := by kernel_rfl
theorem s5_3C1 (b0 b1 b2 b4 : Bool) : roundT Stb12 fn4 glOf 4 4999 3 bd ⟨T [.bool b0, .bool b1, .bool b2, .bool true, .bool b4] 3 true true, M stC⟩ = some ⟨T [.bool b0, .bool b1, .bool b2, .bool true, .bool b4] 4 false false, M stA⟩ := by kernel_rfl
theorem s5_2A0 (b0 b1 b3 b4 : Bool) : roundT Stb12 fn4 glOf 4 4999 3 bd ⟨T [.bool b0, .bool b1, .bool false, .bool b3, .bool b4] 2 false false, M stA⟩ = some ⟨T [.bool b0, .bool b1, .bool false, .bool b3, .bool b4] 3 false true, M stB⟩ := by kernel_rfl
theorem s5_2A1 (b0 b1 b3 b4 : Bool) : roundT Stb12 fn4 glOf 4 4999 3 bd ⟨T [.bool b0, .bool b1, .bool true, .bool b3, .bool b4] 2 false false, M stA⟩ = some ⟨T [.bool b0, .bool b1, .bool true, .bool b3, .bool b4] 3 false false, M stA⟩ := by kernel_rfl
theorem s5_2B0 (b0 b1 b3 b4 : Bool) : roundT Stb12 fn4 glOf 4 4999 3 bd ⟨T [.bool b0, .bool b1, .bool false, .bool b3, .bool b4] 2 false true, M stB⟩ = some ⟨T [.bool b0, .bool b1, .bool false, .bool b3, .bool b4] 3 true true, M stC⟩ := by kernel_rfl
theorem s5_2B1 (b0 b1 b3 b4 : Bool) : roundT Stb12 fn4 glOf 4 4999 3 bd ⟨T [.bool b0, .bool b1, .bool true, .bool b3, .bool b4] 2 false true, M stB⟩ = some ⟨T [.bool b0, .bool b1, .bool true, .bool b3, .bool b4] 3 false false, M stA⟩ := by kernel_rfl
theorem s5_2C0 (b0 b1 b3 b4 : Bool) : roundT Stb12 fn4 glOf 4 4999 3 bd ⟨T [.bool b0, .bool b1, .bool false, .bool b3, .bool b4] 2 true true, M stC⟩ = some ⟨T [.bool b0, .bool b1, .bool false, .bool b3, .bool b4] 3 true true, M stC⟩ := by kernel_rfl
theorem s5_2C1 (b0 b1 b3 b4 : Bool) : roundT Stb12 fn4 glOf 4 4999 3 bd ⟨T [.bool b0, .bool b1, .bool true, .bool b3, .bool b4] 2 true true, M stC⟩ = some ⟨T [.bool b0, .bool b1, .bool true, .bool b3, .bool b4] 3 false false, M stA⟩ := by kernel_rfl
theorem s5_1A0 (b0 b2 b3 b4 : Bool) : roundT Stb12 fn4 glOf 4 4999 3 bd ⟨T [.bool b0, .bool false, .bool b2, .bool b3, .bool b4] 1 false false, M stA⟩ = some ⟨T [.bool b0, .bool false, .bool b2, .bool b3, .bool b4] 2 false true, M stB⟩ := by kernel_rfl
theorem s5_1A1 (b0 b2 b3 b4 : Bool) : roundT Stb12 fn4 glOf 4 4999 3 bd ⟨T [.bool b0, .bool true, .bool b2, .bool b3, .bool b4] 1 false false, M stA⟩ = some ⟨T [.bool b0, .bool true, .bool b2, .bool b3, .bool b4] 2 false false, M stA⟩ := by kernel_rfl
theorem s5_1B0 (b0 b2 b3 b4 : Bool) : roundT Stb12 fn4 glOf 4 4999 3 bd ⟨T [.bool b0, .bool false, .bool b2, .bool b3, .bool b4] 1 false true, M stB⟩ = some ⟨T [.bool b0, .bool false, .bool b2, .bool b3, .bool b4] 2 true true, M stC⟩ := by kernel_rfl
theorem s5_1B1 (b0 b2 b3 b4 : Bool) : roundT Stb12 fn4 glOf 4 4999 3 bd ⟨T [.bool b0, .bool true, .bool b2, .bool b3, .bool b4] 1 false true, M stB⟩ = some ⟨T [.bool b0, .bool true, .bool b2, .bool b3, .bool b4] 2 false false, M stA⟩ := by kernel_rfl
theorem s5_1C0 (b0 b2 b3 b4 : Bool) : roundT Stb12 fn4 glOf 4 4999 3 bd ⟨T [.bool b0, .bool false, .bool b2, .bool b3, .bool b4] 1 true true, M stC⟩ = some ⟨T [.bool b0, .bool false, .bool b2, .bool b3, .bool b4] 2 true true, M stC⟩ := by kernel_rfl
theorem s5_1C1 (b0 b2 b3 b4 : Bool) : roundT Stb12 fn4 glOf 4 4999 3 bd ⟨T [.bool b0, .bool true, .bool b2, .bool b3, .bool b4] 1 true true, M stC⟩ = some ⟨T [.bool b0, .bool true, .bool b2, .bool b3, .bool b4] 2 false false, M stA⟩ := by kernel_rfl
theorem s5_0Z0 (b1 b2 b3 b4 : Bool) : roundT Stb12 fn4 glOf 4 4999 3 bd ⟨T [.bool false, .bool b1, .bool b2, .bool b3, .bool b4] 0 false false, M stZ⟩ = some ⟨T [.bool false, .bool b1, .bool b2, .bool b3, .bool b4] 1 false true, M stB⟩ := by kernel_rfl
theorem s5_0Z1 (b1 b2 b3 b4 : Bool) : roundT Stb12 fn4 glOf 4 4999 3 bd ⟨T [.bool true, .bool b1, .bool b2, .bool b3, .bool b4] 0 false false, M stZ⟩ = some ⟨T [.bool true, .bool b1, .bool b2, .bool b3, .bool b4] 1 false false, M stA⟩ := by kernel_rfl
theorem g5_5A (b0 b1 b2 b3 b4 : Bool) (k : Nat) : endT Stb12 fn4 (cont (lp (k + 1) ⟨T [.bool b0, .bool b1, .bool b2, .bool b3, .bool b4] 5 false false, M stA⟩)) = true := by kernel_rfl
theorem g5_5B (b0 b1 b2 b3 b4 : Bool) (k : Nat) : endT Stb12 fn4 (cont (lp (k + 1) ⟨T [.bool b0, .bool b1, .bool b2, .bool b3, .bool b4] 5 false true, M stB⟩)) = true := by kernel_rfl
theorem g5_5C (b0 b1 b2 b3 b4 : Bool) (k : Nat) : endT Stb12 fn4 (cont (lp (k + 1) ⟨T [.bool b0, .bool b1, .bool b2, .bool b3, .bool b4] 5 true true, M stC⟩)) = true := by kernel_rfl
theorem g5_4A (b0 b1 b2 b3 b4 : Bool) (k : Nat) : endT Stb12 fn4 (cont (lp (k + 1 + 1) ⟨T [.bool b0, .bool b1, .bool b2, .bool b3, .bool b4] 4 false false, M stA⟩)) = true := by
  cases b4
  · exact (congrArg (fun q => endT Stb12 fn4 (cont q)) (loop_round (k := k + 1) (gls := glOf) (f := 4) rfl (T_length _ _ _ _) (s5_4A0 b0 b1 b2 b3))).trans (g5_5B b0 b1 b2 b3 false k)
  · exact (congrArg (fun q => endT Stb12 fn4 (cont q)) (loop_round (k := k + 1) (gls := glOf) (f := 4) rfl (T_length _ _ _ _) (s5_4A1 b0 b1 b2 b3))).trans (g5_5A b0 b1 b2 b3 true k)
theorem g5_4B (b0 b1 b2 b3 b4 : Bool) (k : Nat) : endT Stb12 fn4 (cont (lp (k + 1 + 1) ⟨T [.bool b0, .bool b1, .bool b2, .bool b3, .bool b4] 4 false true, M stB⟩)) = true := by
  cases b4
  · exact (congrArg (fun q => endT Stb12 fn4 (cont q)) (loop_round (k := k + 1) (gls := glOf) (f := 4) rfl (T_length _ _ _ _) (s5_4B0 b0 b1 b2 b3))).trans (g5_5C b0 b1 b2 b3 false k)
  · exact (congrArg (fun q => endT Stb12 fn4 (cont q)) (loop_round (k := k + 1) (gls := glOf) (f := 4) rfl (T_length _ _ _ _) (s5_4B1 b0 b1 b2 b3))).trans (g5_5A b0 b1 b2 b3 true k)
theorem g5_4C (b0 b1 b2 b3 b4 : Bool) (k : Nat) : endT Stb12 fn4 (cont (lp (k + 1 + 1) ⟨T [.bool b0, .bool b1, .bool b2, .bool b3, .bool b4] 4 true true, M stC⟩)) = true := by
  cases b4
  · exact (congrArg (fun q => endT Stb12 fn4 (cont q)) (loop_round (k := k + 1) (gls := glOf) (f := 4) rfl (T_length _ _ _ _) (s5_4C0 b0 b1 b2 b3))).trans (g5_5C b0 b1 b2 b3 false k)
  · exact (congrArg (fun q => endT Stb12 fn4 (cont q)) (loop_round (k := k + 1) (gls := glOf) (f := 4) rfl (T_length _ _ _ _) (s5_4C1 b0 b1 b2 b3))).trans (g5_5A b0 b1 b2 b3 true k)
theorem g5_3A (b0 b1 b2 b3 b4 : Bool) (k : Nat) : endT Stb12 fn4 (cont (lp (k + 2 + 1) ⟨T [.bool b0, .bool b1, .bool b2, .bool b3, .bool b4] 3 false false, M stA⟩)) = true := by
  cases b3
  · exact (congrArg (fun q => endT Stb12 fn4 (cont q)) (loop_round (k := k + 2) (gls := glOf) (f := 4) rfl (T_length _ _ _ _) (s5_3A0 b0 b1 b2 b4))).trans (g5_4B b0 b1 b2 false b4 k)
  · exact (congrArg (fun q => endT Stb12 fn4 (cont q)) (loop_round (k := k + 2) (gls := glOf) (f := 4) rfl (T_length _ _ _ _) (s5_3A1 b0 b1 b2 b4))).trans (g5_4A b0 b1 b2 true b4 k)
theorem g5_3B (b0 b1 b2 b3 b4 : Bool) (k : Nat) : endT Stb12 fn4 (cont (lp (k + 2 + 1) ⟨T [.bool b0, .bool b1, .bool b2, .bool b3, .bool b4] 3 false true, M stB⟩)) = true := by
  cases b3
  · exact (congrArg (fun q => endT Stb12 fn4 (cont q)) (loop_round (k := k + 2) (gls := glOf) (f := 4) rfl (T_length _ _ _ _) (s5_3B0 b0 b1 b2 b4))).trans (g5_4C b0 b1 b2 false b4 k)
  · exact (congrArg (fun q => endT Stb12 fn4 (cont q)) (loop_round (k := k + 2) (gls := glOf) (f := 4) rfl (T_length _ _ _ _) (s5_3B1 b0 b1 b2 b4))).trans (g5_4A b0 b1 b2 true b4 k)
theorem g5_3C (b0 b1 b2 b3 b4 : Bool) (k : Nat) : endT Stb12 fn4 (cont (lp (k + 2 + 1) ⟨T [.bool b0, .bool b1, .bool b2, .bool b3, .bool b4] 3 true true, M stC⟩)) = true := by
  cases b3
  · exact (congrArg (fun q => endT Stb12 fn4 (cont q)) (loop_round (k := k + 2) (gls := glOf) (f := 4) rfl (T_length _ _ _ _) (s5_3C0 b0 b1 b2 b4))).trans (g5_4C b0 b1 b2 false b4 k)
  · exact (congrArg (fun q => endT Stb12 fn4 (cont q)) (loop_round (k := k + 2) (gls := glOf) (f := 4) rfl (T_length _ _ _ _) (s5_3C1 b0 b1 b2 b4))).trans (g5_4A b0 b1 b2 true b4 k)
theorem g5_2A (b0 b1 b2 b3 b4 : Bool) (k : Nat) : endT Stb12 fn4 (cont (lp (k + 3 + 1) ⟨T [.bool b0, .bool b1, .bool b2, .bool b3, .bool b4] 2 false false, M stA⟩)) = true := by
  cases b2
  · exact (congrArg (fun q => endT Stb12 fn4 (cont q)) (loop_round (k := k + 3) (gls := glOf) (f := 4) rfl (T_length _ _ _ _) (s5_2A0 b0 b1 b3 b4))).trans (g5_3B b0 b1 false b3 b4 k)
  · exact (congrArg (fun q => endT Stb12 fn4 (cont q)) (loop_round (k := k + 3) (gls := glOf) (f := 4) rfl (T_length _ _ _ _) (s5_2A1 b0 b1 b3 b4))).trans (g5_3A b0 b1 true b3 b4 k)
theorem g5_2B (b0 b1 b2 b3 b4 : Bool) (k : Nat) : endT Stb12 fn4 (cont (lp (k + 3 + 1) ⟨T [.bool b0, .bool b1, .bool b2, .bool b3, .bool b4] 2 false true, M stB⟩)) = true := by
  cases b2
  · exact (congrArg (fun q => endT Stb12 fn4 (cont q)) (loop_round (k := k + 3) (gls := glOf) (f := 4) rfl (T_length _ _ _ _) (s5_2B0 b0 b1 b3 b4))).trans (g5_3C b0 b1 false b3 b4 k)
  · exact (congrArg (fun q => endT Stb12 fn4 (cont q)) (loop_round (k := k + 3) (gls := glOf) (f := 4) rfl (T_length _ _ _ _) (s5_2B1 b0 b1 b3 b4))).trans (g5_3A b0 b1 true b3 b4 k)
theorem g5_2C (b0 b1 b2 b3 b4 : Bool) (k : Nat) : endT Stb12 fn4 (cont (lp (k + 3 + 1) ⟨T [.bool b0, .bool b1, .bool b2, .bool b3, .bool b4] 2 true true, M stC⟩)) = true := by
  cases b2
  · exact (congrArg (fun q => endT Stb12 fn4 (cont q)) (loop_round (k := k + 3) (gls := glOf) (f := 4) rfl (T_length _ _ _ _) (s5_2C0 b0 b1 b3 b4))).trans (g5_3C b0 b1 false b3 b4 k)
  · exact (congrArg (fun q => endT Stb12 fn4 (cont q)) (loop_round (k := k + 3) (gls := glOf) (f := 4) rfl (T_length _ _ _ _) (s5_2C1 b0 b1 b3 b4))).trans (g5_3A b0 b1 true b3 b4 k)
theorem g5_1A (b0 b1 b2 b3 b4 : Bool) (k : Nat) : endT Stb12 fn4 (cont (lp (k + 4 + 1) ⟨T [.bool b0, .bool b1, .bool b2, .bool b3, .bool b4] 1 false false, M stA⟩)) = true := by
  cases b1
  · exact (congrArg (fun q => endT Stb12 fn4 (cont q)) (loop_round (k := k + 4) (gls := glOf) (f := 4) rfl (T_length _ _ _ _) (s5_1A0 b0 b2 b3 b4))).trans (g5_2B b0 false b2 b3 b4 k)
  · exact (congrArg (fun q => endT Stb12 fn4 (cont q)) (loop_round (k := k + 4) (gls := glOf) (f := 4) rfl (T_length _ _ _ _) (s5_1A1 b0 b2 b3 b4))).trans (g5_2A b0 true b2 b3 b4 k)
theorem g5_1B (b0 b1 b2 b3 b4 : Bool) (k : Nat) : endT Stb12 fn4 (cont (lp (k + 4 + 1) ⟨T [.bool b0, .bool b1, .bool b2, .bool b3, .bool b4] 1 false true, M stB⟩)) = true := by
  cases b1
  · exact (congrArg (fun q => endT Stb12 fn4 (cont q)) (loop_round (k := k + 4) (gls := glOf) (f := 4) rfl (T_length _ _ _ _) (s5_1B0 b0 b2 b3 b4))).trans (g5_2C b0 false b2 b3 b4 k)
  · exact (congrArg (fun q => endT Stb12 fn4 (cont q)) (loop_round (k := k + 4) (gls := glOf) (f := 4) rfl (T_length _ _ _ _) (s5_1B1 b0 b2 b3 b4))).trans (g5_2A b0 true b2 b3 b4 k)
theorem g5_1C (b0 b1 b2 b3 b4 : Bool) (k : Nat) : endT Stb12 fn4 (cont (lp (k + 4 + 1) ⟨T [.bool b0, .bool b1, .bool b2, .bool b3, .bool b4] 1 true true, M stC⟩)) = true := by
  cases b1
  · exact (congrArg (fun q => endT Stb12 fn4 (cont q)) (loop_round (k := k + 4) (gls := glOf) (f := 4) rfl (T_length _ _ _ _) (s5_1C0 b0 b2 b3 b4))).trans (g5_2C b0 false b2 b3 b4 k)
  · exact (congrArg (fun q => endT Stb12 fn4 (cont q)) (loop_round (k := k + 4) (gls := glOf) (f := 4) rfl (T_length _ _ _ _) (s5_1C1 b0 b2 b3 b4))).trans (g5_2A b0 true b2 b3 b4 k)
theorem g5_0Z (b0 b1 b2 b3 b4 : Bool) (k : Nat) : endT Stb12 fn4 (cont (lp (k + 5 + 1) ⟨T [.bool b0, .bool b1, .bool b2, .bool b3, .bool b4] 0 false false, M stZ⟩)) = true := by
  cases b0
  · exact (congrArg (fun q => endT Stb12 fn4 (cont q)) (loop_round (k := k + 5) (gls := glOf) (f := 4) rfl (T_length _ _ _ _) (s5_0Z0 b1 b2 b3 b4))).trans (g5_1B false b1 b2 b3 b4 k)
  · exact (congrArg (fun q => endT Stb12 fn4 (cont q)) (loop_round (k := k + 5) (gls := glOf) (f := 4) rfl (T_length _ _ _ _) (s5_0Z1 b1 b2 b3 b4))).trans (g5_1A true b1 b2 b3 b4 k)
end FireSmall
end Go.Proofs.YtiajhfodfhmfaaaGreatDoor
