/- constablelaw23.FireSmall: lists of 2, 3, 4, 9 elements, round by round. -/
import Derived.Test.YtiajhfodfhmfaaaGreatDoorFsBase
set_option maxRecDepth 100000
set_option linter.unusedVariables false
set_option linter.unusedSectionVars false
namespace Go.Proofs.YtiajhfodfhmfaaaGreatDoor
open Go.Vm Go.Proofs
variable [SymV]
namespace FireSmall
theorem h9 (b0 b1 b2 b3 b4 b5 b6 b7 b8 : Bool) (n : Int) : runPre Stb12 fn4 (glOf 4) (runFE Stb12 glOf 4999) 4999 pre (startE glOf 4 fn4 [.pv (.sl [.bool b0, .bool b1, .bool b2, .bool b3, .bool b4, .bool b5, .bool b6, .bool b7, .bool b8]), .pv (.int .i64 n)] []) = some (sB [.bool b0, .bool b1, .bool b2, .bool b3, .bool b4, .bool b5, .bool b6, .bool b7, .bool b8] n) := by kernel_rfl
theorem t9 (b0 b1 b2 b3 b4 b5 b6 b7 b8 : Bool) (n : Int) : (cutAll 3891 3 0 (toL (glOf 4) 99 (sB [.bool b0, .bool b1, .bool b2, .bool b3, .bool b4, .bool b5, .bool b6, .bool b7, .bool b8] n).e)).set 1 (.pv (.sym 0)) = Tz [.bool b0, .bool b1, .bool b2, .bool b3, .bool b4, .bool b5, .bool b6, .bool b7, .bool b8] := by kernel_rfl
theorem k9 (b0 b1 b2 b3 b4 b5 b6 b7 b8 : Bool) (n : Int) : (toL (glOf 4) 99 (sB [.bool b0, .bool b1, .bool b2, .bool b3, .bool b4, .bool b5, .bool b6, .bool b7, .bool b8] n).e)[1]? = some (.pv (.int .i64 (x n))) := by kernel_rfl
theorem m9 (b0 b1 b2 b3 b4 b5 b6 b7 b8 : Bool) (n : Int) : (sB [.bool b0, .bool b1, .bool b2, .bool b3, .bool b4, .bool b5, .bool b6, .bool b7, .bool b8] n).m = M stZ := by kernel_rfl
theorem s9_8A0 (b0 b1 b2 b3 b4 b5 b6 b7 : Bool) : roundT Stb12 fn4 glOf 4 4999 3 bd ⟨T [.bool b0, .bool b1, .bool b2, .bool b3, .bool b4, .bool b5, .bool b6, .bool b7, .bool false] 8 false false, M stA⟩ = some ⟨T [.bool b0, .bool b1, .bool b2, .bool b3, .bool b4, .bool b5, .bool b6, .bool b7, .bool false] 9 false true, M stB⟩ := by kernel_rfl
theorem s9_8A1 (b0 b1 b2 b3 b4 b5 b6 b7 : Bool) : roundT Stb12 fn4 glOf 4 4999 3 bd ⟨T [.bool b0, .bool b1, .bool b2, .bool b3, .bool b4, .bool b5, .bool b6, .bool b7, .bool true] 8 false false, M stA⟩ = some ⟨T [.bool b0, .bool b1, .bool b2, .bool b3, .bool b4, .bool b5, .bool b6, .bool b7, .bool true] 9 false false, M stA⟩ := by kernel_rfl
theorem s9_8B0 (b0 b1 b2 b3 b4 b5 b6 b7 : Bool) : roundT Stb12 fn4 glOf 4 4999 3 bd ⟨T [.bool b0, .bool b1, .bool b2, .bool b3, .bool b4, .bool b5, .bool b6, .bool b7, .bool false] 8 false true, M stB⟩ = some ⟨T [.bool b0, .bool b1, .bool b2, .bool b3, .bool b4, .bool b5, .bool b6, .bool b7, .bool false] 9 true true, M stC⟩ := by kernel_rfl
theorem s9_8B1 (b0 b1 b2 b3 b4 b5 b6 b7 : Bool) : roundT Stb12 fn4 glOf 4 4999 3 bd ⟨T [.bool b0, .bool b1, .bool b2, .bool b3, .bool b4, .bool b5, .bool b6, .bool b7, .bool true] 8 false true, M stB⟩ = some ⟨T [.bool b0, .bool b1, .bool b2, .bool b3, .bool b4, .bool b5, .bool b6, .bool b7, .bool true] 9 false false, M stA⟩ := by kernel_rfl
theorem s9_8C0 (b0 b1 b2 b3 b4 b5 b6 b7 : Bool) : roundT Stb12 fn4 glOf 4 4999 3 bd ⟨T [.bool b0, .bool b1, .bool b2, .bool b3, .bool b4, .bool b5, .bool b6, .bool b7, .bool false] 8 true true, M stC⟩ = some ⟨T [.bool b0, .bool b1, .bool b2, .bool b3, .bool b4, .bool b5, .bool b6, .bool b7, .bool false] 9 true true, M stC⟩ := by kernel_rfl
theorem s9_8C1 (b0 b1 b2 b3 b4 b5 b6 b7 : Bool) : roundT Stb12 fn4 glOf 4 4999 3 bd ⟨T [.bool b0, .bool b1, .bool b2, .bool b3, .bool b4, .bool b5, .bool b6, .bool b7, .bool true] 8 true true, M stC⟩ = some ⟨T [.bool b0, .bool b1, .bool b2, .bool b3, .bool b4, .bool b5, .bool b6, .bool b7, .bool true] 9 false false, M stA⟩ := by kernel_rfl
theorem s9_7A0 (b0 b1 b2 b3 b4 b5 b6 b8 : Bool) : roundT Stb12 fn4 glOf 4 4999 3 bd ⟨T [.bool b0, .bool b1, .bool b2, .bool b3, .bool b4, .bool b5, .bool b6, .bool false, .bool b8] 7 false false, M stA⟩ = some ⟨T [.bool b0, .bool b1, .bool b2, .bool b3, .bool b4, .bool b5, .bool b6, .bool false, .bool b8] 8 false true, M stB⟩ := by kernel_rfl
theorem s9_7A1 (b0 b1 b2 b3 b4 b5 b6 b8 : Bool) : roundT Stb12 fn4 glOf 4 4999 3 bd ⟨T [.bool b0, .bool b1, .bool b2, .bool b3, .bool b4, .bool b5, .bool b6, .bool true, .bool b8] 7 false false, M stA⟩ = some ⟨T [.bool b0, .bool b1, .bool b2, .bool b3, .bool b4, .bool b5, .bool b6, .bool true, .bool b8] 8 false false, M stA⟩ := by kernel_rfl
theorem s9_7B0 (b0 b1 b2 b3 b4 b5 b6 b8 : Bool) : roundT Stb12 fn4 glOf 4 4999 3 bd ⟨T [.bool b0, .bool b1, .bool b2, .bool b3, .bool b4, .bool b5, .bool b6, .bool false, .bool b8] 7 false true, M stB⟩ = some ⟨T [.bool b0, .bool b1, .bool b2, .bool b3, .bool b4, .bool b5, .bool b6, .bool false, .bool b8] 8 true true, M stC⟩ := by kernel_rfl
theorem s9_7B1 (b0 b1 b2 b3 b4 b5 b6 b8 : Bool) : roundT Stb12 fn4 glOf 4 4999 3 bd ⟨T [.bool b0, .bool b1, .bool b2, .bool b3, .bool b4, .bool b5, .bool b6, .bool true, .bool b8] 7 false true, M stB⟩ = some ⟨T [.bool b0, .bool b1, .bool b2, .bool b3, .bool b4, .bool b5, .bool b6, .bool true, .bool b8] 8 false false, M stA⟩ := by kernel_rfl
theorem s9_7C0 (b0 b1 b2 b3 b4 b5 b6 b8 : Bool) : roundT Stb12 fn4 glOf 4 4999 3 bd ⟨T [.bool b0, .bool b1, .bool b2, .bool b3, .bool b4, .bool b5, .bool b6, .bool false, .bool b8] 7 true true, M stC⟩ = some ⟨T [.bool b0, .bool b1, .bool b2, .bool b3, .bool b4, .bool b5, .bool b6, .bool false, .bool b8] 8 true true, M stC⟩ := by kernel_rfl
theorem s9_7C1 (b0 b1 b2 b3 b4 b5 b6 b8 : Bool) : roundT Stb12 fn4 glOf 4 4999 3 bd ⟨T [.bool b0, .bool b1, .bool b2, .bool b3, .bool b4, .bool b5, .bool b6, .bool true, .bool b8] 7 true true, M stC⟩ = some ⟨T [.bool b0, .bool b1, .bool b2, .bool b3, .bool b4, .bool b5, .bool b6, .bool true, .bool b8] 8 false false, M stA⟩ := by kernel_rfl
theorem s9_6A0 (b0 b1 b2 b3 b4 b5 b7 b8 : Bool) : roundT Stb12 fn4 glOf 4 4999 3 bd ⟨T [.bool b0, .bool b1, .bool b2, .bool b3, .bool b4, .bool b5, .bool false, .bool b7, .bool b8] 6 false false, M stA⟩ = some ⟨T [.bool b0, .bool b1, .bool b2, .bool b3, .bool b4, .bool b5, .bool false, .bool b7, .bool b8] 7 false true, M stB⟩ := by kernel_rfl
theorem s9_6A1 (b0 b1 b2 b3 b4 b5 b7 b8 : Bool) : roundT Stb12 fn4 glOf 4 4999 3 bd ⟨T [.bool b0, .bool b1, .bool b2, .bool b3, .bool b4, .bool b5, .bool true, .bool b7, .bool b8] 6 false false, M stA⟩ = some ⟨T [.bool b0, .bool b1, .bool b2, .bool b3, .bool b4, .bool b5, .bool true, .bool b7, .bool b8] 7 false false, M stA⟩ := by kernel_rfl
theorem s9_6B0 (b0 b1 b2 b3 b4 b5 b7 b8 : Bool) : roundT Stb12 fn4 glOf 4 4999 3 bd ⟨T [.bool b0, .bool b1, .bool b2, .bool b3, .bool b4, .bool b5, .bool false, .bool b7, .bool b8] 6 false true, M stB⟩ = some ⟨T [.bool b0, .bool b1, .bool b2, .bool b3, .bool b4, .bool b5, .bool false, .bool b7, .bool b8] 7 true true, M stC⟩ := by kernel_rfl
theorem s9_6B1 (b0 b1 b2 b3 b4 b5 b7 b8 : Bool) : roundT Stb12 fn4 glOf 4 4999 3 bd ⟨T [.bool b0, .bool b1, .bool b2, .bool b3, .bool b4, .bool b5, .bool true, .bool b7, .bool b8] 6 false true, M stB⟩ = some ⟨T [.bool b0, .bool b1, .bool b2, .bool b3, .bool b4, .bool b5, .bool true, .bool b7, .bool b8] 7 false false, M stA⟩ := by kernel_rfl
theorem s9_6C0 (b0 b1 b2 b3 b4 b5 b7 b8 : Bool) : roundT Stb12 fn4 glOf 4 4999 3 bd ⟨T [.bool b0, .bool b1, .bool b2, .bool b3, .bool b4, .bool b5, .bool false, .bool b7, .bool b8] 6 true true, M stC⟩ = some ⟨T [.bool b0, .bool b1, .bool b2, .bool b3, .bool b4, .bool b5, .bool false, .bool b7, .bool b8] 7 true true, M stC⟩ := by kernel_rfl
theorem s9_6C1 (b0 b1 b2 b3 b4 b5 b7 b8 : Bool) : roundT Stb12 fn4 glOf 4 4999 3 bd ⟨T [.bool b0, .bool b1, .bool b2, .bool b3, .bool b4, .bool b5, .bool true, .bool b7, .bool b8] 6 true true, M stC⟩ = some ⟨T [.bool b0, .bool b1, .bool b2, .bool b3, .bool b4, .bool b5, .bool true, .bool b7, .bool b8] 7 false false, M stA⟩ := by kernel_rfl
theorem s9_5A0 (b0 b1 b2 b3 b4 b6 b7 b8 : Bool) : roundT Stb12 fn4 glOf 4 4999 3 bd ⟨T [.bool b0, .bool b1, .bool b2, .bool b3, .bool b4, .bool false, .bool b6, .bool b7, .bool b8] 5 false false, M stA⟩ = some ⟨T [.bool b0, .bool b1, .bool b2, .bool b3, .bool b4, .bool false, .bool b6, .bool b7, .bool b8] 6 false true, M stB⟩ := by kernel_rfl
theorem s9_5A1 (b0 b1 b2 b3 b4 b6 b7 b8 : Bool) : roundT Stb12 fn4 glOf 4 4999 3 bd ⟨T [.bool b0, .bool b1, .bool b2, .bool b3, .bool b4, .bool true, .bool b6, .bool b7, .bool b8] 5 false false, M stA⟩ = some ⟨T [.bool b0, .bool b1, .bool b2, .bool b3, .bool b4, .bool true, .bool b6, .bool b7, .bool b8] 6 false false, M stA⟩ := by kernel_rfl
theorem s9_5B0 (b0 b1 b2 b3 b4 b6 b7 b8 : Bool) : roundT Stb12 fn4 glOf 4 4999 3 bd ⟨T [.bool b0, .bool b1, .bool b2, .bool b3, .bool b4, .bool false, .bool b6, .bool b7, .bool b8] 5 false true, M stB⟩ = some ⟨T [.bool b0, .bool b1, .bool b2, .bool b3, .bool b4, .bool false, .bool b6, .bool b7, .bool b8] 6 true true, M stC⟩ := by kernel_rfl
theorem s9_5B1 (b0 b1 b2 b3 b4 b6 b7 b8 : Bool) : roundT Stb12 fn4 glOf 4 4999 3 bd ⟨T [.bool b0, .bool b1, .bool b2, .bool b3, .bool b4, .bool true, .bool b6, .bool b7, .bool b8] 5 false true, M stB⟩ = some ⟨T [.bool b0, .bool b1, .bool b2, .bool b3, .bool b4, .bool true, .bool b6, .bool b7, .bool b8] 6 false false, M stA⟩ := by kernel_rfl
theorem s9_5C0 (b0 b1 b2 b3 b4 b6 b7 b8 : Bool) : roundT Stb12 fn4 glOf 4 4999 3 bd ⟨T [.bool b0, .bool b1, .bool b2, .bool b3, .bool b4, .bool false, .bool b6, .bool b7, .bool b8] 5 true true, M stC⟩ = some ⟨T [.bool b0, .bool b1, .bool b2, .bool b3, .bool b4, .bool false, .bool b6, .bool b7, .bool b8] 6 true true, M stC⟩ := by kernel_rfl
theorem s9_5C1 (b0 b1 b2 b3 b4 b6 b7 b8 : Bool) : roundT Stb12 fn4 glOf 4 4999 3 bd ⟨T [.bool b0, .bool b1, .bool b2, .bool b3, .bool b4, .bool true, .bool b6, .bool b7, .bool b8] 5 true true, M stC⟩ = some ⟨T [.bool b0, .bool b1, .bool b2, .bool b3, .bool b4, .bool true, .bool b6, .bool b7, .bool b8] 6 false false, M stA⟩ := by kernel_rfl
theorem s9_4A0 (b0 b1 b2 b3 b5 b6 b7 b8 : Bool) : roundT Stb12 fn4 glOf 4 4999 3 bd ⟨T [.bool b0, .bool b1, .bool b2, .bool b3, .bool false, .bool b5, .bool b6, .bool b7, .bool b8] 4 false false, M stA⟩ = some ⟨T [.bool b0, .bool b1, .bool b2, .bool b3, .bool false, .bool b5, .bool b6, .bool b7, .bool b8] 5 false true, M stB⟩ := by kernel_rfl
theorem s9_4A1 (b0 b1 b2 b3 b5 b6 b7 b8 : Bool) : roundT Stb12 fn4 glOf 4 4999 3 bd ⟨T [.bool b0, .bool b1, .bool b2, .bool b3, .bool true, .bool b5, .bool b6, .bool b7, .bool b8] 4 false false, M stA⟩ = some ⟨T [.bool b0, .bool b1, .bool b2, .bool b3, .bool true, .bool b5, .bool b6, .bool b7, .bool b8] 5 false false, M stA⟩ := by kernel_rfl
theorem s9_4B0 (b0 b1 b2 b3 b5 b6 b7 b8 : Bool) : roundT Stb12 fn4 glOf 4 4999 3 bd ⟨T [.bool b0, .bool b1, .bool b2, .bool b3, .bool false, .bool b5, .bool b6, .bool b7, .bool b8] 4 false true, M stB⟩ = some ⟨T [.bool b0, .bool b1, .bool b2, .bool b3, .bool false, .bool b5, .bool b6, .bool b7, .bool b8] 5 true true, M stC⟩ := by kernel_rfl
theorem s9_4B1 (b0 b1 b2 b3 b5 b6 b7 b8 : Bool) : roundT Stb12 fn4 glOf 4 4999 3 bd ⟨T [.bool b0, .bool b1, .bool b2, .bool b3, .bool true, .bool b5, .bool b6, .bool b7, .bool b8] 4 false true, M stB⟩ = some ⟨T [.bool b0, .bool b1, .bool b2, .bool b3, .bool true, .bool b5, .bool b6, .bool b7, .bool b8] 5 false false, M stA⟩ := by kernel_rfl
theorem s9_4C0 (b0 b1 b2 b3 b5 b6 b7 b8 : Bool) : roundT Stb12 fn4 glOf 4 4999 3 bd ⟨T [.bool b0, .bool b1, .bool b2, .bool b3, .bool false, .bool b5, .bool b6, .bool b7, .bool b8] 4 true true, M stC⟩ = some ⟨T [.bool b0, .bool b1, .bool b2, .bool b3, .bool false, .bool b5, .bool b6, .bool b7, .bool b8] 5 true true, M stC⟩ := by kernel_rfl
theorem s9_4C1 (b0 b1 b2 b3 b5 b6 b7 b8 : Bool) : roundT Stb12 fn4 glOf 4 4999 3 bd ⟨T [.bool b0, .bool b1, .bool b2, .bool b3, .bool true, .bool b5, .bool b6, .bool b7, .bool b8] 4 true true, M stC⟩ = some ⟨T [.bool b0, .bool b1, .bool b2, .bool b3, .bool true, .bool b5, .bool b6, .bool b7, .bool b8] 5 false false, M stA⟩ := by kernel_rfl
theorem s9_3A0 (b0 b1 b2 b4 b5 b6 b7 b8 : Bool) : roundT Stb12 fn4 glOf 4 4999 3 bd ⟨T [.bool b0, .bool b1, .bool b2, .bool false, .bool b4, .bool b5, .bool b6, .bool b7, .bool b8] 3 false false, M stA⟩ = some ⟨T [.bool b0, .bool b1, .bool b2, .bool false, .bool b4, .bool b5, .bool b6, .bool b7, .bool b8] 4 false true, M stB⟩ := by kernel_rfl
theorem s9_3A1 (b0 b1 b2 b4 b5 b6 b7 b8 : Bool) : roundT Stb12 fn4 glOf 4 4999 3 bd ⟨T [.bool b0, .bool b1, .bool b2, .bool true, .bool b4, .bool b5, .bool b6, .bool b7, .bool b8] 3 false false, M stA⟩ = some ⟨T [.bool b0, .bool b1, .bool b2, .bool true, .bool b4, .bool b5, .bool b6, .bool b7, .bool b8] 4 false false, M stA⟩ := by kernel_rfl
theorem s9_3B0 (b0 b1 b2 b4 b5 b6 b7 b8 : Bool) : roundT Stb12 fn4 glOf 4 4999 3 bd ⟨T [.bool b0, .bool b1, .bool b2, .bool false, .bool b4, .bool b5, .bool b6, .bool b7, .bool b8] 3 false true, M stB⟩ = some ⟨T [.bool b0, .bool b1, .bool b2, .bool false, .bool b4, .bool b5, .bool b6, .bool b7, .bool b8] 4 true true, M stC⟩ := by kernel_rfl
theorem s9_3B1 (b0 b1 b2 b4 b5 b6 b7 b8 : Bool) : roundT Stb12 fn4 glOf 4 4999 3 bd ⟨T [.bool b0, .bool b1, .bool b2, .bool true, .bool b4, .bool b5, .bool b6, .bool b7, .bool b8] 3 false true, M stB⟩ = some ⟨T [.bool b0, .bool b1, .bool b2, .bool true, .bool b4, .bool b5, .bool b6, .bool b7, .bool b8] 4 false false, M stA⟩ := by kernel_rfl
theorem s9_3C0 (b0 b1 b2 b4 b5 b6 b7 b8 : Bool) : roundT Stb12 fn4 glOf 4 4999 3 bd ⟨T [.bool b0, .bool b1, .bool b2, .bool false, .bool b4, .bool b5, .bool b6, .bool b7, .bool b8] 3 true true, M stC⟩ = some ⟨T [.bool b0, .bool b1, .bool b2, .bool false, .bool b4, .bool b5, .bool b6, .bool b7, .bool b8] 4 true true, M stC⟩ := by kernel_rfl
theorem s9_3C1 (b0 b1 b2 b4 b5 b6 b7 b8 : Bool) : roundT Stb12 fn4 glOf 4 4999 3 bd ⟨T [.bool b0, .bool b1, .bool b2, .bool true, .bool b4, .bool b5, .bool b6, .bool b7, .bool b8] 3 true true, M stC⟩ = some ⟨T [.bool b0, .bool b1, .bool b2, .bool true, .bool b4, .bool b5, .bool b6, .bool b7, .bool b8] 4 false false, M stA⟩ := by kernel_rfl
theorem s9_2A0 (b0 b1 b3 b4 b5 b6 b7 b8 : Bool) : roundT Stb12 fn4 glOf 4 4999 3 bd ⟨T [.bool b0, .bool b1, .bool false, .bool b3, .bool b4, .bool b5, .bool b6, .bool b7, .bool b8] 2 false false, M stA⟩ = some ⟨T [.bool b0, .bool b1, .bool false, .bool b3, .bool b4, .bool b5, .bool b6, .bool b7, .bool b8] 3 false true, M stB⟩ := by kernel_rfl
theorem s9_2A1 (b0 b1 b3 b4 b5 b6 b7 b8 : Bool) : roundT Stb12 fn4 glOf 4 4999 3 bd ⟨T [.bool b0, .bool b1, .bool true, .bool b3, .bool b4, .bool b5, .bool b6, .bool b7, .bool b8] 2 false false, M stA⟩ = some ⟨T [.bool b0, .bool b1, .bool true, .bool b3, .bool b4, .bool b5, .bool b6, .bool b7, .bool b8] 3 false false, M stA⟩ := by kernel_rfl
theorem s9_2B0 (b0 b1 b3 b4 b5 b6 b7 b8 : Bool) : roundT Stb12 fn4 glOf 4 4999 3 bd ⟨T [.bool b0, .bool b1, .bool false, .bool b3, .bool b4, .bool b5, .bool b6, .bool b7, .bool b8] 2 false true, M stB⟩ = some ⟨T [.bool b0, .bool b1, .bool false, .bool b3, .bool b4, .bool b5, .bool b6, .bool b7, .bool b8] 3 true true, M stC⟩ := by kernel_rfl
theorem s9_2B1 (b0 b1 b3 b4 b5 b6 b7 b8 : Bool) : roundT Stb12 fn4 glOf 4 4999 3 bd ⟨T [.bool b0, .bool b1, .bool true, .bool b3, .bool b4, .bool b5, .bool b6, .bool b7, .bool b8] 2 false true, M stB⟩ = some ⟨T [.bool b0, .bool b1, .bool true, .bool b3, .bool b4, .bool b5, .bool b6, .bool b7, .bool b8] 3 false false, M stA⟩ := by kernel_rfl
theorem s9_2C0 (b0 b1 b3 b4 b5 b6 b7 b8 : Bool) : roundT Stb12 fn4 glOf 4 4999 3 bd ⟨T [.bool b0, .bool b1, .bool false, .bool b3, .bool b4, .bool b5, .bool b6, .bool b7, .bool b8] 2 true true, M stC⟩ = some ⟨T [.bool b0, .bool b1, .bool false, .bool b3, .bool b4, .bool b5, .bool b6, .bool b7, .bool b8] 3 true true, M stC⟩ := by kernel_rfl
theorem s9_2C1 (b0 b1 b3 b4 b5 b6 b7 b8 : Bool) : roundT Stb12 fn4 glOf 4 4999 3 bd ⟨T [.bool b0, .bool b1, .bool true, .bool b3, .bool b4, .bool b5, .bool b6, .bool b7, .bool b8] 2 true true, M stC⟩ = some ⟨T [.bool b0, .bool b1, .bool true, .bool b3, .bool b4, .bool b5, .bool b6, .bool b7, .bool b8] 3 false false, M stA⟩ := by kernel_rfl
theorem s9_1A0 (b0 b2 b3 b4 b5 b6 b7 b8 : Bool) : roundT Stb12 fn4 glOf 4 4999 3 bd ⟨T [.bool b0, .bool false, .bool b2, .bool b3, .bool b4, .bool b5, .bool b6, .bool b7, .bool b8] 1 false false, M stA⟩ = some ⟨T [.bool b0, .bool false, .bool b2, .bool b3, .bool b4, .bool b5, .bool b6, .bool b7, .bool b8] 2 false true, M stB⟩ := by kernel_rfl
theorem s9_1A1 (b0 b2 b3 b4 b5 b6 b7 b8 : Bool) : roundT Stb12 fn4 glOf 4 4999 3 bd ⟨T [.bool b0, .bool true, .bool b2, .bool b3, .bool b4, .bool b5, .bool b6, .bool b7, .bool b8] 1 false false, M stA⟩ = some ⟨T [.bool b0, .bool true, .bool b2, .bool b3, .bool b4, .bool b5, .bool b6, .bool b7, .bool b8] 2 false false, M stA⟩ := by kernel_rfl
theorem s9_1B0 (b0 b2 b3 b4 b5 b6 b7 b8 : Bool) : roundT Stb12 fn4 glOf 4 4999 3 bd ⟨T [.bool b0, .bool false, .bool b2, .bool b3, .bool b4, .bool b5, .bool b6, .bool b7, .bool b8] 1 false true, M stB⟩ = some ⟨T [.bool b0, .bool false, .bool b2, .bool b3, .bool b4, .bool b5, .bool b6, .bool b7, .bool b8] 2 true true, M stC⟩ := by kernel_rfl
theorem s9_1B1 (b0 b2 b3 b4 b5 b6 b7 b8 : Bool) : roundT Stb12 fn4 glOf 4 4999 3 bd ⟨T [.bool b0, .bool true, .bool b2, .bool b3, .bool b4, .bool b5, .bool b6, .bool b7, .bool b8] 1 false true, M stB⟩ = some ⟨T [.bool b0, .bool true, .bool b2, .bool b3, .bool b4, .bool b5, .bool b6, .bool b7, .bool b8] 2 false false, M stA⟩ := by kernel_rfl
theorem s9_1C0 (b0 b2 b3 b4 b5 b6 b7 b8 : Bool) : roundT Stb12 fn4 glOf 4 4999 3 bd ⟨T [.bool b0, .bool false, .bool b2, .bool b3, .bool b4, .bool b5, .bool b6, .bool b7, .bool b8] 1 true true, M stC⟩ = some ⟨T [.bool b0, .bool false, .bool b2, .bool b3, .bool b4, .bool b5, .bool b6, .bool b7, .bool b8] 2 true true, M stC⟩ := by kernel_rfl
theorem s9_1C1 (b0 b2 b3 b4 b5 b6 b7 b8 : Bool) : roundT Stb12 fn4 glOf 4 4999 3 bd ⟨T [.bool b0, .bool true, .bool b2, .bool b3, .bool b4, .bool b5, .bool b6, .bool b7, .bool b8] 1 true true, M stC⟩ = some ⟨T [.bool b0, .bool true, .bool b2, .bool b3, .bool b4, .bool b5, .bool b6, .bool b7, .bool b8] 2 false false, M stA⟩ := by kernel_rfl
theorem s9_0Z0 (b1 b2 b3 b4 b5 b6 b7 b8 : Bool) : roundT Stb12 fn4 glOf 4 4999 3 bd ⟨T [.bool false, .bool b1, .bool b2, .bool b3, .bool b4, .bool b5, .bool b6, .bool b7, .bool b8] 0 false false, M stZ⟩ = some ⟨T [.bool false, .bool b1, .bool b2, .bool b3, .bool b4, .bool b5, .bool b6, .bool b7, .bool b8] 1 false true, M stB⟩ := by kernel_rfl
theorem s9_0Z1 (b1 b2 b3 b4 b5 b6 b7 b8 : Bool) : roundT Stb12 fn4 glOf 4 4999 3 bd ⟨T [.bool true, .bool b1, .bool b2, .bool b3, .bool b4, .bool b5, .bool b6, .bool b7, .bool b8] 0 false false, M stZ⟩ = some ⟨T [.bool true, .bool b1, .bool b2, .bool b3, .bool b4, .bool b5, .bool b6, .bool b7, .bool b8] 1 false false, M stA⟩ := by kernel_rfl
theorem g9_9A (b0 b1 b2 b3 b4 b5 b6 b7 b8 : Bool) (k : Nat) : endT Stb12 fn4 (cont (lp (k + 1) ⟨T [.bool b0, .bool b1, .bool b2, .bool b3, .bool b4, .bool b5, .bool b6, .bool b7, .bool b8] 9 false false, M stA⟩)) = true := by kernel_rfl
theorem g9_9B (b0 b1 b2 b3 b4 b5 b6 b7 b8 : Bool) (k : Nat) : endT Stb12 fn4 (cont (lp (k + 1) ⟨T [.bool b0, .bool b1, .bool b2, .bool b3, .bool b4, .bool b5, .bool b6, .bool b7, .bool b8] 9 false true, M stB⟩)) = true := by kernel_rfl
theorem g9_9C (b0 b1 b2 b3 b4 b5 b6 b7 b8 : Bool) (k : Nat) : endT Stb12 fn4 (cont (lp (k + 1) ⟨T [.bool b0, .bool b1, .bool b2, .bool b3, .bool b4, .bool b5, .bool b6, .bool b7, .bool b8] 9 true true, M stC⟩)) = true := by kernel_rfl
theorem g9_8A (b0 b1 b2 b3 b4 b5 b6 b7 b8 : Bool) (k : Nat) : endT Stb12 fn4 (cont (lp (k + 1 + 1) ⟨T [.bool b0, .bool b1, .bool b2, .bool b3, .bool b4, .bool b5, .bool b6, .bool b7, .bool b8] 8 false false, M stA⟩)) = true := by
  cases b8
  · exact (congrArg (fun q => endT Stb12 fn4 (cont q)) (loop_round (k := k + 1) (gls := glOf) (f := 4) rfl (T_length _ _ _ _) (s9_8A0 b0 b1 b2 b3 b4 b5 b6 b7))).trans (g9_9B b0 b1 b2 b3 b4 b5 b6 b7 false k)
  · exact (congrArg (fun q => endT Stb12 fn4 (cont q)) (loop_round (k := k + 1) (gls := glOf) (f := 4) rfl (T_length _ _ _ _) (s9_8A1 b0 b1 b2 b3 b4 b5 b6 b7))).trans (g9_9A b0 b1 b2 b3 b4 b5 b6 b7 true k)
theorem g9_8B (b0 b1 b2 b3 b4 b5 b6 b7 b8 : Bool) (k : Nat) : endT Stb12 fn4 (cont (lp (k + 1 + 1) ⟨T [.bool b0, .bool b1, .bool b2, .bool b3, .bool b4, .bool b5, .bool b6, .bool b7, .bool b8] 8 false true, M stB⟩)) = true := by
  cases b8
  · exact (congrArg (fun q => endT Stb12 fn4 (cont q)) (loop_round (k := k + 1) (gls := glOf) (f := 4) rfl (T_length _ _ _ _) (s9_8B0 b0 b1 b2 b3 b4 b5 b6 b7))).trans (g9_9C b0 b1 b2 b3 b4 b5 b6 b7 false k)
  · exact (congrArg (fun q => endT Stb12 fn4 (cont q)) (loop_round (k := k + 1) (gls := glOf) (f := 4) rfl (T_length _ _ _ _) (s9_8B1 b0 b1 b2 b3 b4 b5 b6 b7))).trans (g9_9A b0 b1 b2 b3 b4 b5 b6 b7 true k)
theorem g9_8C (b0 b1 b2 b3 b4 b5 b6 b7 b8 : Bool) (k : Nat) : endT Stb12 fn4 (cont (lp (k + 1 + 1) ⟨T [.bool b0, .bool b1, .bool b2, .bool b3, .bool b4, .bool b5, .bool b6, .bool b7, .bool b8] 8 true true, M stC⟩)) = true := by
  cases b8
  · exact (congrArg (fun q => endT Stb12 fn4 (cont q)) (loop_round (k := k + 1) (gls := glOf) (f := 4) rfl (T_length _ _ _ _) (s9_8C0 b0 b1 b2 b3 b4 b5 b6 b7))).trans (g9_9C b0 b1 b2 b3 b4 b5 b6 b7 false k)
  · exact (congrArg (fun q => endT Stb12 fn4 (cont q)) (loop_round (k := k + 1) (gls := glOf) (f := 4) rfl (T_length _ _ _ _) (s9_8C1 b0 b1 b2 b3 b4 b5 b6 b7))).trans (g9_9A b0 b1 b2 b3 b4 b5 b6 b7 true k)
theorem g9_7A (b0 b1 b2 b3 b4 b5 b6 b7 b8 : Bool) (k : Nat) : endT Stb12 fn4 (cont (lp (k + 2 + 1) ⟨T [.bool b0, .bool b1, .bool b2, .bool b3, .bool b4, .bool b5, .bool b6, .bool b7, .bool b8] 7 false false, M stA⟩)) = true := by
  cases b7
  · exact (congrArg (fun q => endT Stb12 fn4 (cont q)) (loop_round (k := k + 2) (gls := glOf) (f := 4) rfl (T_length _ _ _ _) (s9_7A0 b0 b1 b2 b3 b4 b5 b6 b8))).trans (g9_8B b0 b1 b2 b3 b4 b5 b6 false b8 k)
  · exact (congrArg (fun q => endT Stb12 fn4 (cont q)) (loop_round (k := k + 2) (gls := glOf) (f := 4) rfl (T_length _ _ _ _) (s9_7A1 b0 b1 b2 b3 b4 b5 b6 b8))).trans (g9_8A b0 b1 b2 b3 b4 b5 b6 true b8 k)
theorem g9_7B (b0 b1 b2 b3 b4 b5 b6 b7 b8 : Bool) (k : Nat) : endT Stb12 fn4 (cont (lp (k + 2 + 1) ⟨T [.bool b0, .bool b1, .bool b2, .bool b3, .bool b4, .bool b5, .bool b6, .bool b7, .bool b8] 7 false true, M stB⟩)) = true := by
  cases b7
  · exact (congrArg (fun q => endT Stb12 fn4 (cont q)) (loop_round (k := k + 2) (gls := glOf) (f := 4) rfl (T_length _ _ _ _) (s9_7B0 b0 b1 b2 b3 b4 b5 b6 b8))).trans (g9_8C b0 b1 b2 b3 b4 b5 b6 false b8 k)
  · exact (congrArg (fun q => endT Stb12 fn4 (cont q)) (loop_round (k := k + 2) (gls := glOf) (f := 4) rfl (T_length _ _ _ _) (s9_7B1 b0 b1 b2 b3 b4 b5 b6 b8))).trans (g9_8A b0 b1 b2 b3 b4 b5 b6 true b8 k)
theorem g9_7C (b0 b1 b2 b3 b4 b5 b6 b7 b8 : Bool) (k : Nat) : endT Stb12 fn4 (cont (lp (k + 2 + 1) ⟨T [.bool b0, .bool b1, .bool b2, .bool b3, .bool b4, .bool b5, .bool b6, .bool b7, .bool b8] 7 true true, M stC⟩)) = true := by
  cases b7
  · exact (congrArg (fun q => endT Stb12 fn4 (cont q)) (loop_round (k := k + 2) (gls := glOf) (f := 4) rfl (T_length _ _ _ _) (s9_7C0 b0 b1 b2 b3 b4 b5 b6 b8))).trans (g9_8C b0 b1 b2 b3 b4 b5 b6 false b8 k)
  · exact (congrArg (fun q => endT Stb12 fn4 (cont q)) (loop_round (k := k + 2) (gls := glOf) (f := 4) rfl (T_length _ _ _ _) (s9_7C1 b0 b1 b2 b3 b4 b5 b6 b8))).trans (g9_8A b0 b1 b2 b3 b4 b5 b6 true b8 k)
theorem g9_6A (b0 b1 b2 b3 b4 b5 b6 b7 b8 : Bool) (k : Nat) : endT Stb12 fn4 (cont (lp (k + 3 + 1) ⟨T [.bool b0, .bool b1, .bool b2, .bool b3, .bool b4, .bool b5, .bool b6, .bool b7, .bool b8] 6 false false, M stA⟩)) = true := by
  cases b6
  · exact (congrArg (fun q => endT Stb12 fn4 (cont q)) (loop_round (k := k + 3) (gls := glOf) (f := 4) rfl (T_length _ _ _ _) (s9_6A0 b0 b1 b2 b3 b4 b5 b7 b8))).trans (g9_7B b0 b1 b2 b3 b4 b5 false b7 b8 k)
  · exact (congrArg (fun q => endT Stb12 fn4 (cont q)) (loop_round (k := k + 3) (gls := glOf) (f := 4) rfl (T_length _ _ _ _) (s9_6A1 b0 b1 b2 b3 b4 b5 b7 b8))).trans (g9_7A b0 b1 b2 b3 b4 b5 true b7 b8 k)
theorem g9_6B (b0 b1 b2 b3 b4 b5 b6 b7 b8 : Bool) (k : Nat) : endT Stb12 fn4 (cont (lp (k + 3 + 1) ⟨T [.bool b0, .bool b1, .bool b2, .bool b3, .bool b4, .bool b5, .bool b6, .bool b7, .bool b8] 6 false true, M stB⟩)) = true := by
  cases b6
  · exact (congrArg (fun q => endT Stb12 fn4 (cont q)) (loop_round (k := k + 3) (gls := glOf) (f := 4) rfl (T_length _ _ _ _) (s9_6B0 b0 b1 b2 b3 b4 b5 b7 b8))).trans (g9_7C b0 b1 b2 b3 b4 b5 false b7 b8 k)
  · exact (congrArg (fun q => endT Stb12 fn4 (cont q)) (loop_round (k := k + 3) (gls := glOf) (f := 4) rfl (T_length _ _ _ _) (s9_6B1 b0 b1 b2 b3 b4 b5 b7 b8))).trans (g9_7A b0 b1 b2 b3 b4 b5 true b7 b8 k)
theorem g9_6C (b0 b1 b2 b3 b4 b5 b6 b7 b8 : Bool) (k : Nat) : endT Stb12 fn4 (cont (lp (k + 3 + 1) ⟨T [.bool b0, .bool b1, .bool b2, .bool b3, .bool b4, .bool b5, .bool b6, .bool b7, .bool b8] 6 true true, M stC⟩)) = true := by
  cases b6
  · exact (congrArg (fun q => endT Stb12 fn4 (cont q)) (loop_round (k := k + 3) (gls := glOf) (f := 4) rfl (T_length _ _ _ _) (s9_6C0 b0 b1 b2 b3 b4 b5 b7 b8))).trans (g9_7C b0 b1 b2 b3 b4 b5 false b7 b8 k)
  · exact (congrArg (fun q => endT Stb12 fn4 (cont q)) (loop_round (k := k + 3) (gls := glOf) (f := 4) rfl (T_length _ _ _ _) (s9_6C1 b0 b1 b2 b3 b4 b5 b7 b8))).trans (g9_7A b0 b1 b2 b3 b4 b5 true b7 b8 k)
theorem g9_5A (b0 b1 b2 b3 b4 b5 b6 b7 b8 : Bool) (k : Nat) : endT Stb12 fn4 (cont (lp (k + 4 + 1) ⟨T [.bool b0, .bool b1, .bool b2, .bool b3, .bool b4, .bool b5, .bool b6, .bool b7, .bool b8] 5 false false, M stA⟩)) = true := by
  cases b5
  · exact (congrArg (fun q => endT Stb12 fn4 (cont q)) (loop_round (k := k + 4) (gls := glOf) (f := 4) rfl (T_length _ _ _ _) (s9_5A0 b0 b1 b2 b3 b4 b6 b7 b8))).trans (g9_6B b0 b1 b2 b3 b4 false b6 b7 b8 k)
  · exact (congrArg (fun q => endT Stb12 fn4 (cont q)) (loop_round (k := k + 4) (gls := glOf) (f := 4) rfl (T_length _ _ _ _) (s9_5A1 b0 b1 b2 b3 b4 b6 b7 b8))).trans (g9_6A b0 b1 b2 b3 b4 true b6 b7 b8 k)
theorem g9_5B (b0 b1 b2 b3 b4 b5 b6 b7 b8 : Bool) (k : Nat) : endT Stb12 fn4 (cont (lp (k + 4 + 1) ⟨T [.bool b0, .bool b1, .bool b2, .bool b3, .bool b4, .bool b5, .bool b6, .bool b7, .bool b8] 5 false true, M stB⟩)) = true := by
  cases b5
  · exact (congrArg (fun q => endT Stb12 fn4 (cont q)) (loop_round (k := k + 4) (gls := glOf) (f := 4) rfl (T_length _ _ _ _) (s9_5B0 b0 b1 b2 b3 b4 b6 b7 b8))).trans (g9_6C b0 b1 b2 b3 b4 false b6 b7 b8 k)
  · exact (congrArg (fun q => endT Stb12 fn4 (cont q)) (loop_round (k := k + 4) (gls := glOf) (f := 4) rfl (T_length _ _ _ _) (s9_5B1 b0 b1 b2 b3 b4 b6 b7 b8))).trans (g9_6A b0 b1 b2 b3 b4 true b6 b7 b8 k)
theorem g9_5C (b0 b1 b2 b3 b4 b5 b6 b7 b8 : Bool) (k : Nat) : endT Stb12 fn4 (cont (lp (k + 4 + 1) ⟨T [.bool b0, .bool b1, .bool b2, .bool b3, .bool b4, .bool b5, .bool b6, .bool b7, .bool b8] 5 true true, M stC⟩)) = true := by
  cases b5
  · exact (congrArg (fun q => endT Stb12 fn4 (cont q)) (loop_round (k := k + 4) (gls := glOf) (f := 4) rfl (T_length _ _ _ _) (s9_5C0 b0 b1 b2 b3 b4 b6 b7 b8))).trans (g9_6C b0 b1 b2 b3 b4 false b6 b7 b8 k)
  · exact (congrArg (fun q => endT Stb12 fn4 (cont q)) (loop_round (k := k + 4) (gls := glOf) (f := 4) rfl (T_length _ _ _ _) (s9_5C1 b0 b1 b2 b3 b4 b6 b7 b8))).trans (g9_6A b0 b1 b2 b3 b4 true b6 b7 b8 k)
theorem g9_4A (b0 b1 b2 b3 b4 b5 b6 b7 b8 : Bool) (k : Nat) : endT Stb12 fn4 (cont (lp (k + 5 + 1) ⟨T [.bool b0, .bool b1, .bool b2, .bool b3, .bool b4, .bool b5, .bool b6, .bool b7, .bool b8] 4 false false, M stA⟩)) = true := by
  cases b4
  · exact (congrArg (fun q => endT Stb12 fn4 (cont q)) (loop_round (k := k + 5) (gls := glOf) (f := 4) rfl (T_length _ _ _ _) (s9_4A0 b0 b1 b2 b3 b5 b6 b7 b8))).trans (g9_5B b0 b1 b2 b3 false b5 b6 b7 b8 k)
  · exact (congrArg (fun q => endT Stb12 fn4 (cont q)) (loop_round (k := k + 5) (gls := glOf) (f := 4) rfl (T_length _ _ _ _) (s9_4A1 b0 b1 b2 b3 b5 b6 b7 b8))).trans (g9_5A b0 b1 b2 b3 true b5 b6 b7 b8 k)
theorem g9_4B (b0 b1 b2 b3 b4 b5 b6 b7 b8 : Bool) (k : Nat) : endT Stb12 fn4 (cont (lp (k + 5 + 1) ⟨T [.bool b0, .bool b1, .bool b2, .bool b3, .bool b4, .bool b5, .bool b6, .bool b7, .bool b8] 4 false true, M stB⟩)) = true := by
  cases b4
  · exact (congrArg (fun q => endT Stb12 fn4 (cont q)) (loop_round (k := k + 5) (gls := glOf) (f := 4) rfl (T_length _ _ _ _) (s9_4B0 b0 b1 b2 b3 b5 b6 b7 b8))).trans (g9_5C b0 b1 b2 b3 false b5 b6 b7 b8 k)
  · exact (congrArg (fun q => endT Stb12 fn4 (cont q)) (loop_round (k := k + 5) (gls := glOf) (f := 4) rfl (T_length _ _ _ _) (s9_4B1 b0 b1 b2 b3 b5 b6 b7 b8))).trans (g9_5A b0 b1 b2 b3 true b5 b6 b7 b8 k)
theorem g9_4C (b0 b1 b2 b3 b4 b5 b6 b7 b8 : Bool) (k : Nat) : endT Stb12 fn4 (cont (lp (k + 5 + 1) ⟨T [.bool b0, .bool b1, .bool b2, .bool b3, .bool b4, .bool b5, .bool b6, .bool b7, .bool b8] 4 true true, M stC⟩)) = true := by
  cases b4
  · exact (congrArg (fun q => endT Stb12 fn4 (cont q)) (loop_round (k := k + 5) (gls := glOf) (f := 4) rfl (T_length _ _ _ _) (s9_4C0 b0 b1 b2 b3 b5 b6 b7 b8))).trans (g9_5C b0 b1 b2 b3 false b5 b6 b7 b8 k)
  · exact (congrArg (fun q => endT Stb12 fn4 (cont q)) (loop_round (k := k + 5) (gls := glOf) (f := 4) rfl (T_length _ _ _ _) (s9_4C1 b0 b1 b2 b3 b5 b6 b7 b8))).trans (g9_5A b0 b1 b2 b3 true b5 b6 b7 b8 k)
theorem g9_3A (b0 b1 b2 b3 b4 b5 b6 b7 b8 : Bool) (k : Nat) : endT Stb12 fn4 (cont (lp (k + 6 + 1) ⟨T [.bool b0, .bool b1, .bool b2, .bool b3, .bool b4, .bool b5, .bool b6, .bool b7, .bool b8] 3 false false, M stA⟩)) = true := by
  cases b3
  · exact (congrArg (fun q => endT Stb12 fn4 (cont q)) (loop_round (k := k + 6) (gls := glOf) (f := 4) rfl (T_length _ _ _ _) (s9_3A0 b0 b1 b2 b4 b5 b6 b7 b8))).trans (g9_4B b0 b1 b2 false b4 b5 b6 b7 b8 k)
  · exact (congrArg (fun q => endT Stb12 fn4 (cont q)) (loop_round (k := k + 6) (gls := glOf) (f := 4) rfl (T_length _ _ _ _) (s9_3A1 b0 b1 b2 b4 b5 b6 b7 b8))).trans (g9_4A b0 b1 b2 true b4 b5 b6 b7 b8 k)
theorem g9_3B (b0 b1 b2 b3 b4 b5 b6 b7 b8 : Bool) (k : Nat) : endT Stb12 fn4 (cont (lp (k + 6 + 1) ⟨T [.bool b0, .bool b1, .bool b2, .bool b3, .bool b4, .bool b5, .bool b6, .bool b7, .bool b8] 3 false true, M stB⟩)) = true := by
  cases b3
  · exact (congrArg (fun q => endT Stb12 fn4 (cont q)) (loop_round (k := k + 6) (gls := glOf) (f := 4) rfl (T_length _ _ _ _) (s9_3B0 b0 b1 b2 b4 b5 b6 b7 b8))).trans (g9_4C b0 b1 b2 false b4 b5 b6 b7 b8 k)
  · exact (congrArg (fun q => endT Stb12 fn4 (cont q)) (loop_round (k := k + 6) (gls := glOf) (f := 4) rfl (T_length _ _ _ _) (s9_3B1 b0 b1 b2 b4 b5 b6 b7 b8))).trans (g9_4A b0 b1 b2 true b4 b5 b6 b7 b8 k)
theorem g9_3C (b0 b1 b2 b3 b4 b5 b6 b7 b8 : Bool) (k : Nat) : endT Stb12 fn4 (cont (lp (k + 6 + 1) ⟨T [.bool b0, .bool b1, .bool b2, .bool b3, .bool b4, .bool b5, .bool b6, .bool b7, .bool b8] 3 true true, M stC⟩)) = true := by
  cases b3
  · exact (congrArg (fun q => endT Stb12 fn4 (cont q)) (loop_round (k := k + 6) (gls := glOf) (f := 4) rfl (T_length _ _ _ _) (s9_3C0 b0 b1 b2 b4 b5 b6 b7 b8))).trans (g9_4C b0 b1 b2 false b4 b5 b6 b7 b8 k)
  · exact (congrArg (fun q => endT Stb12 fn4 (cont q)) (loop_round (k := k + 6) (gls := glOf) (f := 4) rfl (T_length _ _ _ _) (s9_3C1 b0 b1 b2 b4 b5 b6 b7 b8))).trans (g9_4A b0 b1 b2 true b4 b5 b6 b7 b8 k)
theorem g9_2A (b0 b1 b2 b3 b4 b5 b6 b7 b8 : Bool) (k : Nat) : endT Stb12 fn4 (cont (lp (k + 7 + 1) ⟨T [.bool b0, .bool b1, .bool b2, .bool b3, .bool b4, .bool b5, .bool b6, .bool b7, .bool b8] 2 false false, M stA⟩)) = true := by
  cases b2
  · exact (congrArg (fun q => endT Stb12 fn4 (cont q)) (loop_round (k := k + 7) (gls := glOf) (f := 4) rfl (T_length _ _ _ _) (s9_2A0 b0 b1 b3 b4 b5 b6 b7 b8))).trans (g9_3B b0 b1 false b3 b4 b5 b6 b7 b8 k)
  · exact (congrArg (fun q => endT Stb12 fn4 (cont q)) (loop_round (k := k + 7) (gls := glOf) (f := 4) rfl (T_length _ _ _ _) (s9_2A1 b0 b1 b3 b4 b5 b6 b7 b8))).trans (g9_3A b0 b1 true b3 b4 b5 b6 b7 b8 k)
theorem g9_2B (b0 b1 b2 b3 b4 b5 b6 b7 b8 : Bool) (k : Nat) : endT Stb12 fn4 (cont (lp (k + 7 + 1) ⟨T [.bool b0, .bool b1, .bool b2, .bool b3, .bool b4, .bool b5, .bool b6, .bool b7, .bool b8] 2 false true, M stB⟩)) = true := by
  cases b2
  · exact (congrArg (fun q => endT Stb12 fn4 (cont q)) (loop_round (k := k + 7) (gls := glOf) (f := 4) rfl (T_length _ _ _ _) (s9_2B0 b0 b1 b3 b4 b5 b6 b7 b8))).trans (g9_3C b0 b1 false b3 b4 b5 b6 b7 b8 k)
  · exact (congrArg (fun q => endT Stb12 fn4 (cont q)) (loop_round (k := k + 7) (gls := glOf) (f := 4) rfl (T_length _ _ _ _) (s9_2B1 b0 b1 b3 b4 b5 b6 b7 b8))).trans (g9_3A b0 b1 true b3 b4 b5 b6 b7 b8 k)
theorem g9_2C (b0 b1 b2 b3 b4 b5 b6 b7 b8 : Bool) (k : Nat) : endT Stb12 fn4 (cont (lp (k + 7 + 1) ⟨T [.bool b0, .bool b1, .bool b2, .bool b3, .bool b4, .bool b5, .bool b6, .bool b7, .bool b8] 2 true true, M stC⟩)) = true := by
  cases b2
  · exact (congrArg (fun q => endT Stb12 fn4 (cont q)) (loop_round (k := k + 7) (gls := glOf) (f := 4) rfl (T_length _ _ _ _) (s9_2C0 b0 b1 b3 b4 b5 b6 b7 b8))).trans (g9_3C b0 b1 false b3 b4 b5 b6 b7 b8 k)
  · exact (congrArg (fun q => endT Stb12 fn4 (cont q)) (loop_round (k := k + 7) (gls := glOf) (f := 4) rfl (T_length _ _ _ _) (s9_2C1 b0 b1 b3 b4 b5 b6 b7 b8))).trans (g9_3A b0 b1 true b3 b4 b5 b6 b7 b8 k)
theorem g9_1A (b0 b1 b2 b3 b4 b5 b6 b7 b8 : Bool) (k : Nat) : endT Stb12 fn4 (cont (lp (k + 8 + 1) ⟨T [.bool b0, .bool b1, .bool b2, .bool b3, .bool b4, .bool b5, .bool b6, .bool b7, .bool b8] 1 false false, M stA⟩)) = true := by
  cases b1
  · exact (congrArg (fun q => endT Stb12 fn4 (cont q)) (loop_round (k := k + 8) (gls := glOf) (f := 4) rfl (T_length _ _ _ _) (s9_1A0 b0 b2 b3 b4 b5 b6 b7 b8))).trans (g9_2B b0 false b2 b3 b4 b5 b6 b7 b8 k)
  · exact (congrArg (fun q => endT Stb12 fn4 (cont q)) (loop_round (k := k + 8) (gls := glOf) (f := 4) rfl (T_length _ _ _ _) (s9_1A1 b0 b2 b3 b4 b5 b6 b7 b8))).trans (g9_2A b0 true b2 b3 b4 b5 b6 b7 b8 k)
theorem g9_1B (b0 b1 b2 b3 b4 b5 b6 b7 b8 : Bool) (k : Nat) : endT Stb12 fn4 (cont (lp (k + 8 + 1) ⟨T [.bool b0, .bool b1, .bool b2, .bool b3, .bool b4, .bool b5, .bool b6, .bool b7, .bool b8] 1 false true, M stB⟩)) = true := by
  cases b1
  · exact (congrArg (fun q => endT Stb12 fn4 (cont q)) (loop_round (k := k + 8) (gls := glOf) (f := 4) rfl (T_length _ _ _ _) (s9_1B0 b0 b2 b3 b4 b5 b6 b7 b8))).trans (g9_2C b0 false b2 b3 b4 b5 b6 b7 b8 k)
  · exact (congrArg (fun q => endT Stb12 fn4 (cont q)) (loop_round (k := k + 8) (gls := glOf) (f := 4) rfl (T_length _ _ _ _) (s9_1B1 b0 b2 b3 b4 b5 b6 b7 b8))).trans (g9_2A b0 true b2 b3 b4 b5 b6 b7 b8 k)
theorem g9_1C (b0 b1 b2 b3 b4 b5 b6 b7 b8 : Bool) (k : Nat) : endT Stb12 fn4 (cont (lp (k + 8 + 1) ⟨T [.bool b0, .bool b1, .bool b2, .bool b3, .bool b4, .bool b5, .bool b6, .bool b7, .bool b8] 1 true true, M stC⟩)) = true := by
  cases b1
  · exact (congrArg (fun q => endT Stb12 fn4 (cont q)) (loop_round (k := k + 8) (gls := glOf) (f := 4) rfl (T_length _ _ _ _) (s9_1C0 b0 b2 b3 b4 b5 b6 b7 b8))).trans (g9_2C b0 false b2 b3 b4 b5 b6 b7 b8 k)
  · exact (congrArg (fun q => endT Stb12 fn4 (cont q)) (loop_round (k := k + 8) (gls := glOf) (f := 4) rfl (T_length _ _ _ _) (s9_1C1 b0 b2 b3 b4 b5 b6 b7 b8))).trans (g9_2A b0 true b2 b3 b4 b5 b6 b7 b8 k)
theorem g9_0Z (b0 b1 b2 b3 b4 b5 b6 b7 b8 : Bool) (k : Nat) : endT Stb12 fn4 (cont (lp (k + 9 + 1) ⟨T [.bool b0, .bool b1, .bool b2, .bool b3, .bool b4, .bool b5, .bool b6, .bool b7, .bool b8] 0 false false, M stZ⟩)) = true := by
  cases b0
  · exact (congrArg (fun q => endT Stb12 fn4 (cont q)) (loop_round (k := k + 9) (gls := glOf) (f := 4) rfl (T_length _ _ _ _) (s9_0Z0 b1 b2 b3 b4 b5 b6 b7 b8))).trans (g9_1B false b1 b2 b3 b4 b5 b6 b7 b8 k)
  · exact (congrArg (fun q => endT Stb12 fn4 (cont q)) (loop_round (k := k + 9) (gls := glOf) (f := 4) rfl (T_length _ _ _ _) (s9_0Z1 b1 b2 b3 b4 b5 b6 b7 b8))).trans (g9_1A true b1 b2 b3 b4 b5 b6 b7 b8 k)
theorem h2 (b0 b1 : Bool) (n : Int) : runPre Stb12 fn4 (glOf 4) (runFE Stb12 glOf 4999) 4999 pre (startE glOf 4 fn4 [.pv (.sl [.bool b0, .bool b1]), .pv (.int .i64 n)] []) = some (sB [.bool b0, .bool b1] n) := by kernel_rfl
theorem t2 (b0 b1 : Bool) (n : Int) : (cutAll 3891 3 0 (toL (glOf 4) 99 (sB [.bool b0, .bool b1] n).e)).set 1 (.pv (.sym 0)) = Tz [.bool b0, .bool b1] := by kernel_rfl
theorem k2 (b0 b1 : Bool) (n : Int) : (toL (glOf 4) 99 (sB [.bool b0, .bool b1] n).e)[1]? = some (.pv (.int .i64 (x n))) := by kernel_rfl
theorem m2 (b0 b1 : Bool) (n : Int) : (sB [.bool b0, .bool b1] n).m = M stZ := by kernel_rfl
theorem s2_1A0 (b0 : Bool) : roundT Stb12 fn4 glOf 4 4999 3 bd ⟨T [.bool b0, .bool false] 1 false false, M stA⟩ = some ⟨T [.bool b0, .bool false] 2 false true, M stB⟩ := by kernel_rfl
theorem s2_1A1 (b0 : Bool) : roundT Stb12 fn4 glOf 4 4999 3 bd ⟨T [.bool b0, .bool true] 1 false false, M stA⟩ = some ⟨T [.bool b0, .bool true] 2 false false, M stA⟩ := by kernel_rfl
theorem s2_1B0 (b0 : Bool) : roundT Stb12 fn4 glOf 4 4999 3 bd ⟨T [.bool b0, .bool false] 1 false true, M stB⟩ = some ⟨T [.bool b0, .bool false] 2 true true, M stC⟩ := by kernel_rfl
theorem s2_1B1 (b0 : Bool) : roundT Stb12 fn4 glOf 4 4999 3 bd ⟨T [.bool b0, .bool true] 1 false true, M stB⟩ = some ⟨T [.bool b0, .bool true] 2 false false, M stA⟩ := by kernel_rfl
theorem s2_1C0 (b0 : Bool) : roundT Stb12 fn4 glOf 4 4999 3 bd ⟨T [.bool b0, .bool false] 1 true true, M stC⟩ = some ⟨T [.bool b0, .bool false] 2 true true, M stC⟩ := by kernel_rfl
theorem s2_1C1 (b0 : Bool) : roundT Stb12 fn4 glOf 4 4999 3 bd ⟨T [.bool b0, .bool true] 1 true true, M stC⟩ = some ⟨T [.bool b0, .bool true] 2 false false, M stA⟩ := by kernel_rfl
theorem s2_0Z0 (b1 : Bool) : roundT Stb12 fn4 glOf 4 4999 3 bd ⟨T [.bool false, .bool b1] 0 false false, M stZ⟩ = some ⟨T [.bool false, .bool b1] 1 false true, M stB⟩ := by kernel_rfl
theorem s2_0Z1 (b1 : Bool) : roundT Stb12 fn4 glOf 4 4999 3 bd ⟨T [.bool true, .bool b1] 0 false false, M stZ⟩ = some ⟨T [.bool true, .bool b1] 1 false false, M stA⟩ := by kernel_rfl
theorem g2_2A (b0 b1 : Bool) (k : Nat) : endT Stb12 fn4 (cont (lp (k + 1) ⟨T [.bool b0, .bool b1] 2 false false, M stA⟩)) = true := by kernel_rfl
theorem g2_2B (b0 b1 : Bool) (k : Nat) : endT Stb12 fn4 (cont (lp (k + 1) ⟨T [.bool b0, .bool b1] 2 false true, M stB⟩)) = true := by kernel_rfl
theorem g2_2C (b0 b1 : Bool) (k : Nat) : endT Stb12 fn4 (cont (lp (k + 1) ⟨T [.bool b0, .bool b1] 2 true true, M stC⟩)) = true := by kernel_rfl
theorem g2_1A (b0 b1 : Bool) (k : Nat) : endT Stb12 fn4 (cont (lp (k + 1 + 1) ⟨T [.bool b0, .bool b1] 1 false false, M stA⟩)) = true := by
  cases b1
  · exact (congrArg (fun q => endT Stb12 fn4 (cont q)) (loop_round (k := k + 1) (gls := glOf) (f := 4) rfl (T_length _ _ _ _) (s2_1A0 b0))).trans (g2_2B b0 false k)
  · exact (congrArg (fun q => endT Stb12 fn4 (cont q)) (loop_round (k := k + 1) (gls := glOf) (f := 4) rfl (T_length _ _ _ _) (s2_1A1 b0))).trans (g2_2A b0 true k)
theorem g2_1B (b0 b1 : Bool) (k : Nat) : endT Stb12 fn4 (cont (lp (k + 1 + 1) ⟨T [.bool b0, .bool b1] 1 false true, M stB⟩)) = true := by
  cases b1
  · exact (congrArg (fun q => endT Stb12 fn4 (cont q)) (loop_round (k := k + 1) (gls := glOf) (f := 4) rfl (T_length _ _ _ _) (s2_1B0 b0))).trans (g2_2C b0 false k)
  · exact (congrArg (fun q => endT Stb12 fn4 (cont q)) (loop_round (k := k + 1) (gls := glOf) (f := 4) rfl (T_length _ _ _ _) (s2_1B1 b0))).trans (g2_2A b0 true k)
theorem g2_1C (b0 b1 : Bool) (k : Nat) : endT Stb12 fn4 (cont (lp (k + 1 + 1) ⟨T [.bool b0, .bool b1] 1 true true, M stC⟩)) = true := by
  cases b1
  · exact (congrArg (fun q => endT Stb12 fn4 (cont q)) (loop_round (k := k + 1) (gls := glOf) (f := 4) rfl (T_length _ _ _ _) (s2_1C0 b0))).trans (g2_2C b0 false k)
  · exact (congrArg (fun q => endT Stb12 fn4 (cont q)) (loop_round (k := k + 1) (gls := glOf) (f := 4) rfl (T_length _ _ _ _) (s2_1C1 b0))).trans (g2_2A b0 true k)
theorem g2_0Z (b0 b1 : Bool) (k : Nat) : endT Stb12 fn4 (cont (lp (k + 2 + 1) ⟨T [.bool b0, .bool b1] 0 false false, M stZ⟩)) = true := by
  cases b0
  · exact (congrArg (fun q => endT Stb12 fn4 (cont q)) (loop_round (k := k + 2) (gls := glOf) (f := 4) rfl (T_length _ _ _ _) (s2_0Z0 b1))).trans (g2_1B false b1 k)
  · exact (congrArg (fun q => endT Stb12 fn4 (cont q)) (loop_round (k := k + 2) (gls := glOf) (f := 4) rfl (T_length _ _ _ _) (s2_0Z1 b1))).trans (g2_1A true b1 k)
theorem h3 (b0 b1 b2 : Bool) (n : Int) : runPre Stb12 fn4 (glOf 4) (runFE Stb12 glOf 4999) 4999 pre (startE glOf 4 fn4 [.pv (.sl [.bool b0, .bool b1, .bool b2]), .pv (.int .i64 n)] []) = some (sB [.bool b0, .bool b1, .bool b2] n) := by kernel_rfl
theorem t3 (b0 b1 b2 : Bool) (n : Int) : (cutAll 3891 3 0 (toL (glOf 4) 99 (sB [.bool b0, .bool b1, .bool b2] n).e)).set 1 (.pv (.sym 0)) = Tz [.bool b0, .bool b1, .bool b2] := by kernel_rfl
theorem k3 (b0 b1 b2 : Bool) (n : Int) : (toL (glOf 4) 99 (sB [.bool b0, .bool b1, .bool b2] n).e)[1]? = some (.pv (.int .i64 (x n))) := by kernel_rfl
theorem m3 (b0 b1 b2 : Bool) (n : Int) : (sB [.bool b0, .bool b1, .bool b2] n).m = M stZ := by kernel_rfl
theorem s3_2A0 (b0 b1 : Bool) : roundT Stb12 fn4 glOf 4 4999 3 bd ⟨T [.bool b0, .bool b1, .bool false] 2 false false, M stA⟩ = some ⟨T [.bool b0, .bool b1, .bool false] 3 false true, M stB⟩ := by kernel_rfl
theorem s3_2A1 (b0 b1 : Bool) : roundT Stb12 fn4 glOf 4 4999 3 bd ⟨T [.bool b0, .bool b1, .bool true] 2 false false, M stA⟩ = some ⟨T [.bool b0, .bool b1, .bool true] 3 false false, M stA⟩ := by kernel_rfl
theorem s3_2B0 (b0 b1 : Bool) : roundT Stb12 fn4 glOf 4 4999 3 bd ⟨T [.bool b0, .bool b1, .bool false] 2 false true, M stB⟩ = some ⟨T [.bool b0, .bool b1, .bool false] 3 true true, M stC⟩ := by kernel_rfl
theorem s3_2B1 (b0 b1 : Bool) : roundT Stb12 fn4 glOf 4 4999 3 bd ⟨T [.bool b0, .bool b1, .bool true] 2 false true, M stB⟩ = some ⟨T [.bool b0, .bool b1, .bool true] 3 false false, M stA⟩ := by kernel_rfl
theorem s3_2C0 (b0 b1 : Bool) : roundT Stb12 fn4 glOf 4 4999 3 bd ⟨T [.bool b0, .bool b1, .bool false] 2 true true, M stC⟩ = some ⟨T [.bool b0, .bool b1, .bool false] 3 true true, M stC⟩ := by kernel_rfl
theorem s3_2C1 (b0 b1 : Bool) : roundT Stb12 fn4 glOf 4 4999 3 bd ⟨T [.bool b0, .bool b1, .bool true] 2 true true, M stC⟩ = some ⟨T [.bool b0, .bool b1, .bool true] 3 false false, M stA⟩ := by kernel_rfl
theorem s3_1A0 (b0 b2 : Bool) : roundT Stb12 fn4 glOf 4 4999 3 bd ⟨T [.bool b0, .bool false, .bool b2] 1 false false, M stA⟩ = some ⟨T [.bool b0, .bool false, .bool b2] 2 false true, M stB⟩ := by kernel_rfl
theorem s3_1A1 (b0 b2 : Bool) : roundT Stb12 fn4 glOf 4 4999 3 bd ⟨T [.bool b0, .bool true, .bool b2] 1 false false, M stA⟩ = some ⟨T [.bool b0, .bool true, .bool b2] 2 false false, M stA⟩ := by kernel_rfl
theorem s3_1B0 (b0 b2 : Bool) : roundT Stb12 fn4 glOf 4 4999 3 bd ⟨T [.bool b0, .bool false, .bool b2] 1 false true, M stB⟩ = some ⟨T [.bool b0, .bool false, .bool b2] 2 true true, M stC⟩ := by kernel_rfl
theorem s3_1B1 (b0 b2 : Bool) : roundT Stb12 fn4 glOf 4 4999 3 bd ⟨T [.bool b0, .bool true, .bool b2] 1 false true, M stB⟩ = some ⟨T [.bool b0, .bool true, .bool b2] 2 false false, M stA⟩ := by kernel_rfl
theorem s3_1C0 (b0 b2 : Bool) : roundT Stb12 fn4 glOf 4 4999 3 bd ⟨T [.bool b0, .bool false, .bool b2] 1 true true, M stC⟩ = some ⟨T [.bool b0, .bool false, .bool b2] 2 true true, M stC⟩ := by kernel_rfl
theorem s3_1C1 (b0 b2 : Bool) : roundT Stb12 fn4 glOf 4 4999 3 bd ⟨T [.bool b0, .bool true, .bool b2] 1 true true, M stC⟩ = some ⟨T [.bool b0, .bool true, .bool b2] 2 false false, M stA⟩ := by kernel_rfl
theorem s3_0Z0 (b1 b2 : Bool) : roundT Stb12 fn4 glOf 4 4999 3 bd ⟨T [.bool false, .bool b1, .bool b2] 0 false false, M stZ⟩ = some ⟨T [.bool false, .bool b1, .bool b2] 1 false true, M stB⟩ := by kernel_rfl
theorem s3_0Z1 (b1 b2 : Bool) : roundT Stb12 fn4 glOf 4 4999 3 bd ⟨T [.bool true, .bool b1, .bool b2] 0 false false, M stZ⟩ = some ⟨T [.bool true, .bool b1, .bool b2] 1 false false, M stA⟩ := by kernel_rfl
theorem g3_3A (b0 b1 b2 : Bool) (k : Nat) : endT Stb12 fn4 (cont (lp (k + 1) ⟨T [.bool b0, .bool b1, .bool b2] 3 false false, M stA⟩)) = true := by kernel_rfl
theorem g3_3B (b0 b1 b2 : Bool) (k : Nat) : endT Stb12 fn4 (cont (lp (k + 1) ⟨T [.bool b0, .bool b1, .bool b2] 3 false true, M stB⟩)) = true := by kernel_rfl
theorem g3_3C (b0 b1 b2 : Bool) (k : Nat) : endT Stb12 fn4 (cont (lp (k + 1) ⟨T [.bool b0, .bool b1, .bool b2] 3 true true, M stC⟩)) = true := by kernel_rfl
theorem g3_2A (b0 b1 b2 : Bool) (k : Nat) : endT Stb12 fn4 (cont (lp (k + 1 + 1) ⟨T [.bool b0, .bool b1, .bool b2] 2 false false, M stA⟩)) = true := by
  cases b2
  · exact (congrArg (fun q => endT Stb12 fn4 (cont q)) (loop_round (k := k + 1) (gls := glOf) (f := 4) rfl (T_length _ _ _ _) (s3_2A0 b0 b1))).trans (g3_3B b0 b1 false k)
  · exact (congrArg (fun q => endT Stb12 fn4 (cont q)) (loop_round (k := k + 1) (gls := glOf) (f := 4) rfl (T_length _ _ _ _) (s3_2A1 b0 b1))).trans (g3_3A b0 b1 true k)
theorem g3_2B (b0 b1 b2 : Bool) (k : Nat) : endT Stb12 fn4 (cont (lp (k + 1 + 1) ⟨T [.bool b0, .bool b1, .bool b2] 2 false true, M stB⟩)) = true := by
  cases b2
  · exact (congrArg (fun q => endT Stb12 fn4 (cont q)) (loop_round (k := k + 1) (gls := glOf) (f := 4) rfl (T_length _ _ _ _) (s3_2B0 b0 b1))).trans (g3_3C b0 b1 false k)
  · exact (congrArg (fun q => endT Stb12 fn4 (cont q)) (loop_round (k := k + 1) (gls := glOf) (f := 4) rfl (T_length _ _ _ _) (s3_2B1 b0 b1))).trans (g3_3A b0 b1 true k)
theorem g3_2C (b0 b1 b2 : Bool) (k : Nat) : endT Stb12 fn4 (cont (lp (k + 1 + 1) ⟨T [.bool b0, .bool b1, .bool b2] 2 true true, M stC⟩)) = true := by
  cases b2
  · exact (congrArg (fun q => endT Stb12 fn4 (cont q)) (loop_round (k := k + 1) (gls := glOf) (f := 4) rfl (T_length _ _ _ _) (s3_2C0 b0 b1))).trans (g3_3C b0 b1 false k)
  · exact (congrArg (fun q => endT Stb12 fn4 (cont q)) (loop_round (k := k + 1) (gls := glOf) (f := 4) rfl (T_length _ _ _ _) (s3_2C1 b0 b1))).trans (g3_3A b0 b1 true k)
theorem g3_1A (b0 b1 b2 : Bool) (k : Nat) : endT Stb12 fn4 (cont (lp (k + 2 + 1) ⟨T [.bool b0, .bool b1, .bool b2] 1 false false, M stA⟩)) = true := by
  cases b1
  · exact (congrArg (fun q => endT Stb12 fn4 (cont q)) (loop_round (k := k + 2) (gls := glOf) (f := 4) rfl (T_length _ _ _ _) (s3_1A0 b0 b2))).trans (g3_2B b0 false b2 k)
  · exact (congrArg (fun q => endT Stb12 fn4 (cont q)) (loop_round (k := k + 2) (gls := glOf) (f := 4) rfl (T_length _ _ _ _) (s3_1A1 b0 b2))).trans (g3_2A b0 true b2 k)
theorem g3_1B (b0 b1 b2 : Bool) (k : Nat) : endT Stb12 fn4 (cont (lp (k + 2 + 1) ⟨T [.bool b0, .bool b1, .bool b2] 1 false true, M stB⟩)) = true := by
  cases b1
  · exact (congrArg (fun q => endT Stb12 fn4 (cont q)) (loop_round (k := k + 2) (gls := glOf) (f := 4) rfl (T_length _ _ _ _) (s3_1B0 b0 b2))).trans (g3_2C b0 false b2 k)
  · exact (congrArg (fun q => endT Stb12 fn4 (cont q)) (loop_round (k := k + 2) (gls := glOf) (f := 4) rfl (T_length _ _ _ _) (s3_1B1 b0 b2))).trans (g3_2A b0 true b2 k)
theorem g3_1C (b0 b1 b2 : Bool) (k : Nat) : endT Stb12 fn4 (cont (lp (k + 2 + 1) ⟨T [.bool b0, .bool b1, .bool b2] 1 true true, M stC⟩)) = true := by
  cases b1
  · exact (congrArg (fun q => endT Stb12 fn4 (cont q)) (loop_round (k := k + 2) (gls := glOf) (f := 4) rfl (T_length _ _ _ _) (s3_1C0 b0 b2))).trans (g3_2C b0 false b2 k)
  · exact (congrArg (fun q => endT Stb12 fn4 (cont q)) (loop_round (k := k + 2) (gls := glOf) (f := 4) rfl (T_length _ _ _ _) (s3_1C1 b0 b2))).trans (g3_2A b0 true b2 k)
theorem g3_0Z (b0 b1 b2 : Bool) (k : Nat) : endT Stb12 fn4 (cont (lp (k + 3 + 1) ⟨T [.bool b0, .bool b1, .bool b2] 0 false false, M stZ⟩)) = true := by
  cases b0
  · exact (congrArg (fun q => endT Stb12 fn4 (cont q)) (loop_round (k := k + 3) (gls := glOf) (f := 4) rfl (T_length _ _ _ _) (s3_0Z0 b1 b2))).trans (g3_1B false b1 b2 k)
  · exact (congrArg (fun q => endT Stb12 fn4 (cont q)) (loop_round (k := k + 3) (gls := glOf) (f := 4) rfl (T_length _ _ _ _) (s3_0Z1 b1 b2))).trans (g3_1A true b1 b2 k)
theorem h4 (b0 b1 b2 b3 : Bool) (n : Int) : runPre Stb12 fn4 (glOf 4) (runFE Stb12 glOf 4999) 4999 pre (startE glOf 4 fn4 [.pv (.sl [.bool b0, .bool b1, .bool b2, .bool b3]), .pv (.int .i64 n)] []) = some (sB [.bool b0, .bool b1, .bool b2, .bool b3] n) := by kernel_rfl
theorem t4 (b0 b1 b2 b3 : Bool) (n : Int) : (cutAll 3891 3 0 (toL (glOf 4) 99 (sB [.bool b0, .bool b1, .bool b2, .bool b3] n).e)).set 1 (.pv (.sym 0)) = Tz [.bool b0, .bool b1, .bool b2, .bool b3] := by kernel_rfl
theorem k4 (b0 b1 b2 b3 : Bool) (n : Int) : (toL (glOf 4) 99 (sB [.bool b0, .bool b1, .bool b2, .bool b3] n).e)[1]? = some (.pv (.int .i64 (x n))) := by kernel_rfl
theorem m4 (b0 b1 b2 b3 : Bool) (n : Int) : (sB [.bool b0, .bool b1, .bool b2, .bool b3] n).m = M stZ := by kernel_rfl
theorem s4_3A0 (b0 b1 b2 : Bool) : roundT Stb12 fn4 glOf 4 4999 3 bd ⟨T [.bool b0, .bool b1, .bool b2, .bool false] 3 false false, M stA⟩ = some ⟨T [.bool b0, .bool b1, .bool b2, .bool false] 4 false true, M stB⟩ := by kernel_rfl
theorem s4_3A1 (b0 b1 b2 : Bool) : roundT Stb12 fn4 glOf 4 4999 3 bd ⟨T [.bool b0, .bool b1, .bool b2, .bool true] 3 false false, M stA⟩ = some ⟨T [.bool b0, .bool b1, .bool b2, .bool true] 4 false false, M stA⟩ := by kernel_rfl
theorem s4_3B0 (b0 b1 b2 : Bool) : roundT Stb12 fn4 glOf 4 4999 3 bd ⟨T [.bool b0, .bool b1, .bool b2, .bool false] 3 false true, M stB⟩ = some ⟨T [.bool b0, .bool b1, .bool b2, .bool false] 4 true true, M stC⟩ := by kernel_rfl
theorem s4_3B1 (b0 b1 b2 : Bool) : roundT Stb12 fn4 glOf 4 4999 3 bd ⟨T [.bool b0, .bool b1, .bool b2, .bool true] 3 false true, M stB⟩ = some ⟨T [.bool b0, .bool b1, .bool b2, .bool true] 4 false false, M stA⟩ := by kernel_rfl
theorem s4_3C0 (b0 b1 b2 : Bool) : roundT Stb12 fn4 glOf 4 4999 3 bd ⟨T [.bool b0, .bool b1, .bool b2, .bool false] 3 true true, M stC⟩ = some ⟨T [.bool b0, .bool b1, .bool b2, .bool false] 4 true true, M stC⟩ := by kernel_rfl
theorem s4_3C1 (b0 b1 b2 : Bool) : roundT Stb12 fn4 glOf 4 4999 3 bd ⟨T [.bool b0, .bool b1, .bool b2, .bool true] 3 true true, M stC⟩ = some ⟨T [.bool b0, .bool b1, .bool b2, .bool true] 4 false false, M stA⟩ := by kernel_rfl
theorem s4_2A0 (b0 b1 b3 : Bool) : roundT Stb12 fn4 glOf 4 4999 3 bd ⟨T [.bool b0, .bool b1, .bool false, .bool b3] 2 false false, M stA⟩ = some ⟨T [.bool b0, .bool b1, .bool false, .bool b3] 3 false true, M stB⟩ := by kernel_rfl
theorem s4_2A1 (b0 b1 b3 : Bool) : roundT Stb12 fn4 glOf 4 4999 3 bd ⟨T [.bool b0, .bool b1, .bool true, .bool b3] 2 false false, M stA⟩ = some ⟨T [.bool b0, .bool b1, .bool true, .bool b3] 3 false false, M stA⟩ := by kernel_rfl
theorem s4_2B0 (b0 b1 b3 : Bool) : roundT Stb12 fn4 glOf 4 4999 3 bd ⟨T [.bool b0, .bool b1, .bool false, .bool b3] 2 false true, M stB⟩ = some ⟨T [.bool b0, .bool b1, .bool false, .bool b3] 3 true true, M stC⟩ := by kernel_rfl
theorem s4_2B1 (b0 b1 b3 : Bool) : roundT Stb12 fn4 glOf 4 4999 3 bd ⟨T [.bool b0, .bool b1, .bool true, .bool b3] 2 false true, M stB⟩ = some ⟨T [.bool b0, .bool b1, .bool true, .bool b3] 3 false false, M stA⟩ := by kernel_rfl
theorem s4_2C0 (b0 b1 b3 : Bool) : roundT Stb12 fn4 glOf 4 4999 3 bd ⟨T [.bool b0, .bool b1, .bool false, .bool b3] 2 true true, M stC⟩ = some ⟨T [.bool b0, .bool b1, .bool false, .bool b3] 3 true true, M stC⟩ := by kernel_rfl
theorem s4_2C1 (b0 b1 b3 : Bool) : roundT Stb12 fn4 glOf 4 4999 3 bd ⟨T [.bool b0, .bool b1, .bool true, .bool b3] 2 true true, M stC⟩ = some ⟨T [.bool b0, .bool b1, .bool true, .bool b3] 3 false false, M stA⟩ := by kernel_rfl
theorem s4_1A0 (b0 b2 b3 : Bool) : roundT Stb12 fn4 glOf 4 4999 3 bd ⟨T [.bool b0, .bool false, .bool b2, .bool b3] 1 false false, M stA⟩ = some ⟨T [.bool b0, .bool false, .bool b2, .bool b3] 2 false true, M stB⟩ := by kernel_rfl
theorem s4_1A1 (b0 b2 b3 : Bool) : roundT Stb12 fn4 glOf 4 4999 3 bd ⟨T [.bool b0, .bool true, .bool b2, .bool b3] 1 false false, M stA⟩ = some ⟨T [.bool b0, .bool true, .bool b2, .bool b3] 2 false false, M stA⟩ := by kernel_rfl
theorem s4_1B0 (b0 b2 b3 : Bool) : roundT Stb12 fn4 glOf 4 4999 3 bd ⟨T [.bool b0, .bool false, .bool b2, .bool b3] 1 false true, M stB⟩ = some ⟨T [.bool b0, .bool false, .bool b2, .bool b3] 2 true true, M stC⟩ := by kernel_rfl
theorem s4_1B1 (b0 b2 b3 : Bool) : roundT Stb12 fn4 glOf 4 4999 3 bd ⟨T [.bool b0, .bool true, .bool b2, .bool b3] 1 false true, M stB⟩ = some ⟨T [.bool b0, .bool true, .bool b2, .bool b3] 2 false false, M stA⟩ := by kernel_rfl
theorem s4_1C0 (b0 b2 b3 : Bool) : roundT Stb12 fn4 glOf 4 4999 3 bd ⟨T [.bool b0, .bool false, .bool b2, .bool b3] 1 true true, M stC⟩ = some ⟨T [.bool b0, .bool false, .bool b2, .bool b3] 2 true true, M stC⟩ := by kernel_rfl
theorem s4_1C1 (b0 b2 b3 : Bool) : roundT Stb12 fn4 glOf 4 4999 3 bd ⟨T [.bool b0, .bool true, .bool b2, .bool b3] 1 true true, M stC⟩ = some ⟨T [.bool b0, .bool true, .bool b2, .bool b3] 2 false false, M stA⟩ := by kernel_rfl
theorem s4_0Z0 (b1 b2 b3 : Bool) : roundT Stb12 fn4 glOf 4 4999 3 bd ⟨T [.bool false, .bool b1, .bool b2, .bool b3] 0 false false, M stZ⟩ = some ⟨T [.bool false, .bool b1, .bool b2, .bool b3] 1 false true, M stB⟩ := by kernel_rfl
theorem s4_0Z1 (b1 b2 b3 : Bool) : roundT Stb12 fn4 glOf 4 4999 3 bd ⟨T [.bool true, .bool b1, .bool b2, .bool b3] 0 false false, M stZ⟩ = some ⟨T [.bool true, .bool b1, .bool b2, .bool b3] 1 false false, M stA⟩ := by kernel_rfl
theorem g4_4A (b0 b1 b2 b3 : Bool) (k : Nat) : endT Stb12 fn4 (cont (lp (k + 1) ⟨T [.bool b0, .bool b1, .bool b2, .bool b3] 4 false false, M stA⟩)) = true := by kernel_rfl
theorem g4_4B (b0 b1 b2 b3 : Bool) (k : Nat) : endT Stb12 fn4 (cont (lp (k + 1) ⟨T [.bool b0, .bool b1, .bool b2, .bool b3] 4 false true, M stB⟩)) = true := by kernel_rfl
theorem g4_4C (b0 b1 b2 b3 : Bool) (k : Nat) : endT Stb12 fn4 (cont (lp (k + 1) ⟨T [.bool b0, .bool b1, .bool b2, .bool b3] 4 true true, M stC⟩)) = true := by kernel_rfl
theorem g4_3A (b0 b1 b2 b3 : Bool) (k : Nat) : endT Stb12 fn4 (cont (lp (k + 1 + 1) ⟨T [.bool b0, .bool b1, .bool b2, .bool b3] 3 false false, M stA⟩)) = true := by
  cases b3
  · exact (congrArg (fun q => endT Stb12 fn4 (cont q)) (loop_round (k := k + 1) (gls := glOf) (f := 4) rfl (T_length _ _ _ _) (s4_3A0 b0 b1 b2))).trans (g4_4B b0 b1 b2 false k)
  · exact (congrArg (fun q => endT Stb12 fn4 (cont q)) (loop_round (k := k + 1) (gls := glOf) (f := 4) rfl (T_length _ _ _ _) (s4_3A1 b0 b1 b2))).trans (g4_4A b0 b1 b2 true k)
theorem g4_3B (b0 b1 b2 b3 : Bool) (k : Nat) : endT Stb12 fn4 (cont (lp (k + 1 + 1) ⟨T [.bool b0, .bool b1, .bool b2, .bool b3] 3 false true, M stB⟩)) = true := by
  cases b3
  · exact (congrArg (fun q => endT Stb12 fn4 (cont q)) (loop_round (k := k + 1) (gls := glOf) (f := 4) rfl (T_length _ _ _ _) (s4_3B0 b0 b1 b2))).trans (g4_4C b0 b1 b2 false k)
  · exact (congrArg (fun q => endT Stb12 fn4 (cont q)) (loop_round (k := k + 1) (gls := glOf) (f := 4) rfl (T_length _ _ _ _) (s4_3B1 b0 b1 b2))).trans (g4_4A b0 b1 b2 true k)
theorem g4_3C (b0 b1 b2 b3 : Bool) (k : Nat) : endT Stb12 fn4 (cont (lp (k + 1 + 1) ⟨T [.bool b0, .bool b1, .bool b2, .bool b3] 3 true true, M stC⟩)) = true := by
  cases b3
  · exact (congrArg (fun q => endT Stb12 fn4 (cont q)) (loop_round (k := k + 1) (gls := glOf) (f := 4) rfl (T_length _ _ _ _) (s4_3C0 b0 b1 b2))).trans (g4_4C b0 b1 b2 false k)
  · exact (congrArg (fun q => endT Stb12 fn4 (cont q)) (loop_round (k := k + 1) (gls := glOf) (f := 4) rfl (T_length _ _ _ _) (s4_3C1 b0 b1 b2))).trans (g4_4A b0 b1 b2 true k)
theorem g4_2A (b0 b1 b2 b3 : Bool) (k : Nat) : endT Stb12 fn4 (cont (lp (k + 2 + 1) ⟨T [.bool b0, .bool b1, .bool b2, .bool b3] 2 false false, M stA⟩)) = true := by
  cases b2
  · exact (congrArg (fun q => endT Stb12 fn4 (cont q)) (loop_round (k := k + 2) (gls := glOf) (f := 4) rfl (T_length _ _ _ _) (s4_2A0 b0 b1 b3))).trans (g4_3B b0 b1 false b3 k)
  · exact (congrArg (fun q => endT Stb12 fn4 (cont q)) (loop_round (k := k + 2) (gls := glOf) (f := 4) rfl (T_length _ _ _ _) (s4_2A1 b0 b1 b3))).trans (g4_3A b0 b1 true b3 k)
theorem g4_2B (b0 b1 b2 b3 : Bool) (k : Nat) : endT Stb12 fn4 (cont (lp (k + 2 + 1) ⟨T [.bool b0, .bool b1, .bool b2, .bool b3] 2 false true, M stB⟩)) = true := by
  cases b2
  · exact (congrArg (fun q => endT Stb12 fn4 (cont q)) (loop_round (k := k + 2) (gls := glOf) (f := 4) rfl (T_length _ _ _ _) (s4_2B0 b0 b1 b3))).trans (g4_3C b0 b1 false b3 k)
  · exact (congrArg (fun q => endT Stb12 fn4 (cont q)) (loop_round (k := k + 2) (gls := glOf) (f := 4) rfl (T_length _ _ _ _) (s4_2B1 b0 b1 b3))).trans (g4_3A b0 b1 true b3 k)
theorem g4_2C (b0 b1 b2 b3 : Bool) (k : Nat) : endT Stb12 fn4 (cont (lp (k + 2 + 1) ⟨T [.bool b0, .bool b1, .bool b2, .bool b3] 2 true true, M stC⟩)) = true := by
  cases b2
  · exact (congrArg (fun q => endT Stb12 fn4 (cont q)) (loop_round (k := k + 2) (gls := glOf) (f := 4) rfl (T_length _ _ _ _) (s4_2C0 b0 b1 b3))).trans (g4_3C b0 b1 false b3 k)
  · exact (congrArg (fun q => endT Stb12 fn4 (cont q)) (loop_round (k := k + 2) (gls := glOf) (f := 4) rfl (T_length _ _ _ _) (s4_2C1 b0 b1 b3))).trans (g4_3A b0 b1 true b3 k)
theorem g4_1A (b0 b1 b2 b3 : Bool) (k : Nat) : endT Stb12 fn4 (cont (lp (k + 3 + 1) ⟨T [.bool b0, .bool b1, .bool b2, .bool b3] 1 false false, M stA⟩)) = true := by
  cases b1
  · exact (congrArg (fun q => endT Stb12 fn4 (cont q)) (loop_round (k := k + 3) (gls := glOf) (f := 4) rfl (T_length _ _ _ _) (s4_1A0 b0 b2 b3))).trans (g4_2B b0 false b2 b3 k)
  · exact (congrArg (fun q => endT Stb12 fn4 (cont q)) (loop_round (k := k + 3) (gls := glOf) (f := 4) rfl (T_length _ _ _ _) (s4_1A1 b0 b2 b3))).trans (g4_2A b0 true b2 b3 k)
theorem g4_1B (b0 b1 b2 b3 : Bool) (k : Nat) : endT Stb12 fn4 (cont (lp (k + 3 + 1) ⟨T [.bool b0, .bool b1, .bool b2, .bool b3] 1 false true, M stB⟩)) = true := by
  cases b1
  · exact (congrArg (fun q => endT Stb12 fn4 (cont q)) (loop_round (k := k + 3) (gls := glOf) (f := 4) rfl (T_length _ _ _ _) (s4_1B0 b0 b2 b3))).trans (g4_2C b0 false b2 b3 k)
  · exact (congrArg (fun q => endT Stb12 fn4 (cont q)) (loop_round (k := k + 3) (gls := glOf) (f := 4) rfl (T_length _ _ _ _) (s4_1B1 b0 b2 b3))).trans (g4_2A b0 true b2 b3 k)
theorem g4_1C (b0 b1 b2 b3 : Bool) (k : Nat) : endT Stb12 fn4 (cont (lp (k + 3 + 1) ⟨T [.bool b0, .bool b1, .bool b2, .bool b3] 1 true true, M stC⟩)) = true := by
  cases b1
  · exact (congrArg (fun q => endT Stb12 fn4 (cont q)) (loop_round (k := k + 3) (gls := glOf) (f := 4) rfl (T_length _ _ _ _) (s4_1C0 b0 b2 b3))).trans (g4_2C b0 false b2 b3 k)
  · exact (congrArg (fun q => endT Stb12 fn4 (cont q)) (loop_round (k := k + 3) (gls := glOf) (f := 4) rfl (T_length _ _ _ _) (s4_1C1 b0 b2 b3))).trans (g4_2A b0 true b2 b3 k)
theorem g4_0Z (b0 b1 b2 b3 : Bool) (k : Nat) : endT Stb12 fn4 (cont (lp (k + 4 + 1) ⟨T [.bool b0, .bool b1, .bool b2, .bool b3] 0 false false, M stZ⟩)) = true := by
  cases b0
  · exact (congrArg (fun q => endT Stb12 fn4 (cont q)) (loop_round (k := k + 4) (gls := glOf) (f := 4) rfl (T_length _ _ _ _) (s4_0Z0 b1 b2 b3))).trans (g4_1B false b1 b2 b3 k)
  · exact (congrArg (fun q => endT Stb12 fn4 (cont q)) (loop_round (k := k + 4) (gls := glOf) (f := 4) rfl (T_length _ _ _ _) (s4_0Z1 b1 b2 b3))).trans (g4_1A true b1 b2 b3 k)
end FireSmall
end Go.Proofs.YtiajhfodfhmfaaaGreatDoor
