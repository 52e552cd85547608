/- constablelaw23.FireSmall: lists of 6, 7 elements, round by round. -/
import Derived.Test.YtiajhfodfhmfaaaGreatDoorFsBase
set_option maxRecDepth 100000
set_option linter.unusedVariables false
set_option linter.unusedSectionVars false
namespace Go.Proofs.YtiajhfodfhmfaaaGreatDoor
open Go.Vm Go.Proofs
variable [SymV]
namespace FireSmall
theorem h7 (b0 b1 b2 b3 b4 b5 b6 : Bool) (n : Int) : runPre Stb12 fn4 (glOf 4) (runFE Stb12 glOf 4999) 4999 pre (startE glOf 4 fn4 [.pv (.sl [.bool b0, .bool b1, .bool b2, .bool b3, .bool b4, .bool b5, .bool b6]), .pv (.int .i64 n)] []) = some (sB [.bool b0, .bool b1, .bool b2, .bool b3, .bool b4, .bool b5, .bool b6] n) := by kernel_rfl
theorem t7 (b0 b1 b2 b3 b4 b5 b6 : Bool) (n : Int) : (cutAll 3891 3 0 (toL (glOf 4) 99 (sB [.bool b0, .bool b1, .bool b2, .bool b3, .bool b4, .bool b5, .bool b6] n).e)).set 1 (.pv (.sym 0)) = Tz [.bool b0, .bool b1, .bool b2, .bool b3, .bool b4, .bool b5, .bool b6] := by kernel_rfl
theorem k7 (b0 b1 b2 b3 b4 b5 b6 : Bool) (n : Int) : (toL (glOf 4) 99 (sB [.bool b0, .bool b1, .bool b2, .bool b3, .bool b4, .bool b5, .bool b6] n).e)[1]? = some (.pv (.int .i64 (x n))) := by kernel_rfl
theorem m7 (b0 b1 b2 b3 b4 b5 b6 : Bool) (n : Int) : (sB [.bool b0, .bool b1, .bool b2, .bool b3, .bool b4, .bool b5, .bool b6] n).m = M stZ := by kernel_rfl
theorem s7_6A0 (b0 b1 b2 b3 b4 b5 : Bool) : roundT Stb12 fn4 glOf 4 4999 3 bd ⟨T [.bool b0, .bool b1, .bool b2, .bool b3, .bool b4, .bool b5, .bool false] 6 false false, M stA⟩ = some ⟨T [.bool b0, .bool b1, .bool b2, .bool b3, .bool b4, .bool b5, .bool false] 7 false true, M stB⟩ := by kernel_rfl
theorem s7_6A1 (b0 b1 b2 b3 b4 b5 : Bool) : roundT Stb12 fn4 glOf 4 4999 3 bd ⟨T [.bool b0, .bool b1, .bool b2, .bool b3, .bool b4, .bool b5, .bool true] 6 false false, M stA⟩ = some ⟨T [.bool b0, .bool b1, .bool b2, .bool b3, .bool b4, .bool b5, .bool true] 7 false false, M stA⟩ := by kernel_rfl
theorem s7_6B0 (b0 b1 b2 b3 b4 b5 : Bool) : roundT Stb12 fn4 glOf 4 4999 3 bd ⟨T [.bool b0, .bool b1, .bool b2, .bool b3, .bool b4, .bool b5, .bool false] 6 false true, M stB⟩ = some ⟨T [.bool b0, .bool b1, .bool b2, .bool b3, .bool b4, .bool b5, .bool false] 7 true true, M stC⟩ := by kernel_rfl
theorem s7_6B1 (b0 b1 b2 b3 b4 b5 : Bool) : roundT Stb12 fn4 glOf 4 4999 3 bd ⟨T [.bool b0, .bool b1, .bool b2, .bool b3, .bool b4, .bool b5, .bool true] 6 false true, M stB⟩ = some ⟨T [.bool b0, .bool b1, .bool b2, .bool b3, .bool b4, .bool b5, .bool true] 7 false false, M stA⟩ := by kernel_rfl
theorem s7_6C0 (b0 b1 b2 b3 b4 b5 : Bool) : roundT Stb12 fn4 glOf 4 4999 3 bd ⟨T [.bool b0, .bool b1, .bool b2, .bool b3, .bool b4, .bool b5, .bool false] 6 true true, M stC⟩ = some ⟨T [.bool b0, .bool b1, .bool b2, .bool b3, .bool b4, .bool b5, .bool false] 7 true true, M stC⟩ := by kernel_rfl
theorem s7_6C1 (b0 b1 b2 b3 b4 b5 : Bool) : roundT Stb12 fn4 glOf 4 4999 3 bd ⟨T [.bool b0, .bool b1, .bool b2, .bool b3, .bool b4, .bool b5, .bool true] 6 true true, M stC⟩ = some ⟨T [.bool b0, .bool b1, .bool b2, .bool b3, .bool b4, .bool b5, .bool true] 7 false false, M stA⟩ := by kernel_rfl
theorem s7_5A0 (b0 b1 b2 b3 b4 b6 : Bool) : roundT Stb12 fn4 glOf 4 4999 3 bd ⟨T [.bool b0, .bool b1, .bool b2, .bool b3, .bool b4, .bool false, .bool b6] 5 false false, M stA⟩ = some ⟨T [.bool b0, .bool b1, .bool b2, .bool b3, .bool b4, .bool false, .bool b6] 6 false true, M stB⟩ := by kernel_rfl
theorem s7_5A1 (b0 b1 b2 b3 b4 b6 : Bool) : roundT Stb12 fn4 glOf 4 4999 3 bd ⟨T [.bool b0, .bool b1, .bool b2, .bool b3, .bool b4, .bool true, .bool b6] 5 false false, M stA⟩ = some ⟨T [.bool b0, .bool b1, .bool b2, .bool b3, .bool b4, .bool true, .bool b6] 6 false false, M stA⟩ := by kernel_rfl
theorem s7_5B0 (b0 b1 b2 b3 b4 b6 : Bool) : roundT Stb12 fn4 glOf 4 4999 3 bd ⟨T [.bool b0, .bool b1, .bool b2, .bool b3, .bool b4, .bool false, .bool b6] 5 false true, M stB⟩ = some ⟨T [.bool b0, .bool b1, .bool b2, .bool b3, .bool b4, .bool false, .bool b6] 6 true true, M stC⟩ := by kernel_rfl
theorem s7_5B1 (b0 b1 b2 b3 b4 b6 : Bool) : roundT Stb12 fn4 glOf 4 4999 3 bd ⟨T [.bool b0, .bool b1, .bool b2, .bool b3, .bool b4, .bool true, .bool b6] 5 false true, M stB⟩ = some ⟨T [.bool b0, .bool b1, .bool b2, .bool b3, .bool b4, .bool true, .bool b6] 6 false false, M stA⟩ := by kernel_rfl
theorem s7_5C0 (b0 b1 b2 b3 b4 b6 : Bool) : roundT Stb12 fn4 glOf 4 4999 3 bd ⟨T [.bool b0, .bool b1, .bool b2, .bool b3, .bool b4, .bool false, .bool b6] 5 true true, M stC⟩ = some ⟨T [.bool b0, .bool b1, .bool b2, .bool b3, .bool b4, .bool false, .bool b6] 6 true true, M stC⟩ := by kernel_rfl
theorem s7_5C1 (b0 b1 b2 b3 b4 b6 : Bool) : roundT Stb12 fn4 glOf 4 4999 3 bd ⟨T [.bool b0, .bool b1, .bool b2, .bool b3, .bool b4, .bool true, .bool b6] 5 true true, M stC⟩ = some ⟨T [.bool b0, .bool b1, .bool b2, .bool b3, .bool b4, .bool true, .bool b6] 6 false false, M stA⟩ := by kernel_rfl
theorem s7_4A0 (b0 b1 b2 b3 b5 b6 : Bool) : roundT Stb12 fn4 glOf 4 4999 3 bd ⟨T [.bool b0, .bool b1, .bool b2, .bool b3, .bool false, .bool b5, .bool b6] 4 false false, M stA⟩ = some ⟨T [.bool b0, .bool b1, .bool b2, .bool b3, .bool false, .bool b5, .bool b6] 5 false true, M stB⟩ := by kernel_rfl
theorem s7_4A1 (b0 b1 b2 b3 b5 b6 : Bool) : roundT Stb12 fn4 glOf 4 4999 3 bd ⟨T [.bool b0, .bool b1, .bool b2, .bool b3, .bool true, .bool b5, .bool b6] 4 false false, M stA⟩ = some ⟨T [.bool b0, .bool b1, .bool b2, .bool b3, .bool true, .bool b5, .bool b6] 5 false false, M stA⟩ := by kernel_rfl
theorem s7_4B0 (b0 b1 b2 b3 b5 b6 : Bool) : roundT Stb12 fn4 glOf 4 4999 3 bd ⟨T [.bool b0, .bool b1, .bool b2, .bool b3, .bool false, .bool b5, .bool b6] 4 false true, M stB⟩ = some ⟨T [.bool b0, .bool b1, .bool b2, .bool b3, .bool false, .bool b5, .bool b6] 5 true true, M stC⟩ := by kernel_rfl
theorem s7_4B1 (b0 b1 b2 b3 b5 b6 : Bool) : roundT Stb12 fn4 glOf 4 4999 3 bd ⟨T [.bool b0, .bool b1, .bool b2, .bool b3, .bool true, .bool b5, .bool b6] 4 false true, M stB⟩ = some ⟨T [.bool b0, .bool b1, .bool b2, .bool b3, .bool true, .bool b5, .bool b6] 5 false false, M stA⟩ := by kernel_rfl
theorem s7_4C0 (b0 b1 b2 b3 b5 b6 : Bool) : roundT Stb12 fn4 glOf 4 4999 3 bd ⟨T [.bool b0, .bool b1, .bool b2, .bool b3, .bool false, .bool b5, .bool b6] 4 true true, M stC⟩ = some ⟨T [.bool b0, .bool b1, .bool b2, .bool b3, .bool false, .bool b5, .bool b6] 5 true true, M stC⟩ := by kernel_rfl
theorem s7_4C1 (b0 b1 b2 b3 b5 b6 : Bool) : roundT Stb12 fn4 glOf 4 4999 3 bd ⟨T [.bool b0, .bool b1, .bool b2, .bool b3, .bool true, .bool b5, .bool b6] 4 true true, M stC⟩ = some ⟨T [.bool b0, .bool b1, .bool b2, .bool b3, .bool true, .bool b5, .bool b6] 5 false false, M stA⟩ := by kernel_rfl
theorem s7_3A0 (b0 b1 b2 b4 b5 b6 : Bool) : roundT Stb12 fn4 glOf 4 4999 3 bd ⟨T [.bool b0, .bool b1, .bool b2, .bool false, .bool b4, .bool b5, .bool b6] 3 false false, M stA⟩ = some ⟨T [.bool b0, .bool b1, .bool b2, .bool false, .bool b4, .bool b5, .bool b6] 4 false true, M stB⟩ := by kernel_rfl
theorem s7_3A1 (b0 b1 b2 b4 b5 b6 : Bool) : roundT Stb12 fn4 glOf 4 4999 3 bd ⟨T [.bool b0, .bool b1, .bool b2, .bool true, .bool b4, .bool b5, .bool b6] 3 false false, M stA⟩ = some ⟨T [.bool b0, .bool b1, .bool b2, .bool true, .bool b4, .bool b5, .bool b6] 4 false false, M stA⟩ := by kernel_rfl
theorem s7_3B0 (b0 b1 b2 b4 b5 b6 : Bool) : roundT Stb12 fn4 glOf 4 4999 3 bd ⟨T [.bool b0, .bool b1, .bool b2, .bool false, .bool b4, .bool b5, .bool b6] 3 false true, M stB⟩ = some ⟨T [.bool b0, .bool b1, .bool b2, .bool false, .bool b4, .bool b5, .bool b6] 4 true true, M stC⟩ := by kernel_rfl
theorem s7_3B1 (b0 b1 b2 b4 b5 b6 : Bool) : roundT Stb12 fn4 glOf 4 4999 3 bd ⟨T [.bool b0, .bool b1, .bool b2, .bool true, .bool b4, .bool b5, .bool b6] 3 false true, M stB⟩ = some ⟨T [.bool b0, .bool b1, .bool b2, .bool true, .bool b4, .bool b5, .bool b6] 4 false false, M stA⟩ := by kernel_rfl
theorem s7_3C0 (b0 b1 b2 b4 b5 b6 : Bool) : roundT Stb12 fn4 glOf 4 4999 3 bd ⟨T [.bool b0, .bool b1, .bool b2, .bool false, .bool b4, .bool b5, .bool b6] 3 true true, M stC⟩ = some ⟨T [.bool b0, .bool b1, .bool b2, .bool false, .bool b4, .bool b5, .bool b6] 4 true true, M stC⟩ := by kernel_rfl
theorem s7_3C1 (b0 b1 b2 b4 b5 b6 : Bool) : roundT Stb12 fn4 glOf 4 4999 3 bd ⟨T [.bool b0, .bool b1, .bool b2, .bool true, .bool b4, .bool b5, .bool b6] 3 true true, M stC⟩ = some ⟨T [.bool b0, .bool b1, .bool b2, .bool true, .bool b4, .bool b5, .bool b6] 4 false false, M stA⟩ := by kernel_rfl
theorem s7_2A0 (b0 b1 b3 b4 b5 b6 : Bool) : roundT Stb12 fn4 glOf 4 4999 3 bd ⟨T [.bool b0, .bool b1, .bool false, .bool b3, .bool b4, .bool b5, .bool b6] 2 false false, M stA⟩ = some ⟨T [.bool b0, .bool b1, .bool false, .bool b3, .bool b4, .bool b5, .bool b6] 3 false true, M stB⟩ := by kernel_rfl
theorem s7_2A1 (b0 b1 b3 b4 b5 b6 : Bool) : roundT Stb12 fn4 glOf 4 4999 3 bd ⟨T [.bool b0, .bool b1, .bool true, .bool b3, .bool b4, .bool b5, .bool b6] 2 false false, M stA⟩ = some ⟨T [.bool b0, .bool b1, .bool true, .bool b3, .bool b4, .bool b5, .bool b6] 3 false false, M stA⟩ := by kernel_rfl
theorem s7_2B0 (b0 b1 b3 b4 b5 b6 : Bool) : roundT Stb12 fn4 glOf 4 4999 3 bd ⟨T [.bool b0, .bool b1, .bool false, .bool b3, .bool b4, .bool b5, .bool b6] 2 false true, M stB⟩ = some ⟨T [.bool b0, .bool b1, .bool false, .bool b3, .bool b4, .bool b5, .bool b6] 3 true true, M stC⟩ := by kernel_rfl
theorem s7_2B1 (b0 b1 b3 b4 b5 b6 : Bool) : roundT Stb12 fn4 glOf 4 4999 3 bd ⟨T [.bool b0, .bool b1, .bool true, .bool b3, .bool b4, .bool b5, .bool b6] 2 false true, M stB⟩ = some ⟨T [.bool b0, .bool b1, .bool true, .bool b3, .bool b4, .bool b5, .bool b6] 3 false false, M stA⟩ := by kernel_rfl
theorem s7_2C0 (b0 b1 b3 b4 b5 b6 : Bool) : roundT Stb12 fn4 glOf 4 4999 3 bd ⟨T [.bool b0, .bool b1, .bool false, .bool b3, .bool b4, .bool b5, .bool b6] 2 true true, M stC⟩ = some ⟨T [.bool b0, .bool b1, .bool false, .bool b3, .bool b4, .bool b5, .bool b6] 3 true true, M stC⟩ := by kernel_rfl
theorem s7_2C1 (b0 b1 b3 b4 b5 b6 : Bool) : roundT Stb12 fn4 glOf 4 4999 3 bd ⟨T [.bool b0, .bool b1, .bool true, .bool b3, .bool b4, .bool b5, .bool b6] 2 true true, M stC⟩ = some ⟨T [.bool b0, .bool b1, .bool true, .bool b3, .bool b4, .bool b5, .bool b6] 3 false false, M stA⟩ := by kernel_rfl
theorem s7_1A0 (b0 b2 b3 b4 b5 b6 : Bool) : roundT Stb12 fn4 glOf 4 4999 3 bd ⟨T [.bool b0, .bool false, .bool b2, .bool b3, .bool b4, .bool b5, .bool b6] 1 false false, M stA⟩ = some ⟨T [.bool b0, .bool false, .bool b2, .bool b3, .bool b4, .bool b5, .bool b6] 2 false true, M stB⟩ := by kernel_rfl
theorem s7_1A1 (b0 b2 b3 b4 b5 b6 : Bool) : roundT Stb12 fn4 glOf 4 4999 3 bd ⟨T [.bool b0, .bool true, .bool b2, .bool b3, .bool b4, .bool b5, .bool b6] 1 false false, M stA⟩ = some ⟨T [.bool b0, .bool true, .bool b2, .bool b3, .bool b4, .bool b5, .bool b6] 2 false false, M stA⟩ := by kernel_rfl
theorem s7_1B0 (b0 b2 b3 b4 b5 b6 : Bool) : roundT Stb12 fn4 glOf 4 4999 3 bd ⟨T [.bool b0, .bool false, .bool b2, .bool b3, .bool b4, .bool b5, .bool b6] 1 false true, M stB⟩ = some ⟨T [.bool b0, .bool false, .bool b2, .bool b3, .bool b4, .bool b5, .bool b6] 2 true true, M stC⟩ := by kernel_rfl
theorem s7_1B1 (b0 b2 b3 b4 b5 b6 : Bool) : roundT Stb12 fn4 glOf 4 4999 3 bd ⟨T [.bool b0, .bool true, .bool b2, .bool b3, .bool b4, .bool b5, .bool b6] 1 false true, M stB⟩ = some ⟨T [.bool b0, .bool true, .bool b2, .bool b3, .bool b4, .bool b5, .bool b6] 2 false false, M stA⟩ := by kernel_rfl
theorem s7_1C0 (b0 b2 b3 b4 b5 b6 : Bool) : roundT Stb12 fn4 glOf 4 4999 3 bd ⟨T [.bool b0, .bool false, .bool b2, .bool b3, .bool b4, .bool b5, .bool b6] 1 true true, M stC⟩ = some ⟨T [.bool b0, .bool false, .bool b2, .bool b3, .bool b4, .bool b5, .bool b6] 2 true true, M stC⟩ := by kernel_rfl
theorem s7_1C1 (b0 b2 b3 b4 b5 b6 : Bool) : roundT Stb12 fn4 glOf 4 4999 3 bd ⟨T [.bool b0, .bool true, .bool b2, .bool b3, .bool b4, .bool b5, .bool b6] 1 true true, M stC⟩ = some ⟨T [.bool b0, .bool true, .bool b2, .bool b3, .bool b4, .bool b5, .bool b6] 2 false false, M stA⟩ := by kernel_rfl
theorem s7_0Z0 (b1 b2 b3 b4 b5 b6 : Bool) : roundT Stb12 fn4 glOf 4 4999 3 bd ⟨T [.bool false, .bool b1, .bool b2, .bool b3, .bool b4, .bool b5, .bool b6] 0 false false, M stZ⟩ = some ⟨T [.bool false, .bool b1, .bool b2, .bool b3, .bool b4, .bool b5, .bool b6] 1 false true, M stB⟩ := by kernel_rfl
theorem s7_0Z1 (b1 b2 b3 b4 b5 b6 : Bool) : roundT Stb12 fn4 glOf 4 4999 3 bd ⟨T [.bool true, .bool b1, .bool b2, .bool b3, .bool b4, .bool b5, .bool b6] 0 false false, M stZ⟩ = some ⟨T [.bool true, .bool b1, .bool b2, .bool b3, .bool b4, .bool b5, .bool b6] 1 false false, M stA⟩ := by kernel_rfl
theorem g7_7A (b0 b1 b2 b3 b4 b5 b6 : Bool) (k : Nat) : endT Stb12 fn4 (cont (lp (k + 1) ⟨T [.bool b0, .bool b1, .bool b2, .bool b3, .bool b4, .bool b5, .bool b6] 7 false false, M stA⟩)) = true := by kernel_rfl
theorem g7_7B (b0 b1 b2 b3 b4 b5 b6 : Bool) (k : Nat) : endT Stb12 fn4 (cont (lp (k + 1) ⟨T [.bool b0, .bool b1, .bool b2, .bool b3, .bool b4, .bool b5, .bool b6] 7 false true, M stB⟩)) = true := by kernel_rfl
theorem g7_7C (b0 b1 b2 b3 b4 b5 b6 : Bool) (k : Nat) : endT Stb12 fn4 (cont (lp (k + 1) ⟨T [.bool b0, .bool b1, .bool b2, .bool b3, .bool b4, .bool b5, .bool b6] 7 true true, M stC⟩)) = true := by kernel_rfl
theorem g7_6A (b0 b1 b2 b3 b4 b5 b6 : Bool) (k : Nat) : endT Stb12 fn4 (cont (lp (k + 1 + 1) ⟨T [.bool b0, .bool b1, .bool b2, .bool b3, .bool b4, .bool b5, .bool b6] 6 false false, M stA⟩)) = true := by
  cases b6
  · exact (congrArg (fun q => endT Stb12 fn4 (cont q)) (loop_round (k := k + 1) (gls := glOf) (f := 4) rfl (T_length _ _ _ _) (s7_6A0 b0 b1 b2 b3 b4 b5))).trans (g7_7B b0 b1 b2 b3 b4 b5 false k)
  · exact (congrArg (fun q => endT Stb12 fn4 (cont q)) (loop_round (k := k + 1) (gls := glOf) (f := 4) rfl (T_length _ _ _ _) (s7_6A1 b0 b1 b2 b3 b4 b5))).trans (g7_7A b0 b1 b2 b3 b4 b5 true k)
theorem g7_6B (b0 b1 b2 b3 b4 b5 b6 : Bool) (k : Nat) : endT Stb12 fn4 (cont (lp (k + 1 + 1) ⟨T [.bool b0, .bool b1, .bool b2, .bool b3, .bool b4, .bool b5, .bool b6] 6 false true, M stB⟩)) = true := by
  cases b6
  · exact (congrArg (fun q => endT Stb12 fn4 (cont q)) (loop_round (k := k + 1) (gls := glOf) (f := 4) rfl (T_length _ _ _ _) (s7_6B0 b0 b1 b2 b3 b4 b5))).trans (g7_7C b0 b1 b2 b3 b4 b5 false k)
  · exact (congrArg (fun q => endT Stb12 fn4 (cont q)) (loop_round (k := k + 1) (gls := glOf) (f := 4) rfl (T_length _ _ _ _) (s7_6B1 b0 b1 b2 b3 b4 b5))).trans (g7_7A b0 b1 b2 b3 b4 b5 true k)
theorem g7_6C (b0 b1 b2 b3 b4 b5 b6 : Bool) (k : Nat) : endT Stb12 fn4 (cont (lp (k + 1 + 1) ⟨T [.bool b0, .bool b1, .bool b2, .bool b3, .bool b4, .bool b5, .bool b6] 6 true true, M stC⟩)) = true := by
  cases b6
  · exact (congrArg (fun q => endT Stb12 fn4 (cont q)) (loop_round (k := k + 1) (gls := glOf) (f := 4) rfl (T_length _ _ _ _) (s7_6C0 b0 b1 b2 b3 b4 b5))).trans (g7_7C b0 b1 b2 b3 b4 b5 false k)
  · exact (congrArg (fun q => endT Stb12 fn4 (cont q)) (loop_round (k := k + 1) (gls := glOf) (f := 4) rfl (T_length _ _ _ _) (s7_6C1 b0 b1 b2 b3 b4 b5))).trans (g7_7A b0 b1 b2 b3 b4 b5 true k)
theorem g7_5A (b0 b1 b2 b3 b4 b5 b6 : Bool) (k : Nat) : endT Stb12 fn4 (cont (lp (k + 2 + 1) ⟨T [.bool b0, .bool b1, .bool b2, .bool b3, .bool b4, .bool b5, .bool b6] 5 false false, M stA⟩)) = true := by
  cases b5
  · exact (congrArg (fun q => endT Stb12 fn4 (cont q)) (loop_round (k := k + 2) (gls := glOf) (f := 4) rfl (T_length _ _ _ _) (s7_5A0 b0 b1 b2 b3 b4 b6))).trans (g7_6B b0 b1 b2 b3 b4 false b6 k)
  · exact (congrArg (fun q => endT Stb12 fn4 (cont q)) (loop_round (k := k + 2) (gls := glOf) (f := 4) rfl (T_length _ _ _ _) (s7_5A1 b0 b1 b2 b3 b4 b6))).trans (g7_6A b0 b1 b2 b3 b4 true b6 k)
theorem g7_5B (b0 b1 b2 b3 b4 b5 b6 : Bool) (k : Nat) : endT Stb12 fn4 (cont (lp (k + 2 + 1) ⟨T [.bool b0, .bool b1, .bool b2, .bool b3, .bool b4, .bool b5, .bool b6] 5 false true, M stB⟩)) = true := by
  cases b5
  · exact (congrArg (fun q => endT Stb12 fn4 (cont q)) (loop_round (k := k + 2) (gls := glOf) (f := 4) rfl (T_length _ _ _ _) (s7_5B0 b0 b1 b2 b3 b4 b6))).trans (g7_6C b0 b1 b2 b3 b4 false b6 k)
  · exact (congrArg (fun q => endT Stb12 fn4 (cont q)) (loop_round (k := k + 2) (gls := glOf) (f := 4) rfl (T_length _ _ _ _) (s7_5B1 b0 b1 b2 b3 b4 b6))).trans (g7_6A b0 b1 b2 b3 b4 true b6 k)
theorem g7_5C (b0 b1 b2 b3 b4 b5 b6 : Bool) (k : Nat) : endT Stb12 fn4 (cont (lp (k + 2 + 1) ⟨T [.bool b0, .bool b1, .bool b2, .bool b3, .bool b4, .bool b5, .bool b6] 5 true true, M stC⟩)) = true := by
  cases b5
  · exact (congrArg (fun q => endT Stb12 fn4 (cont q)) (loop_round (k := k + 2) (gls := glOf) (f := 4) rfl (T_length _ _ _ _) (s7_5C0 b0 b1 b2 b3 b4 b6))).trans (g7_6C b0 b1 b2 b3 b4 false b6 k)
  · exact (congrArg (fun q => endT Stb12 fn4 (cont q)) (loop_round (k := k + 2) (gls := glOf) (f := 4) rfl (T_length _ _ _ _) (s7_5C1 b0 b1 b2 b3 b4 b6))).trans (g7_6A b0 b1 b2 b3 b4 true b6 k)
theorem g7_4A (b0 b1 b2 b3 b4 b5 b6 : Bool) (k : Nat) : endT Stb12 fn4 (cont (lp (k + 3 + 1) ⟨T [.bool b0, .bool b1, .bool b2, .bool b3, .bool b4, .bool b5, .bool b6] 4 false false, M stA⟩)) = true := by
  cases b4
  · exact (congrArg (fun q => endT Stb12 fn4 (cont q)) (loop_round (k := k + 3) (gls := glOf) (f := 4) rfl (T_length _ _ _ _) (s7_4A0 b0 b1 b2 b3 b5 b6))).trans (g7_5B b0 b1 b2 b3 false b5 b6 k)
  · exact (congrArg (fun q => endT Stb12 fn4 (cont q)) (loop_round (k := k + 3) (gls := glOf) (f := 4) rfl (T_length _ _ _ _) (s7_4A1 b0 b1 b2 b3 b5 b6))).trans (g7_5A b0 b1 b2 b3 true b5 b6 k)
theorem g7_4B (b0 b1 b2 b3 b4 b5 b6 : Bool) (k : Nat) : endT Stb12 fn4 (cont (lp (k + 3 + 1) ⟨T [.bool b0, .bool b1, .bool b2, .bool b3, .bool b4, .bool b5, .bool b6] 4 false true, M stB⟩)) = true := by
  cases b4
  · exact (congrArg (fun q => endT Stb12 fn4 (cont q)) (loop_round (k := k + 3) (gls := glOf) (f := 4) rfl (T_length _ _ _ _) (s7_4B0 b0 b1 b2 b3 b5 b6))).trans (g7_5C b0 b1 b2 b3 false b5 b6 k)
  · exact (congrArg (fun q => endT Stb12 fn4 (cont q)) (loop_round (k := k + 3) (gls := glOf) (f := 4) rfl (T_length _ _ _ _) (s7_4B1 b0 b1 b2 b3 b5 b6))).trans (g7_5A b0 b1 b2 b3 true b5 b6 k)
theorem g7_4C (b0 b1 b2 b3 b4 b5 b6 : Bool) (k : Nat) : endT Stb12 fn4 (cont (lp (k + 3 + 1) ⟨T [.bool b0, .bool b1, .bool b2, .bool b3, .bool b4, .bool b5, .bool b6] 4 true true, M stC⟩)) = true := by
  cases b4
  · exact (congrArg (fun q => endT Stb12 fn4 (cont q)) (loop_round (k := k + 3) (gls := glOf) (f := 4) rfl (T_length _ _ _ _) (s7_4C0 b0 b1 b2 b3 b5 b6))).trans (g7_5C b0 b1 b2 b3 false b5 b6 k)
  · exact (congrArg (fun q => endT Stb12 fn4 (cont q)) (loop_round (k := k + 3) (gls := glOf) (f := 4) rfl (T_length _ _ _ _) (s7_4C1 b0 b1 b2 b3 b5 b6))).trans (g7_5A b0 b1 b2 b3 true b5 b6 k)
theorem g7_3A (b0 b1 b2 b3 b4 b5 b6 : Bool) (k : Nat) : endT Stb12 fn4 (cont (lp (k + 4 + 1) ⟨T [.bool b0, .bool b1, .bool b2, .bool b3, .bool b4, .bool b5, .bool b6] 3 false false, M stA⟩)) = true := by
  cases b3
  · exact (congrArg (fun q => endT Stb12 fn4 (cont q)) (loop_round (k := k + 4) (gls := glOf) (f := 4) rfl (T_length _ _ _ _) (s7_3A0 b0 b1 b2 b4 b5 b6))).trans (g7_4B b0 b1 b2 false b4 b5 b6 k)
  · exact (congrArg (fun q => endT Stb12 fn4 (cont q)) (loop_round (k := k + 4) (gls := glOf) (f := 4) rfl (T_length _ _ _ _) (s7_3A1 b0 b1 b2 b4 b5 b6))).trans (g7_4A b0 b1 b2 true b4 b5 b6 k)
theorem g7_3B (b0 b1 b2 b3 b4 b5 b6 : Bool) (k : Nat) : endT Stb12 fn4 (cont (lp (k + 4 + 1) ⟨T [.bool b0, .bool b1, .bool b2, .bool b3, .bool b4, .bool b5, .bool b6] 3 false true, M stB⟩)) = true := by
  cases b3
  · exact (congrArg (fun q => endT Stb12 fn4 (cont q)) (loop_round (k := k + 4) (gls := glOf) (f := 4) rfl (T_length _ _ _ _) (s7_3B0 b0 b1 b2 b4 b5 b6))).trans (g7_4C b0 b1 b2 false b4 b5 b6 k)
  · exact (congrArg (fun q => endT Stb12 fn4 (cont q)) (loop_round (k := k + 4) (gls := glOf) (f := 4) rfl (T_length _ _ _ _) (s7_3B1 b0 b1 b2 b4 b5 b6))).trans (g7_4A b0 b1 b2 true b4 b5 b6 k)
theorem g7_3C (b0 b1 b2 b3 b4 b5 b6 : Bool) (k : Nat) : endT Stb12 fn4 (cont (lp (k + 4 + 1) ⟨T [.bool b0, .bool b1, .bool b2, .bool b3, .bool b4, .bool b5, .bool b6] 3 true true, M stC⟩)) = true := by
  cases b3
  · exact (congrArg (fun q => endT Stb12 fn4 (cont q)) (loop_round (k := k + 4) (gls := glOf) (f := 4) rfl (T_length _ _ _ _) (s7_3C0 b0 b1 b2 b4 b5 b6))).trans (g7_4C b0 b1 b2 false b4 b5 b6 k)
  · exact (congrArg (fun q => endT Stb12 fn4 (cont q)) (loop_round (k := k + 4) (gls := glOf) (f := 4) rfl (T_length _ _ _ _) (s7_3C1 b0 b1 b2 b4 b5 b6))).trans (g7_4A b0 b1 b2 true b4 b5 b6 k)
theorem g7_2A (b0 b1 b2 b3 b4 b5 b6 : Bool) (k : Nat) : endT Stb12 fn4 (cont (lp (k + 5 + 1) ⟨T [.bool b0, .bool b1, .bool b2, .bool b3, .bool b4, .bool b5, .bool b6] 2 false false, M stA⟩)) = true := by
  cases b2
  · exact (congrArg (fun q => endT Stb12 fn4 (cont q)) (loop_round (k := k + 5) (gls := glOf) (f := 4) rfl (T_length _ _ _ _) (s7_2A0 b0 b1 b3 b4 b5 b6))).trans (g7_3B b0 b1 false b3 b4 b5 b6 k)
  · exact (congrArg (fun q => endT Stb12 fn4 (cont q)) (loop_round (k := k + 5) (gls := glOf) (f := 4) rfl (T_length _ _ _ _) (s7_2A1 b0 b1 b3 b4 b5 b6))).trans (g7_3A b0 b1 true b3 b4 b5 b6 k)
theorem g7_2B (b0 b1 b2 b3 b4 b5 b6 : Bool) (k : Nat) : endT Stb12 fn4 (cont (lp (k + 5 + 1) ⟨T [.bool b0, .bool b1, .bool b2, .bool b3, .bool b4, .bool b5, .bool b6] 2 false true, M stB⟩)) = true := by
  cases b2
  · exact (congrArg (fun q => endT Stb12 fn4 (cont q)) (loop_round (k := k + 5) (gls := glOf) (f := 4) rfl (T_length _ _ _ _) (s7_2B0 b0 b1 b3 b4 b5 b6))).trans (g7_3C b0 b1 false b3 b4 b5 b6 k)
  · exact (congrArg (fun q => endT Stb12 fn4 (cont q)) (loop_round (k := k + 5) (gls := glOf) (f := 4) rfl (T_length _ _ _ _) (s7_2B1 b0 b1 b3 b4 b5 b6))).trans (g7_3A b0 b1 true b3 b4 b5 b6 k)
theorem g7_2C (b0 b1 b2 b3 b4 b5 b6 : Bool) (k : Nat) : endT Stb12 fn4 (cont (lp (k + 5 + 1) ⟨T [.bool b0, .bool b1, .bool b2, .bool b3, .bool b4, .bool b5, .bool b6] 2 true true, M stC⟩)) = true := by
  cases b2
  · exact (congrArg (fun q => endT Stb12 fn4 (cont q)) (loop_round (k := k + 5) (gls := glOf) (f := 4) rfl (T_length _ _ _ _) (s7_2C0 b0 b1 b3 b4 b5 b6))).trans (g7_3C b0 b1 false b3 b4 b5 b6 k)
  · exact (congrArg (fun q => endT Stb12 fn4 (cont q)) (loop_round (k := k + 5) (gls := glOf) (f := 4) rfl (T_length _ _ _ _) (s7_2C1 b0 b1 b3 b4 b5 b6))).trans (g7_3A b0 b1 true b3 b4 b5 b6 k)
theorem g7_1A (b0 b1 b2 b3 b4 b5 b6 : Bool) (k : Nat) : endT Stb12 fn4 (cont (lp (k + 6 + 1) ⟨T [.bool b0, .bool b1, .bool b2, .bool b3, .bool b4, .bool b5, .bool b6] 1 false false, M stA⟩)) = true := by
  cases b1
  · exact (congrArg (fun q => endT Stb12 fn4 (cont q)) (loop_round (k := k + 6) (gls := glOf) (f := 4) rfl (T_length _ _ _ _) (s7_1A0 b0 b2 b3 b4 b5 b6))).trans (g7_2B b0 false b2 b3 b4 b5 b6 k)
  · exact (congrArg (fun q => endT Stb12 fn4 (cont q)) (loop_round (k := k + 6) (gls := glOf) (f := 4) rfl (T_length _ _ _ _) (s7_1A1 b0 b2 b3 b4 b5 b6))).trans (g7_2A b0 true b2 b3 b4 b5 b6 k)
theorem g7_1B (b0 b1 b2 b3 b4 b5 b6 : Bool) (k : Nat) : endT Stb12 fn4 (cont (lp (k + 6 + 1) ⟨T [.bool b0, .bool b1, .bool b2, .bool b3, .bool b4, .bool b5, .bool b6] 1 false true, M stB⟩)) = true := by
  cases b1
  · exact (congrArg (fun q => endT Stb12 fn4 (cont q)) (loop_round (k := k + 6) (gls := glOf) (f := 4) rfl (T_length _ _ _ _) (s7_1B0 b0 b2 b3 b4 b5 b6))).trans (g7_2C b0 false b2 b3 b4 b5 b6 k)
  · exact (congrArg (fun q => endT Stb12 fn4 (cont q)) (loop_round (k := k + 6) (gls := glOf) (f := 4) rfl (T_length _ _ _ _) (s7_1B1 b0 b2 b3 b4 b5 b6))).trans (g7_2A b0 true b2 b3 b4 b5 b6 k)
theorem g7_1C (b0 b1 b2 b3 b4 b5 b6 : Bool) (k : Nat) : endT Stb12 fn4 (cont (lp (k + 6 + 1) ⟨T [.bool b0, .bool b1, .bool b2, .bool b3, .bool b4, .bool b5, .bool b6] 1 true true, M stC⟩)) = true := by
  cases b1
  · exact (congrArg (fun q => endT Stb12 fn4 (cont q)) (loop_round (k := k + 6) (gls := glOf) (f := 4) rfl (T_length _ _ _ _) (s7_1C0 b0 b2 b3 b4 b5 b6))).trans (g7_2C b0 false b2 b3 b4 b5 b6 k)
  · exact (congrArg (fun q => endT Stb12 fn4 (cont q)) (loop_round (k := k + 6) (gls := glOf) (f := 4) rfl (T_length _ _ _ _) (s7_1C1 b0 b2 b3 b4 b5 b6))).trans (g7_2A b0 true b2 b3 b4 b5 b6 k)
theorem g7_0Z (b0 b1 b2 b3 b4 b5 b6 : Bool) (k : Nat) : endT Stb12 fn4 (cont (lp (k + 7 + 1) ⟨T [.bool b0, .bool b1, .bool b2, .bool b3, .bool b4, .bool b5, .bool b6] 0 false false, M stZ⟩)) = true := by
  cases b0
  · exact (congrArg (fun q => endT Stb12 fn4 (cont q)) (loop_round (k := k + 7) (gls := glOf) (f := 4) rfl (T_length _ _ _ _) (s7_0Z0 b1 b2 b3 b4 b5 b6))).trans (g7_1B false b1 b2 b3 b4 b5 b6 k)
  · exact (congrArg (fun q => endT Stb12 fn4 (cont q)) (loop_round (k := k + 7) (gls := glOf) (f := 4) rfl (T_length _ _ _ _) (s7_0Z1 b1 b2 b3 b4 b5 b6))).trans (g7_1A true b1 b2 b3 b4 b5 b6 k)
theorem h6 (b0 b1 b2 b3 b4 b5 : Bool) (n : Int) : runPre Stb12 fn4 (glOf 4) (runFE Stb12 glOf 4999) 4999 pre (startE glOf 4 fn4 [.pv (.sl [.bool b0, .bool b1, .bool b2, .bool b3, .bool b4, .bool b5]), .pv (.int .i64 n)] []) = some (sB [.bool b0, .bool b1, .bool b2, .bool b3, .bool b4, .bool b5] n) := by kernel_rfl
theorem t6 (b0 b1 b2 b3 b4 b5 : Bool) (n : Int) : (cutAll 3891 3 0 (toL (glOf 4) 99 (sB [.bool b0, .bool b1, .bool b2, .bool b3, .bool b4, .bool b5] n).e)).set 1 (.pv (.sym 0)) = Tz [.bool b0, .bool b1, .bool b2, .bool b3, .bool b4, .bool b5] := by kernel_rfl
theorem k6 (b0 b1 b2 b3 b4 b5 : Bool) (n : Int) : (toL (glOf 4) 99 (sB [.bool b0, .bool b1, .bool b2, .bool b3, .bool b4, .bool b5] n).e)[1]? = some (.pv (.int .i64 (x n))) := by kernel_rfl
theorem m6 (b0 b1 b2 b3 b4 b5 : Bool) (n : Int) : (sB [.bool b0, .bool b1, .bool b2, .bool b3, .bool b4, .bool b5] n).m = M stZ := by kernel_rfl
theorem s6_5A0 (b0 b1 b2 b3 b4 : Bool) : roundT Stb12 fn4 glOf 4 4999 3 bd ⟨T [.bool b0, .bool b1, .bool b2, .bool b3, .bool b4, .bool false] 5 false false, M stA⟩ = some ⟨T [.bool b0, .bool b1, .bool b2, .bool b3, .bool b4, .bool false] 6 false true, M stB⟩ := by kernel_rfl
theorem s6_5A1 (b0 b1 b2 b3 b4 : Bool) : roundT Stb12 fn4 glOf 4 4999 3 bd ⟨T [.bool b0, .bool b1, .bool b2, .bool b3, .bool b4, .bool true] 5 false false, M stA⟩ = some ⟨T [.bool b0, .bool b1, .bool b2, .bool b3, .bool b4, .bool true] 6 false false, M stA⟩ := by kernel_rfl
theorem s6_5B0 (b0 b1 b2 b3 b4 : Bool) : roundT Stb12 fn4 glOf 4 4999 3 bd ⟨T [.bool b0, .bool b1, .bool b2, .bool b3, .bool b4, .bool false] 5 false true, M stB⟩ = some ⟨T [.bool b0, .bool b1, .bool b2, .bool b3, .bool b4, .bool false] 6 true true, M stC⟩ := by kernel_rfl
theorem s6_5B1 (b0 b1 b2 b3 b4 : Bool) : roundT Stb12 fn4 glOf 4 4999 3 bd ⟨T [.bool b0, .bool b1, .bool b2, .bool b3, .bool b4, .bool true] 5 false true, M stB⟩ = some ⟨T [.bool b0, .bool b1, .bool b2, .bool b3, .bool b4, .bool true] 6 false false, M stA⟩ := by kernel_rfl
theorem s6_5C0 (b0 b1 b2 b3 b4 : Bool) : roundT Stb12 fn4 glOf 4 4999 3 bd ⟨T [.bool b0, .bool b1, .bool b2, .bool b3, .bool b4, .bool false] 5 true true, M stC⟩ = some ⟨T [.bool b0, .bool b1, .bool b2, .bool b3, .bool b4, .bool false] 6 true true, M stC⟩ := by kernel_rfl
theorem s6_5C1 (b0 b1 b2 b3 b4 : Bool) : roundT Stb12 fn4 glOf 4 4999 3 bd ⟨T [.bool b0, .bool b1, .bool b2, .bool b3, .bool b4, .bool true] 5 true true, M stC⟩ = some ⟨T [.bool b0, .bool b1, .bool b2, .bool b3, .bool b4, .bool true] 6 false false, M stA⟩ := by kernel_rfl
theorem s6_4A0 (b0 b1 b2 b3 b5 : Bool) : roundT Stb12 fn4 glOf 4 4999 3 bd ⟨T [.bool b0, .bool b1, .bool b2, .bool b3, .bool false, .bool b5] 4 false false, M stA⟩ = some ⟨T [.bool b0, .bool b1, .bool b2, .bool b3, .bool false, .bool b5] 5 false true, M stB⟩ := by kernel_rfl
theorem s6_4A1 (b0 b1 b2 b3 b5 : Bool) : roundT Stb12 fn4 glOf 4 4999 3 bd ⟨T [.bool b0, .bool b1, .bool b2, .bool b3, .bool true, .bool b5] 4 false false, M stA⟩ = some ⟨T [.bool b0, .bool b1, .bool b2, .bool b3, .bool true, .bool b5] 5 false false, M stA⟩ := by kernel_rfl
theorem s6_4B0 (b0 b1 b2 b3 b5 : Bool) : roundT Stb12 fn4 glOf 4 4999 3 bd ⟨T [.bool b0, .bool b1, .bool b2, .bool b3, .bool false, .bool b5] 4 false true, M stB⟩ = some ⟨T [.bool b0, .bool b1, .bool b2, .bool b3, .bool false, .bool b5] 5 true true, M stC⟩ := by kernel_rfl
theorem s6_4B1 (b0 b1 b2 b3 b5 : Bool) : roundT Stb12 fn4 glOf 4 4999 3 bd ⟨T [.bool b0, .bool b1, .bool b2, .bool b3, .bool true, .bool b5] 4 false true, M stB⟩ = some ⟨T [.bool b0, .bool b1, .bool b2, .bool b3, .bool true, .bool b5] 5 false false, M stA⟩ := by kernel_rfl
theorem s6_4C0 (b0 b1 b2 b3 b5 : Bool) : roundT Stb12 fn4 glOf 4 4999 3 bd ⟨T [.bool b0, .bool b1, .bool b2, .bool b3, .bool false, .bool b5] 4 true true, M stC⟩ = some ⟨T [.bool b0, .bool b1, .bool b2, .bool b3, .bool false, .bool b5] 5 true true, M stC⟩ := by kernel_rfl
theorem s6_4C1 (b0 b1 b2 b3 b5 : Bool) : roundT Stb12 fn4 glOf 4 4999 3 bd ⟨T [.bool b0, .bool b1, .bool b2, .bool b3, .bool true, .bool b5] 4 true true, M stC⟩ = some ⟨T [.bool b0, .bool b1, .bool b2, .bool b3, .bool true, .bool b5] 5 false false, M stA⟩ := by kernel_rfl
theorem s6_3A0 (b0 b1 b2 b4 b5 : Bool) : roundT Stb12 fn4 glOf 4 4999 3 bd ⟨T [.bool b0, .bool b1, .bool b2, .bool false, .bool b4, .bool b5] 3 false false, M stA⟩ = some ⟨T [.bool b0, .bool b1, .bool b2, .bool false, .bool b4, .bool b5] 4 false true, M stB⟩ := by kernel_rfl
theorem s6_3A1 (b0 b1 b2 b4 b5 : Bool) : roundT Stb12 fn4 glOf 4 4999 3 bd ⟨T [.bool b0, .bool b1, .bool b2, .bool true, .bool b4, .bool b5] 3 false false, M stA⟩ = some ⟨T [.bool b0, .bool b1, .bool b2, .bool true, .bool b4, .bool b5] 4 false false, M stA⟩ := by kernel_rfl
theorem s6_3B0 (b0 b1 b2 b4 b5 : Bool) : roundT Stb12 fn4 glOf 4 4999 3 bd ⟨T [.bool b0, .bool b1, .bool b2, .bool false, .bool b4, .bool b5] 3 false true, M stB⟩ = some ⟨T [.bool b0, .bool b1, .bool b2, .bool false, .bool b4, .bool b5] 4 true true, M stC⟩ := by kernel_rfl
theorem s6_3B1 (b0 b1 b2 b4 b5 : Bool) : roundT Stb12 fn4 glOf 4 4999 3 bd ⟨T [.bool b0, .bool b1, .bool b2, .bool true, .bool b4, .bool b5] 3 false true, M stB⟩ = some ⟨T [.bool b0, .bool b1, .bool b2, .bool true, .bool b4, .bool b5] 4 false false, M stA⟩ := by kernel_rfl
theorem s6_3C0 (b0 b1 b2 b4 b5 : Bool) : roundT Stb12 fn4 glOf 4 4999 3 bd ⟨T [.bool b0, .bool b1, .bool b2, .bool false, .bool b4, .bool b5] 3 true true, M stC⟩ = some ⟨T [.bool b0, .bool b1, .bool b2, .bool false, .bool b4, .bool b5] 4 true true, M stC⟩ := by kernel_rfl
theorem s6_3C1 (b0 b1 b2 b4 b5 : Bool) : roundT Stb12 fn4 glOf 4 4999 3 bd ⟨T [.bool b0, .bool b1, .bool b2, .bool true, .bool b4, .bool b5] 3 true true, M stC⟩ = some ⟨T [.bool b0, .bool b1, .bool b2, .bool true, .bool b4, .bool b5] 4 false false, M stA⟩ := by kernel_rfl
theorem s6_2A0 (b0 b1 b3 b4 b5 : Bool) : roundT Stb12 fn4 glOf 4 4999 3 bd ⟨T [.bool b0, .bool b1, .bool false, .bool b3, .bool b4, .bool b5] 2 false false, M stA⟩ = some ⟨T [.bool b0, .bool b1, .bool false, .bool b3, .bool b4, .bool b5] 3 false true, M stB⟩ := by kernel_rfl
theorem s6_2A1 (b0 b1 b3 b4 b5 : Bool) : roundT Stb12 fn4 glOf 4 4999 3 bd ⟨T [.bool b0, .bool b1, .bool true, .bool b3, .bool b4, .bool b5] 2 false false, M stA⟩ = some ⟨T [.bool b0, .bool b1, .bool true, .bool b3, .bool b4, .bool b5] 3 false false, M stA⟩ := by kernel_rfl
theorem s6_2B0 (b0 b1 b3 b4 b5 : Bool) : roundT Stb12 fn4 glOf 4 4999 3 bd ⟨T [.bool b0, .bool b1, .bool false, .bool b3, .bool b4, .bool b5] 2 false true, M stB⟩ = some ⟨T [.bool b0, .bool b1, .bool false, .bool b3, .bool b4, .bool b5] 3 true true, M stC⟩ := by kernel_rfl
theorem s6_2B1 (b0 b1 b3 b4 b5 : Bool) : roundT Stb12 fn4 glOf 4 4999 3 bd ⟨T [.bool b0, .bool b1, .bool true, .bool b3, .bool b4, .bool b5] 2 false true, M stB⟩ = some ⟨T [.bool b0, .bool b1, .bool true, .bool b3, .bool b4, .bool b5] 3 false false, M stA⟩ := by kernel_rfl
theorem s6_2C0 (b0 b1 b3 b4 b5 : Bool) : roundT Stb12 fn4 glOf 4 4999 3 bd ⟨T [.bool b0, .bool b1, .bool false, .bool b3, .bool b4, .bool b5] 2 true true, M stC⟩ = some ⟨T [.bool b0, .bool b1, .bool false, .bool b3, .bool b4, .bool b5] 3 true true, M stC⟩ := by kernel_rfl
theorem s6_2C1 (b0 b1 b3 b4 b5 : Bool) : roundT Stb12 fn4 glOf 4 4999 3 bd ⟨T [.bool b0, .bool b1, .bool true, .bool b3, .bool b4, .bool b5] 2 true true, M stC⟩ = some ⟨T [.bool b0, .bool b1, .bool true, .bool b3, .bool b4, .bool b5] 3 false false, M stA⟩ := by kernel_rfl
theorem s6_1A0 (b0 b2 b3 b4 b5 : Bool) : roundT Stb12 fn4 glOf 4 4999 3 bd ⟨T [.bool b0, .bool false, .bool b2, .bool b3, .bool b4, .bool b5] 1 false false, M stA⟩ = some ⟨T [.bool b0, .bool false, .bool b2, .bool b3, .bool b4, .bool b5] 2 false true, M stB⟩ := by kernel_rfl
theorem s6_1A1 (b0 b2 b3 b4 b5 : Bool) : roundT Stb12 fn4 glOf 4 4999 3 bd ⟨T [.bool b0, .bool true, .bool b2, .bool b3, .bool b4, .bool b5] 1 false false, M stA⟩ = some ⟨T [.bool b0, .bool true, .bool b2, .bool b3, .bool b4, .bool b5] 2 false false, M stA⟩ := by kernel_rfl
theorem s6_1B0 (b0 b2 b3 b4 b5 : Bool) : roundT Stb12 fn4 glOf 4 4999 3 bd ⟨T [.bool b0, .bool false, .bool b2, .bool b3, .bool b4, .bool b5] 1 false true, M stB⟩ = some ⟨T [.bool b0, .bool false, .bool b2, .bool b3, .bool b4, .bool b5] 2 true true, M stC⟩ := by kernel_rfl
theorem s6_1B1 (b0 b2 b3 b4 b5 : Bool) : roundT Stb12 fn4 glOf 4 4999 3 bd ⟨T [.bool b0, .bool true, .bool b2, .bool b3, .bool b4, .bool b5] 1 false true, M stB⟩ = some ⟨T [.bool b0, .bool true, .bool b2, .bool b3, .bool b4, .bool b5] 2 false false, M stA⟩ := by kernel_rfl
theorem s6_1C0 (b0 b2 b3 b4 b5 : Bool) : roundT Stb12 fn4 glOf 4 4999 3 bd ⟨T [.bool b0, .bool false, .bool b2, .bool b3, .bool b4, .bool b5] 1 true true, M stC⟩ = some ⟨T [.bool b0, .bool false, .bool b2, .bool b3, .bool b4, .bool b5] 2 true true, M stC⟩ := by kernel_rfl
theorem s6_1C1 (b0 b2 b3 b4 b5 : Bool) : roundT Stb12 fn4 glOf 4 4999 3 bd ⟨T [.bool b0, .bool true, .bool b2, .bool b3, .bool b4, .bool b5] 1 true true, M stC⟩ = some ⟨T [.bool b0, .bool true, .bool b2, .bool b3, .bool b4, .bool b5] 2 false false, M stA⟩ := by kernel_rfl
theorem s6_0Z0 (b1 b2 b3 b4 b5 : Bool) : roundT Stb12 fn4 glOf 4 4999 3 bd ⟨T [.bool false, .bool b1, .bool b2, .bool b3, .bool b4, .bool b5] 0 false false, M stZ⟩ = some ⟨T [.bool false, .bool b1, .bool b2, .bool b3, .bool b4, .bool b5] 1 false true, M stB⟩ := by kernel_rfl
theorem s6_0Z1 (b1 b2 b3 b4 b5 : Bool) : roundT Stb12 fn4 glOf 4 4999 3 bd ⟨T [.bool true, .bool b1, .bool b2, .bool b3, .bool b4, .bool b5] 0 false false, M stZ⟩ = some ⟨T [.bool true, .bool b1, .bool b2, .bool b3, .bool b4, .bool b5] 1 false false, M stA⟩ := by kernel_rfl
theorem g6_6A (b0 b1 b2 b3 b4 b5 : Bool) (k : Nat) : endT Stb12 fn4 (cont (lp (k + 1) ⟨T [.bool b0, .bool b1, .bool b2, .bool b3, .bool b4, .bool b5] 6 false false, M stA⟩)) = true := by kernel_rfl
theorem g6_6B (b0 b1 b2 b3 b4 b5 : Bool) (k : Nat) : endT Stb12 fn4 (cont (lp (k + 1) ⟨T [.bool b0, .bool b1, .bool b2, .bool b3, .bool b4, .bool b5] 6 false true, M stB⟩)) = true := by kernel_rfl
theorem g6_6C (b0 b1 b2 b3 b4 b5 : Bool) (k : Nat) : endT Stb12 fn4 (cont (lp (k + 1) ⟨T [.bool b0, .bool b1, .bool b2, .bool b3, .bool b4, .bool b5] 6 true true, M stC⟩)) = true := by kernel_rfl
theorem g6_5A (b0 b1 b2 b3 b4 b5 : Bool) (k : Nat) : endT Stb12 fn4 (cont (lp (k + 1 + 1) ⟨T [.bool b0, .bool b1, .bool b2, .bool b3, .bool b4, .bool b5] 5 false false, M stA⟩)) = true := by
  cases b5
  · exact (congrArg (fun q => endT Stb12 fn4 (cont q)) (loop_round (k := k + 1) (gls := glOf) (f := 4) rfl (T_length _ _ _ _) (s6_5A0 b0 b1 b2 b3 b4))).trans (g6_6B b0 b1 b2 b3 b4 false k)
  · exact (congrArg (fun q => endT Stb12 fn4 (cont q)) (loop_round (k := k + 1) (gls := glOf) (f := 4) rfl (T_length _ _ _ _) (s6_5A1 b0 b1 b2 b3 b4))).trans (g6_6A b0 b1 b2 b3 b4 true k)
theorem g6_5B (b0 b1 b2 b3 b4 b5 : Bool) (k : Nat) : endT Stb12 fn4 (cont (lp (k + 1 + 1) ⟨T [.bool b0, .bool b1, .bool b2, .bool b3, .bool b4, .bool b5] 5 false true, M stB⟩)) = true := by
  cases b5
  · exact (congrArg (fun q => endT Stb12 fn4 (cont q)) (loop_round (k := k + 1) (gls := glOf) (f := 4) rfl (T_length _ _ _ _) (s6_5B0 b0 b1 b2 b3 b4))).trans (g6_6C b0 b1 b2 b3 b4 false k)
  · exact (congrArg (fun q => endT Stb12 fn4 (cont q)) (loop_round (k := k + 1) (gls := glOf) (f := 4) rfl (T_length _ _ _ _) (s6_5B1 b0 b1 b2 b3 b4))).trans (g6_6A b0 b1 b2 b3 b4 true k)
theorem g6_5C (b0 b1 b2 b3 b4 b5 : Bool) (k : Nat) : endT Stb12 fn4 (cont (lp (k + 1 + 1) ⟨T [.bool b0, .bool b1, .bool b2, .bool b3, .bool b4, .bool b5] 5 true true, M stC⟩)) = true := by
  cases b5
  · exact (congrArg (fun q => endT Stb12 fn4 (cont q)) (loop_round (k := k + 1) (gls := glOf) (f := 4) rfl (T_length _ _ _ _) (s6_5C0 b0 b1 b2 b3 b4))).trans (g6_6C b0 b1 b2 b3 b4 false k)
  · exact (congrArg (fun q => endT Stb12 fn4 (cont q)) (loop_round (k := k + 1) (gls := glOf) (f := 4) rfl (T_length _ _ _ _) (s6_5C1 b0 b1 b2 b3 b4))).trans (g6_6A b0 b1 b2 b3 b4 true k)
theorem g6_4A (b0 b1 b2 b3 b4 b5 : Bool) (k : Nat) : endT Stb12 fn4 (cont (lp (k + 2 + 1) ⟨T [.bool b0, .bool b1, .bool b2, .bool b3, .bool b4, .bool b5] 4 false false, M stA⟩)) = true := by
  cases b4
  · exact (congrArg (fun q => endT Stb12 fn4 (cont q)) (loop_round (k := k + 2) (gls := glOf) (f := 4) rfl (T_length _ _ _ _) (s6_4A0 b0 b1 b2 b3 b5))).trans (g6_5B b0 b1 b2 b3 false b5 k)
  · exact (congrArg (fun q => endT Stb12 fn4 (cont q)) (loop_round (k := k + 2) (gls := glOf) (f := 4) rfl (T_length _ _ _ _) (s6_4A1 b0 b1 b2 b3 b5))).trans (g6_5A b0 b1 b2 b3 true b5 k)
theorem g6_4B (b0 b1 b2 b3 b4 b5 : Bool) (k : Nat) : endT Stb12 fn4 (cont (lp (k + 2 + 1) ⟨T [.bool b0, .bool b1, .bool b2, .bool b3, .bool b4, .bool b5] 4 false true, M stB⟩)) = true := by
  cases b4
  · exact (congrArg (fun q => endT Stb12 fn4 (cont q)) (loop_round (k := k + 2) (gls := glOf) (f := 4) rfl (T_length _ _ _ _) (s6_4B0 b0 b1 b2 b3 b5))).trans (g6_5C b0 b1 b2 b3 false b5 k)
  · exact (congrArg (fun q => endT Stb12 fn4 (cont q)) (loop_round (k := k + 2) (gls := glOf) (f := 4) rfl (T_length _ _ _ _) (s6_4B1 b0 b1 b2 b3 b5))).trans (g6_5A b0 b1 b2 b3 true b5 k)
theorem g6_4C (b0 b1 b2 b3 b4 b5 : Bool) (k : Nat) : endT Stb12 fn4 (cont (lp (k + 2 + 1) ⟨T [.bool b0, .bool b1, .bool b2, .bool b3, .bool b4, .bool b5] 4 true true, M stC⟩)) = true := by
  cases b4
  · exact (congrArg (fun q => endT Stb12 fn4 (cont q)) (loop_round (k := k + 2) (gls := glOf) (f := 4) rfl (T_length _ _ _ _) (s6_4C0 b0 b1 b2 b3 b5))).trans (g6_5C b0 b1 b2 b3 false b5 k)
  · exact (congrArg (fun q => endT Stb12 fn4 (cont q)) (loop_round (k := k + 2) (gls := glOf) (f := 4) rfl (T_length _ _ _ _) (s6_4C1 b0 b1 b2 b3 b5))).trans (g6_5A b0 b1 b2 b3 true b5 k)
theorem g6_3A (b0 b1 b2 b3 b4 b5 : Bool) (k : Nat) : endT Stb12 fn4 (cont (lp (k + 3 + 1) ⟨T [.bool b0, .bool b1, .bool b2, .bool b3, .bool b4, .bool b5] 3 false false, M stA⟩)) = true := by
  cases b3
  · exact (congrArg (fun q => endT Stb12 fn4 (cont q)) (loop_round (k := k + 3) (gls := glOf) (f := 4) rfl (T_length _ _ _ _) (s6_3A0 b0 b1 b2 b4 b5))).trans (g6_4B b0 b1 b2 false b4 b5 k)
  · exact (congrArg (fun q => endT Stb12 fn4 (cont q)) (loop_round (k := k + 3) (gls := glOf) (f := 4) rfl (T_length _ _ _ _) (s6_3A1 b0 b1 b2 b4 b5))).trans (g6_4A b0 b1 b2 true b4 b5 k)
theorem g6_3B (b0 b1 b2 b3 b4 b5 : Bool) (k : Nat) : endT Stb12 fn4 (cont (lp (k + 3 + 1) ⟨T [.bool b0, .bool b1, .bool b2, .bool b3, .bool b4, .bool b5] 3 false true, M stB⟩)) = true := by
  cases b3
  · exact (congrArg (fun q => endT Stb12 fn4 (cont q)) (loop_round (k := k + 3) (gls := glOf) (f := 4) rfl (T_length _ _ _ _) (s6_3B0 b0 b1 b2 b4 b5))).trans (g6_4C b0 b1 b2 false b4 b5 k)
  · exact (congrArg (fun q => endT Stb12 fn4 (cont q)) (loop_round (k := k + 3) (gls := glOf) (f := 4) rfl (T_length _ _ _ _) (s6_3B1 b0 b1 b2 b4 b5))).trans (g6_4A b0 b1 b2 true b4 b5 k)
theorem g6_3C (b0 b1 b2 b3 b4 b5 : Bool) (k : Nat) : endT Stb12 fn4 (cont (lp (k + 3 + 1) ⟨T [.bool b0, .bool b1, .bool b2, .bool b3, .bool b4, .bool b5] 3 true true, M stC⟩)) = true := by
  cases b3
  · exact (congrArg (fun q => endT Stb12 fn4 (cont q)) (loop_round (k := k + 3) (gls := glOf) (f := 4) rfl (T_length _ _ _ _) (s6_3C0 b0 b1 b2 b4 b5))).trans (g6_4C b0 b1 b2 false b4 b5 k)
  · exact (congrArg (fun q => endT Stb12 fn4 (cont q)) (loop_round (k := k + 3) (gls := glOf) (f := 4) rfl (T_length _ _ _ _) (s6_3C1 b0 b1 b2 b4 b5))).trans (g6_4A b0 b1 b2 true b4 b5 k)
theorem g6_2A (b0 b1 b2 b3 b4 b5 : Bool) (k : Nat) : endT Stb12 fn4 (cont (lp (k + 4 + 1) ⟨T [.bool b0, .bool b1, .bool b2, .bool b3, .bool b4, .bool b5] 2 false false, M stA⟩)) = true := by
  cases b2
  · exact (congrArg (fun q => endT Stb12 fn4 (cont q)) (loop_round (k := k + 4) (gls := glOf) (f := 4) rfl (T_length _ _ _ _) (s6_2A0 b0 b1 b3 b4 b5))).trans (g6_3B b0 b1 false b3 b4 b5 k)
  · exact (congrArg (fun q => endT Stb12 fn4 (cont q)) (loop_round (k := k + 4) (gls := glOf) (f := 4) rfl (T_length _ _ _ _) (s6_2A1 b0 b1 b3 b4 b5))).trans (g6_3A b0 b1 true b3 b4 b5 k)
theorem g6_2B (b0 b1 b2 b3 b4 b5 : Bool) (k : Nat) : endT Stb12 fn4 (cont (lp (k + 4 + 1) ⟨T [.bool b0, .bool b1, .bool b2, .bool b3, .bool b4, .bool b5] 2 false true, M stB⟩)) = true := by
  cases b2
  · exact (congrArg (fun q => endT Stb12 fn4 (cont q)) (loop_round (k := k + 4) (gls := glOf) (f := 4) rfl (T_length _ _ _ _) (s6_2B0 b0 b1 b3 b4 b5))).trans (g6_3C b0 b1 false b3 b4 b5 k)
  · exact (congrArg (fun q => endT Stb12 fn4 (cont q)) (loop_round (k := k + 4) (gls := glOf) (f := 4) rfl (T_length _ _ _ _) (s6_2B1 b0 b1 b3 b4 b5))).trans (g6_3A b0 b1 true b3 b4 b5 k)
theorem g6_2C (b0 b1 b2 b3 b4 b5 : Bool) (k : Nat) : endT Stb12 fn4 (cont (lp (k + 4 + 1) ⟨T [.bool b0, .bool b1, .bool b2, .bool b3, .bool b4, .bool b5] 2 true true, M stC⟩)) = true := by
  cases b2
  · exact (congrArg (fun q => endT Stb12 fn4 (cont q)) (loop_round (k := k + 4) (gls := glOf) (f := 4) rfl (T_length _ _ _ _) (s6_2C0 b0 b1 b3 b4 b5))).trans (g6_3C b0 b1 false b3 b4 b5 k)
  · exact (congrArg (fun q => endT Stb12 fn4 (cont q)) (loop_round (k := k + 4) (gls := glOf) (f := 4) rfl (T_length _ _ _ _) (s6_2C1 b0 b1 b3 b4 b5))).trans (g6_3A b0 b1 true b3 b4 b5 k)
theorem g6_1A (b0 b1 b2 b3 b4 b5 : Bool) (k : Nat) : endT Stb12 fn4 (cont (lp (k + 5 + 1) ⟨T [.bool b0, .bool b1, .bool b2, .bool b3, .bool b4, .bool b5] 1 false false, M stA⟩)) = true := by
  cases b1
  · exact (congrArg (fun q => endT Stb12 fn4 (cont q)) (loop_round (k := k + 5) (gls := glOf) (f := 4) rfl (T_length _ _ _ _) (s6_1A0 b0 b2 b3 b4 b5))).trans (g6_2B b0 false b2 b3 b4 b5 k)
  · exact (congrArg (fun q => endT Stb12 fn4 (cont q)) (loop_round (k := k + 5) (gls := glOf) (f := 4) rfl (T_length _ _ _ _) (s6_1A1 b0 b2 b3 b4 b5))).trans (g6_2A b0 true b2 b3 b4 b5 k)
theorem g6_1B (b0 b1 b2 b3 b4 b5 : Bool) (k : Nat) : endT Stb12 fn4 (cont (lp (k + 5 + 1) ⟨T [.bool b0, .bool b1, .bool b2, .bool b3, .bool b4, .bool b5] 1 false true, M stB⟩)) = true := by
  cases b1
  · exact (congrArg (fun q => endT Stb12 fn4 (cont q)) (loop_round (k := k + 5) (gls := glOf) (f := 4) rfl (T_length _ _ _ _) (s6_1B0 b0 b2 b3 b4 b5))).trans (g6_2C b0 false b2 b3 b4 b5 k)
  · exact (congrArg (fun q => endT Stb12 fn4 (cont q)) (loop_round (k := k + 5) (gls := glOf) (f := 4) rfl (T_length _ _ _ _) (s6_1B1 b0 b2 b3 b4 b5))).trans (g6_2A b0 true b2 b3 b4 b5 k)
theorem g6_1C (b0 b1 b2 b3 b4 b5 : Bool) (k : Nat) : endT Stb12 fn4 (cont (lp (k + 5 + 1) ⟨T [.bool b0, .bool b1, .bool b2, .bool b3, .bool b4, .bool b5] 1 true true, M stC⟩)) = true := by
  cases b1
  · exact (congrArg (fun q => endT Stb12 fn4 (cont q)) (loop_round (k := k + 5) (gls := glOf) (f := 4) rfl (T_length _ _ _ _) (s6_1C0 b0 b2 b3 b4 b5))).trans (g6_2C b0 false b2 b3 b4 b5 k)
  · exact (congrArg (fun q => endT Stb12 fn4 (cont q)) (loop_round (k := k + 5) (gls := glOf) (f := 4) rfl (T_length _ _ _ _) (s6_1C1 b0 b2 b3 b4 b5))).trans (g6_2A b0 true b2 b3 b4 b5 k)
theorem g6_0Z (b0 b1 b2 b3 b4 b5 : Bool) (k : Nat) : endT Stb12 fn4 (cont (lp (k + 6 + 1) ⟨T [.bool b0, .bool b1, .bool b2, .bool b3, .bool b4, .bool b5] 0 false false, M stZ⟩)) = true := by
  cases b0
  · exact (congrArg (fun q => endT Stb12 fn4 (cont q)) (loop_round (k := k + 6) (gls := glOf) (f := 4) rfl (T_length _ _ _ _) (s6_0Z0 b1 b2 b3 b4 b5))).trans (g6_1B false b1 b2 b3 b4 b5 k)
  · exact (congrArg (fun q => endT Stb12 fn4 (cont q)) (loop_round (k := k + 6) (gls := glOf) (f := 4) rfl (T_length _ _ _ _) (s6_0Z1 b1 b2 b3 b4 b5))).trans (g6_1A true b1 b2 b3 b4 b5 k)
end FireSmall
end Go.Proofs.YtiajhfodfhmfaaaGreatDoor
