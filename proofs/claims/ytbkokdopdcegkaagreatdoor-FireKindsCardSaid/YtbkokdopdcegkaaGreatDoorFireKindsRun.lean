/- constablelaw23.FireKinds answers true at every number: the first steps by hand (of the number only its rest by 4 stays), the rest in the kernel. -/
import Derived.Test.YtbkokdopdcegkaaGreatDoorKSound
set_option maxRecDepth 100000
namespace Go.Proofs.YtbkokdopdcegkaaGreatDoor
open Go.Vm Go.Proofs
namespace FireKinds

noncomputable def r0 : Code := fstC fn3.body
noncomputable def r1 : Code := fstC (sndC fn3.body)
noncomputable def rest : Code := sndC (sndC fn3.body)
theorem body_eq : fn3.body = .seq r0 (.seq r1 rest) := by kernel_rfl

noncomputable def s1 (n : Int) : StE := ⟨close (glOf 3) (put (glOf 3) 2 (.pv (.bool false)) (startE glOf 3 fn3 [.pv (.int .i64 n)] []).e), []⟩
def u (n : Int) : Int := IntKind.u64.wrap n
def m (n : Int) : Int := (u n).tmod 4
def c (n : Int) : Int := IntKind.i64.wrap (m n)
def x (n : Int) : Int := IntKind.i64.wrap (1 + c n)
noncomputable def s2 (n k : Int) : StE :=
  ⟨close (glOf 3) (put (glOf 3) 0 (.pv (.int .i64 k)) (put (glOf 3) 26 (.pv (.int .i64 k)) (put (glOf 3) 25 (.pv (.int .i64 (c n))) (put (glOf 3) 24 (.pv (.int .u64 (m n))) (put (glOf 3) 23 (.pv (.int .u64 (u n))) (put (glOf 3) 22 (.pv (.int .i64 n)) (s1 n).e)))))), []⟩

theorem e1 (n : Int) : execE Ktb12 fn3 (glOf 3) (runFE Ktb12 glOf 4999) 4999 r0 (startE glOf 3 fn3 [.pv (.int .i64 n)] []) = some (.normal, s1 n) := by kernel_rfl
theorem e2 (n : Int) : execE Ktb12 fn3 (glOf 3) (runFE Ktb12 glOf 4999) 4999 r1 (s1 n) = some (.normal, s2 n (x n)) := by kernel_rfl
theorem fin1 (n : Int) : resB (finishE Ktb12 glOf 3 fn3 [.pv (.int .i64 n)] (execE Ktb12 fn3 (glOf 3) (runFE Ktb12 glOf 4999) 4999 rest (s2 n 1))) = true := by kernel_rfl
theorem fin2 (n : Int) : resB (finishE Ktb12 glOf 3 fn3 [.pv (.int .i64 n)] (execE Ktb12 fn3 (glOf 3) (runFE Ktb12 glOf 4999) 4999 rest (s2 n 2))) = true := by kernel_rfl
theorem fin3 (n : Int) : resB (finishE Ktb12 glOf 3 fn3 [.pv (.int .i64 n)] (execE Ktb12 fn3 (glOf 3) (runFE Ktb12 glOf 4999) 4999 rest (s2 n 3))) = true := by kernel_rfl
theorem fin4 (n : Int) : resB (finishE Ktb12 glOf 3 fn3 [.pv (.int .i64 n)] (execE Ktb12 fn3 (glOf 3) (runFE Ktb12 glOf 4999) 4999 rest (s2 n 4))) = true := by kernel_rfl

theorem x_cases (n : Int) : x n = 1 ∨ x n = 2 ∨ x n = 3 ∨ x n = 4 := by
  have hu : 0 ≤ u n := by
    have e : u n = n % (2 ^ IntKind.u64.bits : Int) := by
      unfold u IntKind.wrap
      simp only [show IntKind.u64.signed = false from rfl, Bool.false_and, Bool.false_eq_true, if_false]
    rw [e]
    exact Int.emod_nonneg _ (by decide)
  have hm : 0 ≤ m n ∧ m n < 4 := by
    unfold m
    rw [Int.tmod_eq_emod_of_nonneg hu]
    omega
  have h : m n = 0 ∨ m n = 1 ∨ m n = 2 ∨ m n = 3 := by omega
  unfold x c
  rcases h with h | h | h | h <;> rw [h] <;> decide

theorem run (n : Int) : resB (runFE Ktb12 glOf 5000 3 [.pv (.int .i64 n)] []) = true := by
  rw [runFE_two (n := 4999) (show Ktb12.fn 3 = some fn3 from rfl) body_eq (e1 n) (e2 n)]
  rcases x_cases n with h | h | h | h <;> rw [h]
  · exact fin1 n
  · exact fin2 n
  · exact fin3 n
  · exact fin4 n

theorem calls (n : Int) (w : World) : Calls Tryz.prog 3 #[.int .i64 n] w fun e w' => e = .returned (.bool true) ∧ After w w' :=
  calls_true Krun12 (ps := [.int .i64 n]) (run n) (.cons (.int ..) .nil) w
#print axioms calls
end FireKinds
end Go.Proofs.YtbkokdopdcegkaaGreatDoor
