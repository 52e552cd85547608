/- constablelaw24.RunCounter answers true at every pair of numbers: of the first one its rest by 20 stays (twenty runs), the second one's rest by 1000 is known by its name alone. -/
import Derived.Test.YtiajhfodfhmfaaaGreatDoorCSound
set_option maxRecDepth 100000
namespace Go.Proofs.YtiajhfodfhmfaaaGreatDoor
open Go.Vm Go.Proofs
namespace RunCounter

noncomputable def r0 : Code := fstC fn5.body
noncomputable def r1 : Code := fstC (sndC fn5.body)
noncomputable def rest : Code := sndC (sndC fn5.body)
theorem body_eq : fn5.body = .seq r0 (.seq r1 rest) := by kernel_rfl

def u (n : Int) : Int := IntKind.u64.wrap n
def m (d n : Int) : Int := (u n).tmod d
def c (d n : Int) : Int := IntKind.i64.wrap (m d n)
noncomputable def s1 (n f : Int) : StE := ⟨close (glOf 5) (put (glOf 5) 4 (.pv (.bool false)) (startE glOf 5 fn5 [.pv (.int .i64 n), .pv (.int .i64 f)] []).e), []⟩
noncomputable def s2 (n f k : Int) : StE :=
  ⟨close (glOf 5) (put (glOf 5) 1 (.pv (.int .i64 (c 1000 f))) (put (glOf 5) 0 (.pv (.int .i64 k)) (put (glOf 5) 20 (.pv (.int .i64 (c 1000 f))) (put (glOf 5) 19 (.pv (.int .u64 (m 1000 f))) (put (glOf 5) 18 (.pv (.int .u64 (u f))) (put (glOf 5) 17 (.pv (.int .i64 f))
    (put (glOf 5) 16 (.pv (.int .i64 k)) (put (glOf 5) 15 (.pv (.int .u64 (m 20 n))) (put (glOf 5) 14 (.pv (.int .u64 (u n))) (put (glOf 5) 13 (.pv (.int .i64 n)) (s1 n f).e)))))))))), []⟩

theorem e1 (n f : Int) : execE Ctb13 fn5 (glOf 5) (runFE Ctb13 glOf 4999) 4999 r0 (startE glOf 5 fn5 [.pv (.int .i64 n), .pv (.int .i64 f)] []) = some (.normal, s1 n f) := by kernel_rfl
theorem e2 (n f : Int) : execE Ctb13 fn5 (glOf 5) (runFE Ctb13 glOf 4999) 4999 r1 (s1 n f) = some (.normal, s2 n f (c 20 n)) := by kernel_rfl
theorem at1 (n f k : Int) : get (glOf 5) (s2 n f k).e 1 = .pv (.int .i64 (c 1000 f)) := by kernel_rfl

theorem fin0 (n f : Int) : resB (finishE Ctb13 glOf 5 fn5 [.pv (.int .i64 n), .pv (.int .i64 f)] (execE Ctb13 fn5 (glOf 5) (runFE Ctb13 glOf 4999) 4999 rest ⟨put (glOf 5) 1 (.pv (.sym 0)) (s2 n f 0).e, (s2 n f 0).m⟩)) = true := by kernel_rfl
theorem fin1 (n f : Int) : resB (finishE Ctb13 glOf 5 fn5 [.pv (.int .i64 n), .pv (.int .i64 f)] (execE Ctb13 fn5 (glOf 5) (runFE Ctb13 glOf 4999) 4999 rest ⟨put (glOf 5) 1 (.pv (.sym 0)) (s2 n f 1).e, (s2 n f 1).m⟩)) = true := by kernel_rfl
theorem fin2 (n f : Int) : resB (finishE Ctb13 glOf 5 fn5 [.pv (.int .i64 n), .pv (.int .i64 f)] (execE Ctb13 fn5 (glOf 5) (runFE Ctb13 glOf 4999) 4999 rest ⟨put (glOf 5) 1 (.pv (.sym 0)) (s2 n f 2).e, (s2 n f 2).m⟩)) = true := by kernel_rfl
theorem fin3 (n f : Int) : resB (finishE Ctb13 glOf 5 fn5 [.pv (.int .i64 n), .pv (.int .i64 f)] (execE Ctb13 fn5 (glOf 5) (runFE Ctb13 glOf 4999) 4999 rest ⟨put (glOf 5) 1 (.pv (.sym 0)) (s2 n f 3).e, (s2 n f 3).m⟩)) = true := by kernel_rfl
theorem fin4 (n f : Int) : resB (finishE Ctb13 glOf 5 fn5 [.pv (.int .i64 n), .pv (.int .i64 f)] (execE Ctb13 fn5 (glOf 5) (runFE Ctb13 glOf 4999) 4999 rest ⟨put (glOf 5) 1 (.pv (.sym 0)) (s2 n f 4).e, (s2 n f 4).m⟩)) = true := by kernel_rfl
theorem fin5 (n f : Int) : resB (finishE Ctb13 glOf 5 fn5 [.pv (.int .i64 n), .pv (.int .i64 f)] (execE Ctb13 fn5 (glOf 5) (runFE Ctb13 glOf 4999) 4999 rest ⟨put (glOf 5) 1 (.pv (.sym 0)) (s2 n f 5).e, (s2 n f 5).m⟩)) = true := by kernel_rfl
theorem fin6 (n f : Int) : resB (finishE Ctb13 glOf 5 fn5 [.pv (.int .i64 n), .pv (.int .i64 f)] (execE Ctb13 fn5 (glOf 5) (runFE Ctb13 glOf 4999) 4999 rest ⟨put (glOf 5) 1 (.pv (.sym 0)) (s2 n f 6).e, (s2 n f 6).m⟩)) = true := by kernel_rfl
theorem fin7 (n f : Int) : resB (finishE Ctb13 glOf 5 fn5 [.pv (.int .i64 n), .pv (.int .i64 f)] (execE Ctb13 fn5 (glOf 5) (runFE Ctb13 glOf 4999) 4999 rest ⟨put (glOf 5) 1 (.pv (.sym 0)) (s2 n f 7).e, (s2 n f 7).m⟩)) = true := by kernel_rfl
theorem fin8 (n f : Int) : resB (finishE Ctb13 glOf 5 fn5 [.pv (.int .i64 n), .pv (.int .i64 f)] (execE Ctb13 fn5 (glOf 5) (runFE Ctb13 glOf 4999) 4999 rest ⟨put (glOf 5) 1 (.pv (.sym 0)) (s2 n f 8).e, (s2 n f 8).m⟩)) = true := by kernel_rfl
theorem fin9 (n f : Int) : resB (finishE Ctb13 glOf 5 fn5 [.pv (.int .i64 n), .pv (.int .i64 f)] (execE Ctb13 fn5 (glOf 5) (runFE Ctb13 glOf 4999) 4999 rest ⟨put (glOf 5) 1 (.pv (.sym 0)) (s2 n f 9).e, (s2 n f 9).m⟩)) = true := by kernel_rfl
theorem fin10 (n f : Int) : resB (finishE Ctb13 glOf 5 fn5 [.pv (.int .i64 n), .pv (.int .i64 f)] (execE Ctb13 fn5 (glOf 5) (runFE Ctb13 glOf 4999) 4999 rest ⟨put (glOf 5) 1 (.pv (.sym 0)) (s2 n f 10).e, (s2 n f 10).m⟩)) = true := by kernel_rfl
theorem fin11 (n f : Int) : resB (finishE Ctb13 glOf 5 fn5 [.pv (.int .i64 n), .pv (.int .i64 f)] (execE Ctb13 fn5 (glOf 5) (runFE Ctb13 glOf 4999) 4999 rest ⟨put (glOf 5) 1 (.pv (.sym 0)) (s2 n f 11).e, (s2 n f 11).m⟩)) = true := by kernel_rfl
theorem fin12 (n f : Int) : resB (finishE Ctb13 glOf 5 fn5 [.pv (.int .i64 n), .pv (.int .i64 f)] (execE Ctb13 fn5 (glOf 5) (runFE Ctb13 glOf 4999) 4999 rest ⟨put (glOf 5) 1 (.pv (.sym 0)) (s2 n f 12).e, (s2 n f 12).m⟩)) = true := by kernel_rfl
theorem fin13 (n f : Int) : resB (finishE Ctb13 glOf 5 fn5 [.pv (.int .i64 n), .pv (.int .i64 f)] (execE Ctb13 fn5 (glOf 5) (runFE Ctb13 glOf 4999) 4999 rest ⟨put (glOf 5) 1 (.pv (.sym 0)) (s2 n f 13).e, (s2 n f 13).m⟩)) = true := by kernel_rfl
theorem fin14 (n f : Int) : resB (finishE Ctb13 glOf 5 fn5 [.pv (.int .i64 n), .pv (.int .i64 f)] (execE Ctb13 fn5 (glOf 5) (runFE Ctb13 glOf 4999) 4999 rest ⟨put (glOf 5) 1 (.pv (.sym 0)) (s2 n f 14).e, (s2 n f 14).m⟩)) = true := by kernel_rfl
theorem fin15 (n f : Int) : resB (finishE Ctb13 glOf 5 fn5 [.pv (.int .i64 n), .pv (.int .i64 f)] (execE Ctb13 fn5 (glOf 5) (runFE Ctb13 glOf 4999) 4999 rest ⟨put (glOf 5) 1 (.pv (.sym 0)) (s2 n f 15).e, (s2 n f 15).m⟩)) = true := by kernel_rfl
theorem fin16 (n f : Int) : resB (finishE Ctb13 glOf 5 fn5 [.pv (.int .i64 n), .pv (.int .i64 f)] (execE Ctb13 fn5 (glOf 5) (runFE Ctb13 glOf 4999) 4999 rest ⟨put (glOf 5) 1 (.pv (.sym 0)) (s2 n f 16).e, (s2 n f 16).m⟩)) = true := by kernel_rfl
theorem fin17 (n f : Int) : resB (finishE Ctb13 glOf 5 fn5 [.pv (.int .i64 n), .pv (.int .i64 f)] (execE Ctb13 fn5 (glOf 5) (runFE Ctb13 glOf 4999) 4999 rest ⟨put (glOf 5) 1 (.pv (.sym 0)) (s2 n f 17).e, (s2 n f 17).m⟩)) = true := by kernel_rfl
theorem fin18 (n f : Int) : resB (finishE Ctb13 glOf 5 fn5 [.pv (.int .i64 n), .pv (.int .i64 f)] (execE Ctb13 fn5 (glOf 5) (runFE Ctb13 glOf 4999) 4999 rest ⟨put (glOf 5) 1 (.pv (.sym 0)) (s2 n f 18).e, (s2 n f 18).m⟩)) = true := by kernel_rfl
theorem fin19 (n f : Int) : resB (finishE Ctb13 glOf 5 fn5 [.pv (.int .i64 n), .pv (.int .i64 f)] (execE Ctb13 fn5 (glOf 5) (runFE Ctb13 glOf 4999) 4999 rest ⟨put (glOf 5) 1 (.pv (.sym 0)) (s2 n f 19).e, (s2 n f 19).m⟩)) = true := by kernel_rfl
theorem u_pos (n : Int) : 0 ≤ u n := by
  have e : u n = n % (2 ^ IntKind.u64.bits : Int) := by
    unfold u IntKind.wrap
    simp only [show IntKind.u64.signed = false from rfl, Bool.false_and, Bool.false_eq_true, if_false]
  rw [e]
  exact Int.emod_nonneg _ (by decide)
theorem c_eq (d n : Int) (hd : 0 < d) (hd2 : d ≤ 1000) : 0 ≤ c d n ∧ c d n < d := by
  have hm : 0 ≤ m d n ∧ m d n < d := by
    unfold m
    rw [Int.tmod_eq_emod_of_nonneg (u_pos n)]
    exact ⟨Int.emod_nonneg _ (by omega), Int.emod_lt_of_pos _ hd⟩
  have : c d n = m d n := wrap_id' (by omega) (by omega)
  rw [this]
  exact hm
theorem calls (n f : Int) (w : World) : Calls Tryz.prog 5 #[.int .i64 n, .int .i64 f] w fun e w' => e = .returned (.bool true) ∧ After w w' := by
  have hf := c_eq 1000 f (by decide) (by decide)
  have hk := c_eq 20 n (by decide) (by decide)
  letI I : SymV := ⟨c 1000 f, (show (-999 : Int) ≤ c 1000 f ∧ c 1000 f ≤ 999 by omega)⟩
  have key : ∀ k, c 20 n = k → resB (finishE Ctb13 glOf 5 fn5 [.pv (.int .i64 n), .pv (.int .i64 f)] (execE Ctb13 fn5 (glOf 5) (runFE Ctb13 glOf 4999) 4999 rest ⟨put (glOf 5) 1 (.pv (.sym 0)) (s2 n f k).e, (s2 n f k).m⟩)) = true → Calls Tryz.prog 5 #[.int .i64 n, .int .i64 f] w fun e w' => e = .returned (.bool true) ∧ After w w' := by
    intro k hkk h3
    exact calls_true_abs Csound13 fnAt mixed (gls := glOf) (n := 4999) (f := 5) (fi := fn5) (k := 1) (ps := [.int .i64 n, .int .i64 f]) (p := .int .i64 (c 1000 f)) (p' := .sym 0) rfl body_eq (show 2 ≤ 102 by decide) (show 1 < 102 by decide) (e1 n f) (by rw [e2 n f, hkk]) (at1 n f k)
      (fun F v r => abs_sym (by show c 1000 f = c 1000 f + 0; omega) F v r) h3 (.cons (.int ..) (.cons (.int ..) .nil)) w

  have hc : c 20 n = 0 ∨ c 20 n = 1 ∨ c 20 n = 2 ∨ c 20 n = 3 ∨ c 20 n = 4 ∨ c 20 n = 5 ∨ c 20 n = 6 ∨ c 20 n = 7 ∨ c 20 n = 8 ∨ c 20 n = 9 ∨ c 20 n = 10 ∨ c 20 n = 11 ∨ c 20 n = 12 ∨ c 20 n = 13 ∨ c 20 n = 14 ∨ c 20 n = 15 ∨ c 20 n = 16 ∨ c 20 n = 17 ∨ c 20 n = 18 ∨ c 20 n = 19 := by omega
  rcases hc with h | h | h | h | h | h | h | h | h | h | h | h | h | h | h | h | h | h | h | h
  · exact key 0 h (fin0 n f)
  · exact key 1 h (fin1 n f)
  · exact key 2 h (fin2 n f)
  · exact key 3 h (fin3 n f)
  · exact key 4 h (fin4 n f)
  · exact key 5 h (fin5 n f)
  · exact key 6 h (fin6 n f)
  · exact key 7 h (fin7 n f)
  · exact key 8 h (fin8 n f)
  · exact key 9 h (fin9 n f)
  · exact key 10 h (fin10 n f)
  · exact key 11 h (fin11 n f)
  · exact key 12 h (fin12 n f)
  · exact key 13 h (fin13 n f)
  · exact key 14 h (fin14 n f)
  · exact key 15 h (fin15 n f)
  · exact key 16 h (fin16 n f)
  · exact key 17 h (fin17 n f)
  · exact key 18 h (fin18 n f)
  · exact key 19 h (fin19 n f)
#print axioms calls
end RunCounter
end Go.Proofs.YtiajhfodfhmfaaaGreatDoor
