/- constablelaw23.FireSmall answers true at every list of bools and every number. -/
import Derived.Test.YtiajhfodfhmfaaaGreatDoorFs0
import Derived.Test.YtiajhfodfhmfaaaGreatDoorFs1
import Derived.Test.YtiajhfodfhmfaaaGreatDoorFs2
import Derived.Test.YtiajhfodfhmfaaaGreatDoorFs3
import Derived.Test.YtiajhfodfhmfaaaGreatDoorFs4
import Derived.Test.YtiajhfodfhmfaaaGreatDoorFs5
set_option maxRecDepth 100000
set_option linter.unusedVariables false
namespace Go.Proofs.YtiajhfodfhmfaaaGreatDoor
open Go.Vm Go.Proofs
namespace FireSmall
theorem x_le (n : Int) : 0 ≤ x n ∧ x n < 100 := by
  have hu : 0 ≤ u n := by
    have e : u n = n % (2 ^ IntKind.u64.bits : Int) := by
      unfold u IntKind.wrap
      simp only [show IntKind.u64.signed = false from rfl, Bool.false_and, Bool.false_eq_true, if_false]
    rw [e]
    exact Int.emod_nonneg _ (by decide)
  have hm : 0 ≤ m n ∧ m n < 100 := by
    unfold m
    rw [Int.tmod_eq_emod_of_nonneg hu]
    omega
  have : x n = m n := wrap_id' (by omega) (by omega)
  rw [this]
  exact hm

theorem of_parts [SymV] (es : List PV) (n : Int) (hn : x n = SymV.ν + 0) (h : runPre Stb12 fn4 (glOf 4) (runFE Stb12 glOf 4999) 4999 pre (startE glOf 4 fn4 [.pv (.sl es), .pv (.int .i64 n)] []) = some (sB es n))
    (t : (cutAll 3891 3 0 (toL (glOf 4) 99 (sB es n).e)).set 1 (.pv (.sym 0)) = Tz es) (k : (toL (glOf 4) 99 (sB es n).e)[1]? = some (.pv (.int .i64 (x n)))) (hM : (sB es n).m = M stZ)
    (g : endT Stb12 fn4 (cont (lp 4999 ⟨T es 0 false false, M stZ⟩)) = true) {xs : Array Value} {G : Fr} (hx : RPL G [.sl es, .int .i64 n] xs.toList) (w : World) (hG : ∀ b o v, G b o = some v → w.cell? ⟨b, o, none⟩ = some v) :
    Calls Tryz.prog 4 xs w fun e w' => e = .returned (.bool true) ∧ After w w' :=
  calls_true_weak Ssound12 fnAt mixed (gls := glOf) (n := 4999) (f := 4) (fi := fn4) (pre := pre) (c := c) (sB := sB es n) (ps := [.sl es, .int .i64 n]) (lv := 3891) (m := 3) (k := 1) (p := .int .i64 (x n)) (p' := .sym 0) (T2 := Tz es)
    rfl body_eq (show 2 ≤ 99 by decide) h t k (fun F v r => abs_sym hn F v r) (by rw [hM, whole]; exact g) hx w hG

/- A list that is too long is not played. -/
noncomputable def q0 : Code := fstC fn4.body
noncomputable def q1 : Code := fstC (fstC b1)
noncomputable def s1 (es : List PV) (n : Int) : StE := ⟨close (glOf 4) (put (glOf 4) 4 (.pv (.bool false)) (startE glOf 4 fn4 [.pv (.sl es), .pv (.int .i64 n)] []).e), []⟩
noncomputable def s2 (es : List PV) (n : Int) (d : Bool) : StE := ⟨close (glOf 4) (put (glOf 4) 18 (.pv (.bool d)) (put (glOf 4) 17 (.pv (.int .i64 es.length)) (put (glOf 4) 16 (.pv (.sl es)) (s1 es n).e))), []⟩
theorem long1 (es : List PV) (n : Int) : execE Stb12 fn4 (glOf 4) (runFE Stb12 glOf 4999) 4999 q0 (startE glOf 4 fn4 [.pv (.sl es), .pv (.int .i64 n)] []) = some (.normal, s1 es n) := by kernel_rfl
theorem long2 (es : List PV) (n : Int) : execE Stb12 fn4 (glOf 4) (runFE Stb12 glOf 4999) 4999 q1 (s1 es n) = some (.normal, s2 es n (decide ((es.length : Int) > 12))) := by kernel_rfl
noncomputable def q2 : Code := sndC (fstC b1)
theorem long_eq : fn4.body = .seq q0 (.seq (.seq q1 q2) b2) := by kernel_rfl
theorem long3 (es : List PV) (n : Int) : execE Stb12 fn4 (glOf 4) (runFE Stb12 glOf 4999) 4999 q2 (s2 es n true) = some (.ret, ⟨close (glOf 4) (put (glOf 4) 4 (.pv (.bool true)) (s2 es n true).e), []⟩) := by kernel_rfl
theorem long4 (es : List PV) (n : Int) : resB (finishE Stb12 glOf 4 fn4 [.pv (.sl es), .pv (.int .i64 n)] (some (.ret, ⟨close (glOf 4) (put (glOf 4) 4 (.pv (.bool true)) (s2 es n true).e), []⟩))) = true := by kernel_rfl
theorem long [SymV] (es : List PV) (n : Int) (h : 12 < es.length) : resB (runFE Stb12 glOf 5000 4 [.pv (.sl es), .pv (.int .i64 n)] []) = true := by
  have hd : decide ((es.length : Int) > 12) = true := decide_eq_true (by omega)
  rw [runFE_eq (n := 4999) (show Stb12.fn 4 = some fn4 from rfl), long_eq]
  simp only [execE, long1, long2, hd, long3]
  exact long4 es n

theorem calls (l : List Bool) (n : Int) (a : Option Addr) (cap : Nat) (w : World) (b o : Nat) (hc : l.length ≤ cap) (ha : 0 < l.length → a = some ⟨b, o, none⟩) (hcell : ∀ i (hi : i < l.length), w.cell? ⟨b, o + i, none⟩ = some (.bool l[i])) :
    Calls Tryz.prog 4 #[.slice a l.length cap, .int .i64 n] w fun e w' => e = .returned (.bool true) ∧ After w w' := by
  have hn := x_le n
  letI I : SymV := ⟨x n, (show (-999 : Int) ≤ x n ∧ x n ≤ 999 by omega)⟩
  have hνn : x n = SymV.ν + 0 := (Int.add_zero _).symm
  let G : Fr := fun b' o' => if b' = b then w.cell? ⟨b', o', none⟩ else none
  have hG : ∀ b' o' v, G b' o' = some v → w.cell? ⟨b', o', none⟩ = some v := fun b' o' v h => by
    simp only [G] at h
    split at h
    · exact h
    · cases h
  have hlen : (l.map PV.bool).length = l.length := List.length_map ..
  have hsl : RP G (.sl (l.map .bool)) (.slice a l.length cap) := by
    have := RP.sl (F := G) (es := l.map .bool) (a := a) (cap := cap) b o 1 (fun i _ => .bool (l.getD i false)) (by rw [hlen]; exact hc) (fun h => ha (by rw [hlen] at h; exact h)) (fun i hi => by simp [pcells])
      (fun i j hi hj => by
        have hi' : i < l.length := by rw [hlen] at hi; exact hi
        have hj0 : j = 0 := by omega
        subst hj0
        refine ⟨?_, rfl⟩
        simp only [G, if_true, Nat.mul_one, Nat.add_zero, List.getD, List.getElem?_eq_getElem hi', Option.getD_some]
        exact hcell i hi') (fun i hi j hj => by
        have hi' : i < l.length := by rw [hlen] at hi; exact hi
        simp only [List.getElem_map, pcells] at hj ⊢
        have hj0 : j = 0 := by simpa using hj
        subst hj0
        simp only [List.getElem_cons_zero, List.getD, List.getElem?_eq_getElem hi', Option.getD_some]
        exact .bool _)
    rw [hlen] at this
    exact this
  have hx : RPL G [.sl (l.map .bool), .int .i64 n] (#[.slice a l.length cap, .int .i64 n] : Array Value).toList := .cons hsl (.cons (.int ..) .nil)
  clear hsl hcell ha hc
  revert hx
  generalize (#[.slice a l.length cap, .int .i64 n] : Array Value) = xs
  intro hx
  match l, hx with
  | [], hx => exact of_parts [] n hνn (h0  n) (t0  n) (k0  n) (m0  n) (g0_0Z  4998) hx w hG
  | [b0], hx => exact of_parts [.bool b0] n hνn (h1 b0 n) (t1 b0 n) (k1 b0 n) (m1 b0 n) (g1_0Z b0 4997) hx w hG
  | [b0, b1], hx => exact of_parts [.bool b0, .bool b1] n hνn (h2 b0 b1 n) (t2 b0 b1 n) (k2 b0 b1 n) (m2 b0 b1 n) (g2_0Z b0 b1 4996) hx w hG
  | [b0, b1, b2], hx => exact of_parts [.bool b0, .bool b1, .bool b2] n hνn (h3 b0 b1 b2 n) (t3 b0 b1 b2 n) (k3 b0 b1 b2 n) (m3 b0 b1 b2 n) (g3_0Z b0 b1 b2 4995) hx w hG
  | [b0, b1, b2, b3], hx => exact of_parts [.bool b0, .bool b1, .bool b2, .bool b3] n hνn (h4 b0 b1 b2 b3 n) (t4 b0 b1 b2 b3 n) (k4 b0 b1 b2 b3 n) (m4 b0 b1 b2 b3 n) (g4_0Z b0 b1 b2 b3 4994) hx w hG
  | [b0, b1, b2, b3, b4], hx => exact of_parts [.bool b0, .bool b1, .bool b2, .bool b3, .bool b4] n hνn (h5 b0 b1 b2 b3 b4 n) (t5 b0 b1 b2 b3 b4 n) (k5 b0 b1 b2 b3 b4 n) (m5 b0 b1 b2 b3 b4 n) (g5_0Z b0 b1 b2 b3 b4 4993) hx w hG
  | [b0, b1, b2, b3, b4, b5], hx => exact of_parts [.bool b0, .bool b1, .bool b2, .bool b3, .bool b4, .bool b5] n hνn (h6 b0 b1 b2 b3 b4 b5 n) (t6 b0 b1 b2 b3 b4 b5 n) (k6 b0 b1 b2 b3 b4 b5 n) (m6 b0 b1 b2 b3 b4 b5 n) (g6_0Z b0 b1 b2 b3 b4 b5 4992) hx w hG
  | [b0, b1, b2, b3, b4, b5, b6], hx => exact of_parts [.bool b0, .bool b1, .bool b2, .bool b3, .bool b4, .bool b5, .bool b6] n hνn (h7 b0 b1 b2 b3 b4 b5 b6 n) (t7 b0 b1 b2 b3 b4 b5 b6 n) (k7 b0 b1 b2 b3 b4 b5 b6 n) (m7 b0 b1 b2 b3 b4 b5 b6 n) (g7_0Z b0 b1 b2 b3 b4 b5 b6 4991) hx w hG
  | [b0, b1, b2, b3, b4, b5, b6, b7], hx => exact of_parts [.bool b0, .bool b1, .bool b2, .bool b3, .bool b4, .bool b5, .bool b6, .bool b7] n hνn (h8 b0 b1 b2 b3 b4 b5 b6 b7 n) (t8 b0 b1 b2 b3 b4 b5 b6 b7 n) (k8 b0 b1 b2 b3 b4 b5 b6 b7 n) (m8 b0 b1 b2 b3 b4 b5 b6 b7 n) (g8_0Z b0 b1 b2 b3 b4 b5 b6 b7 4990) hx w hG
  | [b0, b1, b2, b3, b4, b5, b6, b7, b8], hx => exact of_parts [.bool b0, .bool b1, .bool b2, .bool b3, .bool b4, .bool b5, .bool b6, .bool b7, .bool b8] n hνn (h9 b0 b1 b2 b3 b4 b5 b6 b7 b8 n) (t9 b0 b1 b2 b3 b4 b5 b6 b7 b8 n) (k9 b0 b1 b2 b3 b4 b5 b6 b7 b8 n) (m9 b0 b1 b2 b3 b4 b5 b6 b7 b8 n) (g9_0Z b0 b1 b2 b3 b4 b5 b6 b7 b8 4989) hx w hG
  | [b0, b1, b2, b3, b4, b5, b6, b7, b8, b9], hx => exact of_parts [.bool b0, .bool b1, .bool b2, .bool b3, .bool b4, .bool b5, .bool b6, .bool b7, .bool b8, .bool b9] n hνn (h10 b0 b1 b2 b3 b4 b5 b6 b7 b8 b9 n) (t10 b0 b1 b2 b3 b4 b5 b6 b7 b8 b9 n) (k10 b0 b1 b2 b3 b4 b5 b6 b7 b8 b9 n) (m10 b0 b1 b2 b3 b4 b5 b6 b7 b8 b9 n) (g10_0Z b0 b1 b2 b3 b4 b5 b6 b7 b8 b9 4988) hx w hG
  | [b0, b1, b2, b3, b4, b5, b6, b7, b8, b9, b10], hx => exact of_parts [.bool b0, .bool b1, .bool b2, .bool b3, .bool b4, .bool b5, .bool b6, .bool b7, .bool b8, .bool b9, .bool b10] n hνn (h11 b0 b1 b2 b3 b4 b5 b6 b7 b8 b9 b10 n) (t11 b0 b1 b2 b3 b4 b5 b6 b7 b8 b9 b10 n) (k11 b0 b1 b2 b3 b4 b5 b6 b7 b8 b9 b10 n) (m11 b0 b1 b2 b3 b4 b5 b6 b7 b8 b9 b10 n) (g11_0Z b0 b1 b2 b3 b4 b5 b6 b7 b8 b9 b10 4987) hx w hG
  | [b0, b1, b2, b3, b4, b5, b6, b7, b8, b9, b10, b11], hx => exact of_parts [.bool b0, .bool b1, .bool b2, .bool b3, .bool b4, .bool b5, .bool b6, .bool b7, .bool b8, .bool b9, .bool b10, .bool b11] n hνn (h12 b0 b1 b2 b3 b4 b5 b6 b7 b8 b9 b10 b11 n) (t12 b0 b1 b2 b3 b4 b5 b6 b7 b8 b9 b10 b11 n) (k12 b0 b1 b2 b3 b4 b5 b6 b7 b8 b9 b10 b11 n) (m12 b0 b1 b2 b3 b4 b5 b6 b7 b8 b9 b10 b11 n) (g12_0Z b0 b1 b2 b3 b4 b5 b6 b7 b8 b9 b10 b11 4986) hx w hG
  | b0 :: b1 :: b2 :: b3 :: b4 :: b5 :: b6 :: b7 :: b8 :: b9 :: b10 :: b11 :: b12 :: r, hx => exact calls_true Srun12 (ps := [.sl ((b0 :: b1 :: b2 :: b3 :: b4 :: b5 :: b6 :: b7 :: b8 :: b9 :: b10 :: b11 :: b12 :: r).map .bool), .int .i64 n]) (long _ n (by simp only [List.length_map, List.length_cons]; omega)) hx w hG
#print axioms calls
end FireSmall
end Go.Proofs.YtiajhfodfhmfaaaGreatDoor
