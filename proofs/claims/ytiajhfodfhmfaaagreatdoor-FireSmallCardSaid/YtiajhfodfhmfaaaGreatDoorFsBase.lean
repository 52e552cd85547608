/- constablelaw23.FireSmall: the parts of a run: what is set up, a round of the loop, the end; each in the kernel. -/
import Derived.Test.YtiajhfodfhmfaaaGreatDoorSSound
set_option maxRecDepth 100000
set_option linter.unusedVariables false
namespace Go.Proofs.YtiajhfodfhmfaaaGreatDoor
open Go.Vm Go.Proofs
namespace FireSmall
noncomputable def b1 : Code := sndC fn4.body
noncomputable def b2 : Code := sndC b1
noncomputable def b3 : Code := sndC b2
noncomputable def b4 : Code := sndC b3
noncomputable def b5 : Code := sndC b4
noncomputable def b6 : Code := sndC b5
noncomputable def b7 : Code := sndC b6
noncomputable def c : Code := sndC b7
noncomputable def pre : List Code := [fstC fn4.body, fstC b1, fstC b2, fstC b3, fstC b4, fstC b5, fstC b6, fstC b7]
theorem body_eq : fn4.body = seqs pre c := by kernel_rfl
noncomputable def r10 : Code := fstC (fstC c)
noncomputable def bd : Code := match sndC (fstC c) with | .block _ (.loop b) => b | x => x
noncomputable def tail : Code := sndC c
theorem c_eq : c = .seq (.seq r10 (.block 0 (.loop bd))) tail := by kernel_rfl

def u (n : Int) : Int := IntKind.u64.wrap n
def m (n : Int) : Int := (u n).tmod 100
def x (n : Int) : Int := IntKind.i64.wrap (m n)
noncomputable def sB (es : List PV) (n : Int) : StE := (runPre Stb12 fn4 (glOf 4) (runFE Stb12 glOf 4999) 4999 pre (startE glOf 4 fn4 [.pv (.sl es), .pv (.int .i64 n)] [])).getD ⟨ofL [], []⟩
def tops : List AV := List.replicate 87 (.pv .top)
def Tz (es : List PV) : List AV := .pv (.sl es) :: .pv (.sym 0) :: .pv .top :: .pv .top :: .pv (.bool false) :: .p 0 1 0 0 :: .pv .top :: .pv .top :: .p 2 1 0 0 :: .pv (.bool false) :: .pv (.bool false) :: .pv .top :: tops
def T (es : List PV) (i : Int) (h s : Bool) : List AV := .pv (.sl es) :: .pv (.sym 0) :: .pv .top :: .pv .top :: .pv (.bool false) :: .p 0 1 0 0 :: .pv .top :: .pv .top :: .p 2 1 0 0 :: .pv (.bool h) :: .pv (.bool s) :: .pv (.int .i64 i) :: tops
def fact (nm : List UInt8) : PV := .agg [.str nm, .sl [.agg [.int .i64 1, .sym 0, .str []]]]
def held : PV := fact [104, 101, 108, 100]
def soon : PV := fact [115, 111, 111, 110]
def stZ : PV := .agg [.cl [], .cl [], .int .i64 0]
def stA : PV := .agg [.sl [], .sl [], .int .i64 0]
def stB : PV := .agg [.sl [], .sl [soon], .int .i64 0]
def stC : PV := .agg [.sl [held], .sl [soon], .int .i64 0]
noncomputable def parsed : PV := Sb45
noncomputable def prog : PV := match parsed with | .tup [.agg [d, r, _], _, _] => .agg [d, r, .cl []] | v => v
noncomputable def pos : PV := match parsed with | .tup [_, p, _] => p | v => v
noncomputable def M (st : PV) : Mem := [.arr [.pv prog] 0, .arr [.pv pos] 0, .arr [.pv st] 0]
noncomputable def blk (q : Option (Ex × St)) : Option (Ex × St) :=
  match q with
  | some (.exit id', s') => if id' = 0 then some (Ex.normal, s') else some (Ex.exit id', s')
  | r => r
noncomputable def cont (q : Option (Ex × St)) : Option (Ex × St) :=
  match blk q with
  | some (.normal, s') => execC Stb12 fn4 (runF Stb12 4999) 4999 tail s'
  | r => r
noncomputable def lp (k : Nat) (s : St) : Option (Ex × St) := loopN (execC Stb12 fn4 (runF Stb12 4999) 4999 bd) fn4.trim fn4.live 3 k s
theorem T_length (es : List PV) (i : Int) (h s : Bool) : (T es i h s).length = 99 := by kernel_rfl
theorem e10 (es : List PV) : execC Stb12 fn4 (runF Stb12 4999) 4999 r10 ⟨Tz es, M stZ⟩ = some (.normal, ⟨T es 0 false false, M stZ⟩) := by kernel_rfl
theorem whole (es : List PV) : execC Stb12 fn4 (runF Stb12 4999) 4999 c ⟨Tz es, M stZ⟩ = cont (lp 4999 ⟨T es 0 false false, M stZ⟩) := by
  rw [c_eq]
  simp only [execC, e10]
  rfl

end FireSmall
end Go.Proofs.YtiajhfodfhmfaaaGreatDoor
