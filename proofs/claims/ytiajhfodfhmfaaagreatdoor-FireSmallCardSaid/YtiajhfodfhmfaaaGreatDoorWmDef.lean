/- An abstract machine for the loaded code: values without addresses, lists for slices that no longer change, a small memory for what does. -/
import Derived.Orders
namespace Go.Vm

/-- Between which bounds the one number lies that is known by a name alone. -/
class SymB where
  lo : Int
  hi : Int

/-- A value that leads to nothing that may change. ('sym c': the one unknown number, and c.) -/
inductive PV where
  | int (k : IntKind) (n : Int)
  | sym (c : Int)
  | bool (b : Bool)
  | str (s : List UInt8)
  | agg (cs : List PV)
  | tup (vs : List PV)
  | sl (es : List PV)
  | cl (es : List PV)
  | nilp | nili | nilf | err | top
  deriving Inhabited

/-- A value of a running frame. -/
inductive AV where
  | pv (v : PV)
  | agg (cs : List AV)
  | tup (vs : List AV)
  | gs (g n off len : Nat)
  | p (g n i off : Nat)
  | ep (e : PV) (off : Nat)
  | fn (f : FuncId) (cap : List AV)
  | ifc (t : TypeId) (v : AV)
  | mp (g : Nat)
  deriving Inhabited

inductive MObj where
  | arr (es : List AV) (fz : Nat)
  | map (es : List (PV × PV))
  | dead
  deriving Inhabited

structure FI where
  off : Nat
  size : Nat
  agg : Bool

inductive TK where
  | int (k : IntKind) | bool | str
  | slice (elem : TypeId) | arr (n : Nat) (elem : TypeId) | struct (fs : List FI) | map (key elem : TypeId)
  | ptr | iface | other

structure TI where
  k : TK
  size : Nat
  bytes : Nat
  zero : List PV
  eq : Bool
  meths : List (String × FuncId)

def TK.agg : TK → Bool
  | .arr .. | .struct _ => true
  | _ => false

/-- A region whose operations have no whole order: the new variables that are made ahead of all; the pairs to look at (places among the others); a variable (its place) and an operation that is to leave it alone. -/
structure Chk where
  fs : List Nat
  pairs : List (Nat × Nat)
  keep : List (Nat × Nat)

structure FnI where
  body : Code
  ntmps : Nat
  results : List ResultVar
  own : List Tmp
  ownB : List (Tmp × List Nat)
  pure : Bool
  keep : Bool
  raw : Bool
  trim : Bool
  clone : Bool
  imp : List FuncId
  chk : List (Nat × Chk)
  live : Nat

/-- What of a frame lasts from round to round of a loop (0: all). -/
def bit (gl i : Nat) : Bool := Nat.beq (Nat.land (Nat.shiftRight gl i) 1) 1
def lasts (lv i : Nat) : Bool := Nat.beq lv 0 || bit lv i

structure Tabs where
  ty : TypeId → Option TI
  fn : FuncId → Option FnI
  prim : FuncId → Option (List PV → Option PV)

abbrev Mem := List MObj

/-! ### Values -/
def pcells : PV → List PV
  | .agg cs => cs
  | v => [v]
def cells : AV → List AV
  | .pv (.agg cs) => cs.map .pv
  | .agg cs => cs
  | v => [v]
def isAgg : AV → Bool
  | .pv (.agg _) | .agg _ => true
  | _ => false
def unpv : AV → Option PV
  | .pv v => some v
  | _ => none
def unpvs : List AV → Option (List PV)
  | [] => some []
  | .pv v :: r => match unpvs r with | some l => some (v :: l) | none => none
  | _ => none
def mkAgg (cs : List AV) : AV := match unpvs cs with | some ps => .pv (.agg ps) | none => .agg cs
def mkTup (vs : List AV) : AV := match unpvs vs with | some ps => .pv (.tup ps) | none => .tup vs
/-- What a value is once it lies in another one: that its capacity is its length is forgotten, but for the empty list. -/
def nrmP : PV → PV
  | .cl (e :: es) => .sl (e :: es)
  | v => v
def nrm : AV → AV
  | .pv v => .pv (nrmP v)
  | v => v
def elemOfCells (agg : Bool) (cs : List PV) : PV := if agg then .agg cs else match cs with | [c] => c | _ => .top
/-- (In 'zero' lists are nil: their capacity is their length.) -/
def zeroOf (t : TI) : PV := elemOfCells t.k.agg (t.zero.map nrmP)

/-- The part of cells that a variable of a type is. -/
def partAt (agg : Bool) (size : Nat) (cs : List AV) (off : Nat) : Option AV :=
  if agg then
    let xs := (cs.drop off).take size
    if xs.length = size then some (mkAgg xs) else none
  else cs[off]?
def partAtP (agg : Bool) (size : Nat) (cs : List PV) (off : Nat) : Option PV :=
  if agg then
    let xs := (cs.drop off).take size
    if xs.length = size then some (.agg xs) else none
  else cs[off]?
def overwrite (cs : List AV) (off : Nat) (vs : List AV) : List AV := cs.take off ++ vs ++ cs.drop (off + vs.length)
def isTop : AV → Bool
  | .pv .top => true
  | _ => false
def isTup : AV → Bool
  | .pv (.tup _) | .tup _ => true
  | _ => false
def odd (a : AV) : Bool := isTop a || isTup a
def headOk (size : Nat) : List AV → Bool
  | [] => true
  | e :: _ => (cells e).length == size
def headOkP (size : Nat) : List PV → Bool
  | [] => true
  | e :: _ => (pcells e).length == size
def storeIn (size : Nat) (e : AV) (off : Nat) (v : AV) : Option AV :=
  let cs := cells e
  let vs := cells v
  if vs.length = size ∧ off + size ≤ cs.length ∧ odd v = false then
    if isAgg e then some (mkAgg (overwrite cs off vs))
    else match overwrite cs off vs with | [c] => some c | _ => none
  else none

/-! ### Memory -/
def getArr (M : Mem) (g n : Nat) : Option (List AV × Nat) :=
  match M[g]? with
  | some (.arr es fz) => if es.length = n then some (es, fz) else none
  | _ => none
def getMap (M : Mem) (g : Nat) : Option (List (PV × PV)) :=
  match M[g]? with
  | some (.map es) => some es
  | _ => none

def loadAt (M : Mem) (t : TI) : AV → Option AV
  | .p g n i off => match getArr M g n with
    | some (es, _) => match es[i]? with
      | some e => partAt t.k.agg t.size (cells e) off
      | none => none
    | none => none
  | .ep e off => match partAtP t.k.agg t.size (pcells e) off with
    | some v => some (.pv v)
    | none => none
  | _ => none

def storeAt (M : Mem) (t : TI) (a v : AV) : Option Mem :=
  match a with
  | .p g n i off => match getArr M g n with
    | some (es, fz) => match es[i]? with
      | some e => if fz ≤ i then match storeIn t.size e off v with
          | some e' => some (M.set g (.arr (es.set i e') fz))
          | none => none
        else none
      | none => none
    | none => none
  | _ => none

/-- The elements of a slice, as far as they are of a kind that stays. -/
def elems (M : Mem) : AV → Option (List AV)
  | .pv (.sl es) | .pv (.cl es) => some (es.map .pv)
  | .gs g n off len => match getArr M g n with
    | some (es, _) => if off + len ≤ n then some ((es.drop off).take len) else none
    | none => none
  | _ => none

def freezeL (f : Mem → AV → Option (PV × Mem)) : Mem → List AV → Option (List PV × Mem)
  | M, [] => some ([], M)
  | M, a :: r => match f M a with
    | some (x, M1) => match freezeL f M1 r with
      | some (xs, M2) => some (x :: xs, M2)
      | none => none
    | none => none

/-- A value as one that stays: what it leads to is read off the memory, and may be written over no more. -/
def freeze : Nat → Mem → AV → Option (PV × Mem)
  | _, M, .pv v => some (nrmP v, M)
  | 0, _, _ => none
  | d + 1, M, .gs g n off len => match getArr M g n with
    | some (es, _) =>
      if off + len ≤ n then
        match freezeL (freeze d) M ((es.drop off).take len) with
        | some (ps, M') => match getArr M' g n with
          | some (es', fz) => some (.sl ps, if off + len ≤ fz then M' else M'.set g (.arr es' (off + len)))
          | none => none
        | none => none
      else none
    | none => none
  | d + 1, M, .agg cs => match freezeL (freeze d) M cs with
    | some (ps, M') => some (.agg ps, M')
    | none => none
  | d + 1, M, .tup cs => match freezeL (freeze d) M cs with
    | some (ps, M') => some (.tup ps, M')
    | none => none
  | _ + 1, _, _ => none
def freezes (M : Mem) (l : List AV) : Option (List PV × Mem) := freezeL (freeze 5) M l

/-! ### Operands -/
def absV : Value → AV
  | .bool b => .pv (.bool b)
  | .int k n => .pv (.int k n)
  | .string s => .pv (.str s.data.toList)
  | .pointer none => .pv .nilp
  | .slice none 0 0 => .pv (.cl [])
  | .nilFunc => .pv .nilf
  | .nilIface => .pv .nili
  | .func (.func f) ⟨[]⟩ ⟨[]⟩ => .fn f []
  | _ => .pv .top
def evalO (T : List AV) : Operand → AV
  | .tmp t => T.getD t (.pv .top)
  | .const v => absV v
  | .global _ => .pv .top
  | .func f => .fn f []
def putT (T : List AV) (dst : Option Tmp) (v : AV) : List AV :=
  match dst with
  | some d => T.set d v
  | none => T

/-! ### Operations on plain values -/
def strLess : List UInt8 → List UInt8 → Bool
  | _, [] => false
  | [], _ :: _ => true
  | a :: x, b :: y => a < b || (a == b && strLess x y)
def intBin (op : BinOp) (k : IntKind) (a b : Int) : Option PV :=
  match op with
  | .add => some (.int k (k.wrap (a + b)))
  | .sub => some (.int k (k.wrap (a - b)))
  | .mul => some (.int k (k.wrap (a * b)))
  | .quo => if b = 0 then none else some (.int k (k.wrap (a.tdiv b)))
  | .rem => if b = 0 then none else some (.int k (a.tmod b))
  | .eql => some (.bool (a == b))
  | .neq => some (.bool (a != b))
  | .lss => some (.bool (a < b))
  | .leq => some (.bool (a ≤ b))
  | .gtr => some (.bool (a > b))
  | .geq => some (.bool (a ≥ b))
  | _ => none
def strBin (op : BinOp) (a b : List UInt8) : Option PV :=
  match op with
  | .add => if a.length + b.length ≤ 1073741824 then some (.str (a ++ b)) else none
  | .eql => some (.bool (a == b))
  | .neq => some (.bool !(a == b))
  | .lss => some (.bool (strLess a b))
  | .leq => some (.bool (strLess a b || a == b))
  | .gtr => some (.bool !(strLess a b || a == b))
  | .geq => some (.bool !(strLess a b))
  | _ => none
/-- The unknown number and a, beside the unknown number and b. -/
def symSS (op : BinOp) (a b : Int) : Option PV :=
  match op with
  | .eql => some (.bool (a == b))
  | .neq => some (.bool (a != b))
  | .lss => some (.bool (a < b))
  | .leq => some (.bool (a ≤ b))
  | .gtr => some (.bool (a > b))
  | .geq => some (.bool (a ≥ b))
  | _ => none
def symIn [SymB] (c : Int) : Option PV := if -9223372036854775808 ≤ SymB.lo + c ∧ SymB.hi + c ≤ 9223372036854775807 then some (.sym c) else none
/-- The unknown number and a, beside b. -/
def symSI [SymB] (op : BinOp) (a b : Int) : Option PV :=
  match op with
  | .add => symIn (a + b)
  | .sub => symIn (a - b)
  | .eql => if b < SymB.lo + a ∨ SymB.hi + a < b then some (.bool false) else none
  | .neq => if b < SymB.lo + a ∨ SymB.hi + a < b then some (.bool true) else none
  | .lss => if SymB.hi + a < b then some (.bool true) else if b ≤ SymB.lo + a then some (.bool false) else none
  | .leq => if SymB.hi + a ≤ b then some (.bool true) else if b < SymB.lo + a then some (.bool false) else none
  | .gtr => if SymB.hi + a ≤ b then some (.bool false) else if b < SymB.lo + a then some (.bool true) else none
  | .geq => if SymB.hi + a < b then some (.bool false) else if b ≤ SymB.lo + a then some (.bool true) else none
  | _ => none
/-- b, beside the unknown number and a. -/
def symIS [SymB] (op : BinOp) (b a : Int) : Option PV :=
  match op with
  | .add => symIn (a + b)
  | .eql => if b < SymB.lo + a ∨ SymB.hi + a < b then some (.bool false) else none
  | .neq => if b < SymB.lo + a ∨ SymB.hi + a < b then some (.bool true) else none
  | .gtr => if SymB.hi + a < b then some (.bool true) else if b ≤ SymB.lo + a then some (.bool false) else none
  | .geq => if SymB.hi + a ≤ b then some (.bool true) else if b < SymB.lo + a then some (.bool false) else none
  | .lss => if SymB.hi + a ≤ b then some (.bool false) else if b < SymB.lo + a then some (.bool true) else none
  | .leq => if SymB.hi + a < b then some (.bool false) else if b ≤ SymB.lo + a then some (.bool true) else none
  | _ => none
/-- Whole numbers, bools, strings, cell by cell; none: something else is among them. -/
def eqCells : List PV → List PV → Option Bool
  | [], [] => some true
  | .sym a :: r, .sym b :: s => if a == b then eqCells r s else some false
  | .int _ a :: r, .int _ b :: s => if a == b then eqCells r s else some false
  | .bool a :: r, .bool b :: s => if a == b then eqCells r s else some false
  | .str a :: r, .str b :: s => if a == b then eqCells r s else some false
  | _, _ => none
/-- Cells of the kinds that these are of. -/
def alike : List PV → List PV → Bool
  | [], [] => true
  | .int k _ :: r, .int k' _ :: s => k == k' && alike r s
  | .int .i64 _ :: r, .sym _ :: s => alike r s
  | .bool _ :: r, .bool _ :: s => alike r s
  | .str _ :: r, .str _ :: s => alike r s
  | _, _ => false
def isConst : Operand → Bool
  | .const _ => true
  | _ => false
def isPtr : AV → Bool
  | .p .. | .ep .. => true
  | _ => false
def isIfc : AV → Bool
  | .ifc .. | .pv .err => true
  | _ => false
/-- c: one of the operands is a constant. -/
def eqV (c : Bool) (t : TI) (x y : AV) : Option Bool :=
  match t.k with
  | .bool => match x, y with
    | .pv (.bool a), .pv (.bool b) => some (a == b)
    | _, _ => none
  | .struct _ => match x, y with
    | .pv (.agg a), .pv (.agg b) => if t.eq ∧ alike t.zero a = true ∧ alike t.zero b = true then eqCells a b else none
    | _, _ => none
  | .ptr => match x, y with
    | x, .pv .nilp => if isPtr x then some false else match x with | .pv .nilp => some true | _ => none
    | .pv .nilp, y => if isPtr y then some false else none
    | _, _ => none
  | .iface => match x, y with
    | x, .pv .nili => if isIfc x then some false else match x with | .pv .nili => if c then some true else none | _ => none
    | .pv .nili, y => if isIfc y then some false else none
    | _, _ => none
  | _ => none
def binV [SymB] (ty : TypeId → Option TI) (c : Bool) (op : BinOp) (t : TypeId) (x y : AV) : Option AV :=
  match x, y with
  | .pv (.int k a), .pv (.int k' b) => if k = k' then (intBin op k a b).map .pv else none
  | .pv (.str a), .pv (.str b) => (strBin op a b).map .pv
  | .pv (.sym a), .pv (.sym b) => (symSS op a b).map .pv
  | .pv (.sym a), .pv (.int .i64 b) => (symSI op a b).map .pv
  | .pv (.int .i64 b), .pv (.sym a) => (symIS op b a).map .pv
  | x, y => match op, ty t with
    | .eql, some ti => (eqV c ti x y).map fun b => .pv (.bool b)
    | .neq, some ti => (eqV c ti x y).map fun b => .pv (.bool !b)
    | _, _ => none
def unV (op : UnOp) (x : AV) : Option AV :=
  match op, x with
  | .neg, .pv (.int k n) => some (.pv (.int k (k.wrap (0 - n))))
  | .not, .pv (.bool b) => some (.pv (.bool !b))
  | _, _ => none
def convV [SymB] (ty : TypeId → Option TI) (dst : TypeId) (x : AV) : Option AV :=
  match ty dst, x with
  | some ⟨.int k, _, _, _, _, _⟩, .pv (.int _ n) => some (.pv (.int k (k.wrap n)))
  | some ⟨.str, _, _, _, _, _⟩, .pv (.str s) => some (.pv (.str s))
  | some ⟨.int .i64, _, _, _, _, _⟩, .pv (.sym c) => (symIn c).map .pv
  | _, _ => none
def bytesOf : List AV → Option (List UInt8)
  | [] => some []
  | .pv (.int .u8 n) :: r => match bytesOf r with | some l => some (UInt8.ofNat n.toNat :: l) | none => none
  | _ => none
def natOf : AV → Option Nat
  | .pv (.int _ n) => if 0 ≤ n then some n.toNat else none
  | _ => none
def extr {α : Type} (l : List α) (lo hi : Nat) : List α := (l.drop lo).take (hi - lo)

def lenV (M : Mem) : AV → Option Nat
  | .pv (.str s) => some s.length
  | .pv (.sl es) | .pv (.cl es) => some es.length
  | .gs _ _ _ len => some len
  | .mp g => match getMap M g with | some es => some es.length | none => none
  | _ => none

def boundOf (d : Nat) : Option AV → Option Nat
  | none => some d
  | some v => natOf v

def sliceV (M : Mem) (size : Nat) (x : AV) (lo hi mx : Option AV) : Option (AV × Mem) :=
  match lenV M x with
  | none => none
  | some n => match boundOf 0 lo, boundOf n hi with
    | some l, some h => if l ≤ h ∧ h ≤ n then
        match mx with
        | none => match x with
          | .pv (.str s) => some (.pv (.str (extr s l h)), M)
          | .pv (.sl es) => if headOkP size es then some (.pv (.sl (extr es l h)), M) else none
          | .pv (.cl es) => if headOkP size es then some (.pv (if h = n then .cl (extr es l h) else .sl (extr es l h)), M) else none
          | .gs g m off _ => match getArr M g m with
            | some (es, _) => if headOk size es && decide (off + h ≤ m) then some (.gs g m (off + l) (h - l), M) else none
            | none => none
          | _ => none
        | some mv => if natOf mv = some h ∧ hi.isSome = true then match x with
            | .pv (.sl es) | .pv (.cl es) => if headOkP size es then some (.pv (.cl (extr es l h)), M) else none
            | .gs g m off _ => match getArr M g m with
              | some (es, _) => if headOk size es then match freeze 4 M (.gs g m (off + l) (h - l)) with
                  | some (.sl es, M') => some (.pv (.cl es), M')
                  | _ => none
                else none
              | none => none
            | _ => none
          else none
      else none
    | _, _ => none

def indexAt (M : Mem) (size : Nat) (x : AV) (i : Nat) : Option AV :=
  match x with
  | .pv (.sl es) | .pv (.cl es) => match es[i]? with | some e => if (pcells e).length = size then some (.ep e 0) else none | none => none
  | .gs g n off len => match getArr M g n with
    | some (es, _) => if i < len ∧ off + len ≤ n ∧ headOk size es then
        some (.p g n (off + i) 0)
      else none
    | none => none
  | _ => none

def fill (offs : Nat → Option (Nat × Nat)) : List AV → List (Nat × AV) → Option (List AV)
  | cs, [] => some cs
  | cs, (i, v) :: r => match offs i with
    | some (off, size) =>
      if (cells v).length = size ∧ off + size ≤ cs.length ∧ odd v = false then fill offs (overwrite cs off (cells v)) r else none
    | none => none

/-- The fields of new structs that are to be lists of their own: each, if its capacity is its length, an array of the memory. -/
def ownFields (M : Mem) : List AV → List Nat → List AV × Mem
  | cs, [] => (cs, M)
  | cs, o :: r => match cs[o]? with
    | some (.pv (.cl es)) => ownFields (M ++ [.arr (es.map .pv) es.length]) (cs.set o (.gs M.length es.length 0 es.length)) r
    | _ => ownFields M cs r

def roomFor (n bytes : Nat) : Bool := decide (n * bytes ≤ 140737488355328) && decide (n ≤ 140737488355328)

def appendV (ty : TypeId → Option TI) (M : Mem) (t : TypeId) (x y : AV) : Option (AV × Mem) :=
  match ty t with
  | some ⟨.slice e, _, _, _, _, _⟩ => match ty e, elems M y with
    | some ti, some ys =>
      if !headOk ti.size ys then none
      else if ys.isEmpty then
        match x with
        | .pv (.cl es) => some (.pv (.cl es), M)
        | .gs g n off len => match getArr M g n with
          | some _ => some (.gs g n off len, M)
          | none => none
        | _ => none
      else match x with
        | .pv (.cl es) =>
          let n := es.length + ys.length
          if roomFor n ti.bytes && headOkP ti.size es then some (.gs M.length n 0 n, M ++ [.arr (es.map .pv ++ ys) 0]) else none
        | .gs g n 0 len => match getArr M g n with
          | some (es, fz) =>
            let m := len + ys.length
            if roomFor m ti.bytes && headOk ti.size es && decide (fz ≤ len) then
              if len = n then some (.gs g m 0 m, M.set g (.arr (es ++ ys) fz))
              else if len < n then some (.gs M.length m 0 m, M.set g .dead ++ [.arr (es.take len ++ ys) fz])
              else none
            else none
          | none => none
        | _ => none
    | _, _ => none
  | _ => none

/-! ### Alike -/
mutual
def PV.beq : PV → PV → Bool
  | .int k n, .int k' n' => k == k' && n == n'
  | .sym a, .sym b => a == b
  | .bool a, .bool b => a == b
  | .str a, .str b => a == b
  | .agg a, .agg b => PV.beqL a b
  | .tup a, .tup b => PV.beqL a b
  | .sl a, .sl b => PV.beqL a b
  | .cl a, .cl b => PV.beqL a b
  | .nilp, .nilp => true
  | .nili, .nili => true
  | .nilf, .nilf => true
  | _, _ => false
def PV.beqL : List PV → List PV → Bool
  | [], [] => true
  | a :: x, b :: y => PV.beq a b && PV.beqL x y
  | _, _ => false
end
mutual
def AV.beq : AV → AV → Bool
  | .pv a, .pv b => PV.beq a b
  | .agg a, .agg b => AV.beqL a b
  | .tup a, .tup b => AV.beqL a b
  | .gs a b c d, .gs a' b' c' d' => a == a' && b == b' && c == c' && d == d'
  | .p a b c d, .p a' b' c' d' => a == a' && b == b' && c == c' && d == d'
  | .ep a b, .ep a' b' => PV.beq a a' && b == b'
  | .fn f a, .fn g b => f == g && AV.beqL a b
  | .ifc t a, .ifc u b => t == u && AV.beq a b
  | .mp a, .mp b => a == b
  | _, _ => false
def AV.beqL : List AV → List AV → Bool
  | [], [] => true
  | a :: x, b :: y => AV.beq a b && AV.beqL x y
  | _, _ => false
end

/-! ### What leads below a bound alone -/
mutual
def AV.under (m : Nat) : AV → Bool
  | .pv _ | .ep .. => true
  | .agg a => AV.underL m a
  | .tup a => AV.underL m a
  | .gs g .. => decide (g < m)
  | .p g .. => decide (g < m)
  | .fn _ a => AV.underL m a
  | .ifc _ a => AV.under m a
  | .mp g => decide (g < m)
def AV.underL (m : Nat) : List AV → Bool
  | [] => true
  | a :: x => AV.under m a && AV.underL m x
end
def MObj.under (m : Nat) : MObj → Bool
  | .arr es _ => AV.underL m es
  | .map _ | .dead => true
def topUnless (m : Nat) (a : AV) : AV := if AV.under m a then a else .pv .top

/-! ### Maps -/
def keyEq : PV → PV → Option Bool
  | .int k a, .int k' b => if k = k' then some (a == b) else none
  | .str a, .str b => some (a == b)
  | _, _ => none
def findKey (k : PV) : List (PV × PV) → Option (Option PV)
  | [] => some none
  | (x, v) :: r => match keyEq k x with
    | some true => some (some v)
    | some false => findKey k r
    | none => none
def putKey (k v : PV) : List (PV × PV) → Option (List (PV × PV))
  | [] => some [(k, v)]
  | (x, u) :: r => match keyEq k x with
    | some true => some ((x, v) :: r)
    | some false => match putKey k v r with | some r' => some ((x, u) :: r') | none => none
    | none => none
def keyOk (ty : TypeId → Option TI) (t : TypeId) (k : PV) : Bool :=
  match ty t, k with
  | some ⟨.int _, _, _, _, _, _⟩, .int .. => true
  | some ⟨.str, _, _, _, _, _⟩, .str _ => true
  | _, _ => false
/-- A value of which 'len' may be asked at a type. -/
def lenOk : TK → AV → Bool
  | .str, .pv (.str _) => true
  | .slice _, .pv (.sl _) | .slice _, .pv (.cl _) | .slice _, .gs .. => true
  | .map .., .mp _ => true
  | _, _ => false

/-! ### Operations -/
section
variable [SymB]
inductive Res where
  | val (v : AV) (M : Mem)
  | call (f : FuncId) (args : List AV)
  | fail

def ofOpt : Option (AV × Mem) → Res
  | some (v, M) => .val v M
  | none => .fail
def ofVal (M : Mem) : Option AV → Res
  | some v => .val v M
  | none => .fail

def assignV (fi : FnI) (M : Mem) (dst : Option Tmp) (v : AV) : Res :=
  match v, dst with
  | .pv (.cl es), some d => if fi.own.contains d then .val (.gs M.length es.length 0 es.length) (M ++ [.arr (es.map .pv) es.length]) else .val v M
  | _, _ => .val v M

def ownOf (fi : FnI) (dst : Option Tmp) : List Nat :=
  match dst with
  | some d => match fi.ownB.lookup d with | some l => l | none => []
  | none => []

def fieldOf (ty : TypeId → Option TI) (t : TypeId) (f : Nat) : Option FI :=
  match ty t with
  | some ⟨.struct fs, _, _, _, _, _⟩ => fs[f]?
  | _ => none

def minmax (isMin : Bool) : AV → List AV → Option AV
  | x, [] => some x
  | .pv (.int k a), .pv (.int k' b) :: r => if k = k' then minmax isMin (.pv (.int k (if isMin then (if b < a then b else a) else (if b > a then b else a)))) r else none
  | _, _ => none

def builtinV (tb : Tabs) (M : Mem) (b : Builtin) (ts : Array TypeId) (args : List AV) : Res :=
  match b, ts.toList, args with
  | .len, [t], [x] => match tb.ty t, lenV M x with
    | some ti, some n => if lenOk ti.k x then .val (.pv (.int .i64 n)) M else .fail
    | _, _ => .fail
  | .cap, [t], [.pv (.cl es)] => match tb.ty t with
    | some ⟨.slice _, _, _, _, _, _⟩ => .val (.pv (.int .i64 es.length)) M
    | _ => .fail
  | .append, [t, u], [x, y] => match tb.ty u, tb.ty t with
    | some ⟨.slice _, _, _, _, _, _⟩, _ => ofOpt (appendV tb.ty M t x y)
    | some ⟨.int _, _, _, _, _, _⟩, some ⟨.slice e, _, _, _, _, _⟩ => match tb.ty e, natOf y with
      | some ti, some n => if roomFor n (ti.bytes + 1) then ofOpt (appendV tb.ty M t x (.pv (.sl (List.replicate n (zeroOf ti))))) else .fail
      | _, _ => .fail
    | _, _ => .fail
  | .min, _, x :: r => ofVal M (minmax true x r)
  | .max, _, x :: r => ofVal M (minmax false x r)
  | .clear, [t], [.gs g n off len] => match tb.ty t with
    | some ⟨.slice e, _, _, _, _, _⟩ => match tb.ty e, getArr M g n with
      | some ti, some (es, fz) =>
        if off + len ≤ n ∧ headOk ti.size es then
          if len = 0 then .val (.pv (.tup [])) M
          else if fz ≤ off then .val (.pv (.tup [])) (M.set g (.arr (es.take off ++ List.replicate len (.pv (zeroOf ti)) ++ es.drop (off + len)) fz)) else .fail
        else .fail
      | _, _ => .fail
    | _ => .fail
  | _, _, _ => .fail

def stepOp (tb : Tabs) (fi : FnI) (T : List AV) (M : Mem) (dst : Option Tmp) : Op → Res
  | .move x | .assign x => assignV fi M dst (evalO T x)
  | .pick c a b => match evalO T c with
    | .pv (.bool true) => .val (evalO T a) M
    | .pv (.bool false) => .val (evalO T b) M
    | _ => .fail
  | .alloc t => match tb.ty t with
    | some ti => match ownOf fi dst with
      | [] => .val (.p M.length 1 0 0) (M ++ [.arr [.pv (zeroOf ti)] 0])
      | l => match ownFields M (ti.zero.map .pv) l with
        | (cs, M') => if ti.k.agg then .val (.p M'.length 1 0 0) (M' ++ [.arr [mkAgg (cs.map nrm)] 0])
          else match cs with
            | [c] => .val (.p M'.length 1 0 0) (M' ++ [.arr [nrm c] 0])
            | _ => .fail
    | none => .fail
  | .box _ x => if odd (evalO T x) then .fail else .val (.p M.length 1 0 0) (M ++ [.arr [nrm (evalO T x)] 0])
  | .build t ps => match tb.ty t with
    | some ⟨.struct fs, _, _, z, _, _⟩ => match fill (fun i => (fs[i]?).map fun f => (f.off, f.size)) (z.map .pv) (ps.toList.map fun (i, x) => (i, evalO T x)) with
      | some cs => match ownFields M cs (ownOf fi dst) with
        | (cs', M') => .val (mkAgg (cs'.map nrm)) M'
      | none => .fail
    | _ => .fail
  | .buildSlice t n ps => match tb.ty t with
    | some ⟨.slice e, _, _, _, _, _⟩ => match tb.ty e with
      | some ti =>
        if decide (n * ti.size ≤ 4096) && decide (0 < ti.size) && (ps.toList.map (·.1) == List.range n) then
          match freezes M (ps.toList.map fun (_, x) => evalO T x) with
          | some (vs, M') => if vs.all fun v => (pcells v).length == ti.size && !odd (.pv v) then .val (.pv (.cl vs)) M' else .fail
          | none => .fail
        else .fail
      | none => .fail
    | _ => .fail
  | .insert t m k v | .mapUpdate t m k v => match tb.ty t with
    | some ⟨.map kt _, _, _, _, _, _⟩ => match evalO T m, evalO T k, nrm (evalO T v) with
      | .mp g, .pv k', .pv v' => if keyOk tb.ty kt k' then match getMap M g with
          | some es => match putKey k' v' es with
            | some es' => .val (.pv .top) (M.set g (.map es'))
            | none => .fail
          | none => .fail
        else .fail
      | _, _, _ => .fail
    | _ => .fail
  | .load t a => match tb.ty t with
    | some ti => ofVal M (loadAt M ti (evalO T a))
    | none => .fail
  | .store t a v => match tb.ty t with
    | some ti => match storeAt M ti (evalO T a) (nrm (evalO T v)) with
      | some M' => .val (.pv .top) M'
      | none => .fail
    | none => .fail
  | .nilCheck x => match evalO T x with
    | .p a b c d => .val (.p a b c d) M
    | .ep a b => .val (.ep a b) M
    | .ifc t v => .val (.ifc t v) M
    | _ => .fail
  | .binOp op t x y _ => ofVal M (binV tb.ty (isConst x || isConst y) op t (evalO T x) (evalO T y))
  | .unOp op _ x => ofVal M (unV op (evalO T x))
  | .convert s d x => match tb.ty s, tb.ty d with
    | some ⟨.slice e, _, _, _, _, _⟩, some ⟨.str, _, _, _, _, _⟩ => match tb.ty e, elems M (evalO T x) with
      | some ⟨.int .u8, _, _, _, _, _⟩, some es => match bytesOf es with
        | some l => .val (.pv (.str l)) M
        | none => .fail
      | _, _ => .fail
    | some ⟨.int _, _, _, _, _, _⟩, some ⟨.int _, _, _, _, _, _⟩ | some ⟨.str, _, _, _, _, _⟩, some ⟨.str, _, _, _, _, _⟩ => ofVal M (convV tb.ty d (evalO T x))
    | _, _ => .fail
  | .makeInterface t x => match tb.ty t with
    | some ⟨.ptr, _, _, _, _, _⟩ => .val (.ifc t (evalO T x)) M
    | _ => .fail
  | .makeFunc (.func f) first cap => if first.isEmpty then .val (.fn f (cap.toList.map fun x => nrm (evalO T x))) M else .fail
  | .makeMap t none => match tb.ty t with
    | some ⟨.map .., _, _, _, _, _⟩ => .val (.mp M.length) (M ++ [.map []])
    | _ => .fail
  | .makeSlice t l c => match tb.ty t, natOf (evalO T l), natOf (evalO T c) with
    | some ⟨.slice e, _, _, _, _, _⟩, some n, some m => match tb.ty e with
      | some ti => if n ≤ m && roomFor m ti.bytes && decide (m < 4294967296) && (n == m || decide (0 < n)) then .val (.gs M.length n 0 n) (M ++ [.arr (List.replicate n (.pv (zeroOf ti))) 0]) else .fail
      | none => .fail
    | _, _, _ => .fail
  | .slice t x lo hi mx => match tb.ty t with
    | some ⟨.slice e, _, _, _, _, _⟩ => match tb.ty e with
      | some ti => if lenOk (.slice e) (evalO T x) then ofOpt (sliceV M ti.size (evalO T x) (lo.map (evalO T)) (hi.map (evalO T)) (mx.map (evalO T))) else .fail
      | none => .fail
    | some ⟨.str, _, _, _, _, _⟩ => if lenOk .str (evalO T x) then ofOpt (sliceV M 1 (evalO T x) (lo.map (evalO T)) (hi.map (evalO T)) (mx.map (evalO T))) else .fail
    | _ => .fail
  | .fieldAddr t x f => match fieldOf tb.ty t f with
    | some ⟨off, _, _⟩ => match evalO T x with
      | .p g n i o => .val (.p g n i (o + off)) M
      | .ep e o => .val (.ep e (o + off)) M
      | _ => .fail
    | none => .fail
  | .field t x f => match fieldOf tb.ty t f with
    | some ⟨off, size, agg⟩ => if isAgg (evalO T x) then ofVal M (partAt agg size (cells (evalO T x)) off) else .fail
    | none => .fail
  | .indexAddr t x i => match tb.ty t, natOf (evalO T i) with
    | some ⟨.slice e, _, _, _, _, _⟩, some k => match tb.ty e with
      | some ti => ofVal M (indexAt M ti.size (evalO T x) k)
      | none => .fail
    | _, _ => .fail
  | .index t x i => match tb.ty t, evalO T x, natOf (evalO T i) with
    | some ⟨.str, _, _, _, _, _⟩, .pv (.str s), some k => match s[k]? with
      | some b => .val (.pv (.int .u8 b.toNat)) M
      | none => .fail
    | _, _, _ => .fail
  | .lookup t x i ok => match tb.ty t with
    | some ⟨.map kt e, _, _, _, _, _⟩ => match tb.ty e, evalO T x, evalO T i with
      | some ti, .mp g, .pv k => if keyOk tb.ty kt k then match getMap M g with
          | some es => match findKey k es with
            | some r => .val (if ok then .pv (.tup [r.getD (zeroOf ti), .bool r.isSome]) else .pv (r.getD (zeroOf ti))) M
            | none => .fail
          | none => .fail
        else .fail
      | _, _, _ => .fail
    | _ => .fail
  | .extract x i => match evalO T x with
    | .pv (.tup vs) => match vs[i]? with | some v => .val (.pv v) M | none => .fail
    | .tup vs => match vs[i]? with | some v => .val v M | none => .fail
    | _ => .fail
  | .call c => match c.callee with
    | .builtin b => builtinV tb M b c.argTypes (c.args.toList.map (evalO T))
    | .value x => match evalO T x with
      | .fn f cap => .call f (c.args.toList.map (evalO T) ++ cap)
      | _ => .fail
    | .invoke r name => match evalO T r with
      | .ifc t v => match tb.ty t with
        | some ti => match ti.meths.lookup name with
          | some f => .call f (v :: c.args.toList.map (evalO T))
          | none => .fail
        | none => .fail
      | _ => .fail
  | _ => .fail

/-! ### Calls, regions, code -/
abbrev CallF := FuncId → List AV → Mem → Option (AV × Mem)

/-- What a call hands back, when what it has made is to be forgotten. -/
def back (m : Nat) (r : AV) (N : Mem) : Option (AV × Mem) :=
  if AV.under m r then if (N.take m).all (MObj.under m) then some (r, N.take m) else none
  else match freeze 5 N r with
    | some (v, N') => if (N'.take m).all (MObj.under m) then some (.pv v, N'.take m) else none
    | none => none

/-- slices.Clone (its 'own' names the slices' type): the elements are of the type's size, and there is room. -/
def cloneRoom (tb : Tabs) (fn : FnI) (es : List AV) : Bool :=
  match fn.own with
  | [t] => match tb.ty t with
    | some ⟨.slice e, _, _, _, _, _⟩ => match tb.ty e with
      | some ti => headOk ti.size es && roomFor es.length ti.bytes && decide (0 < ti.size)
      | none => false
    | _ => false
  | _ => false

def doCall (tb : Tabs) (fi : FnI) (run : CallF) (f : FuncId) (args : List AV) (M : Mem) : Option (AV × Mem) :=
  match tb.prim f with
  | some g => match freezes M args with
    | some (ps, M') => match g ps with
      | some r => some (.pv r, M')
      | none => none
    | none => none
  | none => match tb.fn f with
    | some fn =>
      if fn.clone then
        match args with
        | [x] => match elems M x with
          | some es =>
            if cloneRoom tb fn es then
              if fi.imp.contains f then (if es.isEmpty then some (.pv (.cl []), M) else some (.gs M.length es.length 0 es.length, M ++ [.arr es 0]))
              else match unpvs es with
                | some ps => if M.all (MObj.under M.length) then some (.pv (.sl (ps.map nrmP)), M) else none
                | none => none
            else none
          | none => none
        | _ => none
      else if fn.pure && !fi.imp.contains f then
        match freezes M args with
        | some (ps, M') => match run f (ps.map .pv) [] with
          | some (r, N) => match freeze 5 N r with
            | some (v, _) => some (.pv (match r with | .pv u => u | _ => v), M')
            | none => none
          | none => none
        | none => none
      else
        match run f (if fn.raw then args else args.map nrm) M with
        | some (r, N) =>
          if fn.keep then some (r, N) else back M.length r N
        | none => none
    | none => none

structure St where
  t : List AV
  m : Mem

def wantedA (ops : Array Oper) (T : List AV) (o : Oper) : Option Bool :=
  match o.guard with
  | none => some true
  | some (j, b) => match ops[j]? with
    | some oj => match oj.dst with
      | some d => match T[d]? with
        | some (.pv (.bool c)) => some (c == b)
        | some (.pv (.tup [])) => some false
        | _ => none
      | none => none
    | none => none

def runOp (tb : Tabs) (fi : FnI) (run : CallF) (ops : Array Oper) (o : Oper) (s : St) : Option St :=
  match wantedA ops s.t o with
  | none => none
  | some false => some ⟨putT s.t o.dst (.pv (.tup [])), s.m⟩
  | some true => match stepOp tb fi s.t s.m o.dst o.op with
    | .val v M => some ⟨putT s.t o.dst v, M⟩
    | .call f args => match doCall tb fi run f args s.m with
      | some (v, M) => some ⟨putT s.t o.dst v, M⟩
      | none => none
    | .fail => none

def runOps (tb : Tabs) (fi : FnI) (run : CallF) (ops : Array Oper) : List Oper → St → Option St
  | [], s => some s
  | o :: r, s => match runOp tb fi run ops o s with
    | some s' => runOps tb fi run ops r s'
    | none => none

/-- The states ahead of each operation, and at the end. -/
def states (tb : Tabs) (fi : FnI) (run : CallF) (ops : Array Oper) : List Oper → St → List St
  | [], s => [s]
  | o :: r, s => s :: match runOp tb fi run ops o s with
    | some s' => states tb fi run ops r s'
    | none => []

/-- Operations that hang on the values of their operands alone, whatever memory there is, and leave it. -/
def calm (fi : FnI) (o : Oper) : Bool :=
  match o.op with
  | .move _ | .assign _ => match o.dst with
    | some d => !fi.own.contains d
    | none => true
  | .pick .. | .binOp .. | .unOp .. | .field .. | .extract .. | .index .. | .fieldAddr .. | .nilCheck .. | .makeInterface .. | .makeFunc .. => true
  | .build .. => (ownOf fi o.dst).isEmpty
  | _ => false
def allPv (l : List AV) : Bool := l.all fun a => match a with | .pv _ => true | _ => false
/-- The same, for the operands at hand. -/
def calmAt (tb : Tabs) (fi : FnI) (T : List AV) (o : Oper) : Bool :=
  calm fi o || match o.op with
  | .load _ a => match evalO T a with | .ep .. => true | _ => false
  | .indexAddr _ x _ => match evalO T x with | .pv _ => true | _ => false
  | .slice _ x _ _ _ => match evalO T x with | .pv _ => true | _ => false
  | .convert _ _ x => match evalO T x with | .pv _ => true | _ => false
  | .buildSlice _ _ ps => allPv (ps.toList.map fun p => evalO T p.2)
  | .call c => match c.callee with
    | .builtin .len | .builtin .cap | .builtin .min | .builtin .max => allPv (c.args.toList.map (evalO T))
    | .value x => match evalO T x with
      | .fn f [] => (tb.prim f).isSome && allPv (c.args.toList.map (evalO T)) || match tb.fn f with
        | some fn => !fn.clone && fn.pure && !fi.imp.contains f && allPv (c.args.toList.map (evalO T))
        | none => false
      | _ => false
    | _ => false
  | _ => false
/-- Operations that read the memory and leave it. -/
def reads (o : Oper) : Bool :=
  match o.op with
  | .load .. | .indexAddr .. | .lookup .. | .convert .. => true
  | .slice _ _ _ _ mx => mx.isNone
  | .call c => match c.callee with
    | .builtin .len | .builtin .cap | .builtin .min | .builtin .max => true
    | _ => false
  | _ => false
def readSame (tb : Tabs) (fi : FnI) (T : List AV) (M N : Mem) (o : Oper) : Bool :=
  match stepOp tb fi T M o.dst o.op, stepOp tb fi T N o.dst o.op with
  | .val v _, .val u _ => AV.beq v u
  | _, _ => false

def MObj.beq : MObj → MObj → Bool
  | .arr a n, .arr b m => AV.beqL a b && n == m
  | .dead, .dead => true
  | _, _ => false
def MObj.beqL : List MObj → List MObj → Bool
  | [], [] => true
  | a :: x, b :: y => MObj.beq a b && MObj.beqL x y
  | _, _ => false

/-- Two operations that have no order (the first is the one listed first): they bear it. -/
def pairOk (tb : Tabs) (fi : FnI) (ops : Array Oper) (rest : List Oper) (ss : List St) (ij : Nat × Nat) : Bool :=
  match rest[ij.1]?, ss[ij.1]?, rest[ij.2]?, ss[ij.2]?, ss[ij.2 + 1]? with
  | some oi, some si, some oj, some sj, some sk => match wantedA ops si.t oi, wantedA ops sj.t oj with
    | some false, some _ => true
    | some true, some false => true
    | some true, some true =>
      if calmAt tb fi si.t oi || calmAt tb fi sj.t oj || (reads oi && reads oj) then true
      else if reads oi then readSame tb fi si.t si.m sk.m oi
      else if reads oj then readSame tb fi sj.t sj.m si.m oj
      else false
    | _, _ => false
  | _, _, _, _, _ => false
def keepOk (sa ss : List St) (kp : Nat × Nat) : Bool :=
  match sa[kp.1]?, sa[kp.1 + 1]?, ss[kp.2]?, ss[kp.2 + 1]? with
  | some a, some b, some s, some s' => MObj.beqL ((s.m.drop a.m.length).take (b.m.length - a.m.length)) ((s'.m.drop a.m.length).take (b.m.length - a.m.length))
  | _, _, _, _ => false

def restOf (ops : Array Oper) (fs : List Nat) : List Nat := (List.range ops.size).filter fun i => !fs.contains i
def pickOps (ops : Array Oper) (l : List Nat) : List Oper := l.filterMap (ops[·]?)

def runReg (tb : Tabs) (fi : FnI) (run : CallF) (ops : Array Oper) (c : Chk) (s : St) : Option St :=
  let sa := states tb fi run ops (pickOps ops c.fs) s
  match sa[c.fs.length]? with
  | none => none
  | some s1 =>
    let rest := pickOps ops (restOf ops c.fs)
    let ss := states tb fi run ops rest s1
    if c.pairs.all (pairOk tb fi ops rest ss) && c.keep.all (keepOk sa ss) then ss[rest.length]? else none
def runRegion (tb : Tabs) (fi : FnI) (run : CallF) (id : Nat) (ops : Array Oper) (s : St) : Option St :=
  match fi.chk.lookup id with
  | none => runOps tb fi run ops ops.toList s
  | some c => runReg tb fi run ops c s

inductive Ex where
  | normal
  | exit (id : Nat)
  | ret

def cutTo (lv m i : Nat) (x : AV) : AV := if lasts lv i then topUnless m x else .pv .top
def cutAll (lv m : Nat) : Nat → List AV → List AV
  | _, [] => []
  | i, x :: r => cutTo lv m i x :: cutAll lv m (i + 1) r
def trim (lv m : Nat) (s : St) : Option St :=
  if (s.m.take m).all (MObj.under m) then some ⟨cutAll lv m 0 s.t, s.m.take m⟩ else none

def loopN (body : St → Option (Ex × St)) (cut : Bool) (lv m : Nat) : Nat → St → Option (Ex × St)
  | 0, _ => none
  | n + 1, s => match body s with
    | some (.normal, s') => if cut then match trim lv m s' with
        | some s'' => loopN body cut lv m n s''
        | none => none
      else loopN body cut lv m n s'
    | r => r

def execC (tb : Tabs) (fi : FnI) (run : CallF) (lim : Nat) : Code → St → Option (Ex × St)
  | .skip, s => some (.normal, s)
  | .region id ops _, s => match runRegion tb fi run id ops s with
    | some s' => some (.normal, s')
    | none => none
  | .seq a b, s => match execC tb fi run lim a s with
    | some (.normal, s') => execC tb fi run lim b s'
    | r => r
  | .cond c a b, s => match evalO s.t c with
    | .pv (.bool true) => execC tb fi run lim a s
    | .pv (.bool false) => execC tb fi run lim b s
    | _ => none
  | .block id b, s => match execC tb fi run lim b s with
    | some (.exit id', s') => if id' = id then some (.normal, s') else some (.exit id', s')
    | r => r
  | .loop b, s => loopN (execC tb fi run lim b) fi.trim fi.live s.m.length lim s
  | .exit id, s => some (.exit id, s)
  | .scope b, s => execC tb fi run lim b s
  | .ret, s => some (.ret, s)
  | _, _ => none

def resultV (tb : Tabs) (s : St) : ResultVar → Option AV
  | .tmp t => s.t[t]?
  | .cell a t => match tb.ty t, s.t[a]? with
    | some ti, some v => loadAt s.m ti v
    | _, _ => none
def resultsV (tb : Tabs) (s : St) : List ResultVar → Option (List AV)
  | [] => some []
  | r :: l => match resultV tb s r, resultsV tb s l with
    | some v, some vs => some (v :: vs)
    | _, _ => none
def packed : List AV → AV
  | [v] => v
  | vs => mkTup vs

def runF (tb : Tabs) : Nat → CallF
  | 0 => fun _ _ _ => none
  | n + 1 => fun f args M => match tb.fn f with
    | some fi => match execC tb fi (runF tb n) n fi.body ⟨args ++ List.replicate (fi.ntmps - args.length) (.pv .top), M⟩ with
      | some (.normal, s) | some (.ret, s) => match resultsV tb s fi.results with
        | some vs => some (packed (if fi.raw then vs else vs.map nrm), s.m)
        | none => none
      | _ => none
    | none => none

def callP (tb : Tabs) (n : Nat) (f : FuncId) (ps : List PV) : Option PV :=
  match runF tb n f (ps.map .pv) [] with
  | some (r, N) => match freeze 5 N r with
    | some (v, _) => some (match r with | .pv u => u | _ => v)
    | none => none
  | none => none
end
end Go.Vm
