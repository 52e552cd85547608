/- The same machine with a frame that the kernel looks things up in quickly: what it gives, the machine gives. -/
import Derived.Test.YtiajhfodfhmfaaaGreatDoorWmPrim
set_option linter.unusedVariables false
set_option linter.unusedSimpArgs false
set_option linter.unusedSectionVars false
namespace Go.Vm
variable [SymB] [SymV]

/-- A frame: what this region has set, what lasts, and all that was ahead. -/
structure En where
  l : List (Nat × AV)
  g : List (Nat × AV)
  b : Nat → AV

theorem beq_ne {a b : Nat} (h : a ≠ b) : Nat.beq a b = false := by rw [← Bool.not_eq_true, Nat.beq_eq]; exact h
noncomputable def ifT {α : Type} (b : Bool) (x : Option α) : Option α := @Bool.rec (fun _ => Option α) none x b
theorem ifT_some {α : Type} {b : Bool} {x : Option α} {y : α} (h : ifT b x = some y) : b = true ∧ x = some y := by
  cases b with
  | false => cases h
  | true => exact ⟨rfl, h⟩
noncomputable def look (i : Nat) (d : AV) (l : List (Nat × AV)) : AV :=
  @List.rec (Nat × AV) (fun _ => AV) d (fun h _ ih => @Bool.rec (fun _ => AV) ih h.2 (Nat.beq h.1 i)) l
noncomputable def setG (i : Nat) (v : AV) (l : List (Nat × AV)) : List (Nat × AV) :=
  @List.rec (Nat × AV) (fun _ => List (Nat × AV)) [(i, v)] (fun h t ih => @Bool.rec (fun _ => List (Nat × AV)) (h :: ih) ((i, v) :: t) (Nat.beq h.1 i)) l
noncomputable def get (gl : Nat) (E : En) (i : Nat) : AV :=
  @Bool.rec (fun _ => AV) (look i (E.b i) E.l) (look i (E.b i) E.g) (bit gl i)
noncomputable def put (gl d : Nat) (v : AV) (E : En) : En :=
  @Bool.rec (fun _ => En) ⟨(d, v) :: E.l, E.g, E.b⟩ ⟨E.l, setG d v E.g, E.b⟩ (bit gl d)

theorem look_cons (i : Nat) (d : AV) (h : Nat × AV) (t : List (Nat × AV)) : look i d (h :: t) = if h.1 = i then h.2 else look i d t := by
  show @Bool.rec (fun _ => AV) (look i d t) h.2 (Nat.beq h.1 i) = _
  by_cases e : h.1 = i
  · rw [if_pos e, e, Nat.beq_refl]
  · rw [if_neg e, beq_ne e]
theorem look_setG (i d : Nat) (v x : AV) : ∀ l, look i x (setG d v l) = if d = i then v else look i x l
  | [] => by
    show look i x [(d, v)] = _
    rw [look_cons]
  | h :: t => by
    show look i x (@Bool.rec (fun _ => List (Nat × AV)) (h :: setG d v t) ((d, v) :: t) (Nat.beq h.1 d)) = _
    by_cases e : h.1 = d
    · rw [e, Nat.beq_refl]
      show look i x ((d, v) :: t) = _
      rw [look_cons, look_cons, e]
      by_cases e2 : d = i <;> simp [e2]
    · rw [beq_ne e]
      show look i x (h :: setG d v t) = _
      rw [look_cons, look_cons, look_setG i d v x t]
      by_cases e2 : h.1 = i
      · have : ¬ d = i := fun e3 => e (by omega)
        simp [e2, this]
      · simp [e2]
theorem get_put (gl d : Nat) (v : AV) (E : En) (i : Nat) : get gl (put gl d v E) i = if d = i then v else get gl E i := by
  unfold get put
  cases hd : bit gl d <;> cases hi : bit gl i <;> simp only
  · rw [look_cons]
  · by_cases e : d = i
    · subst e; rw [hd] at hi; cases hi
    · rw [if_neg e]
  · by_cases e : d = i
    · subst e; rw [hd] at hi; cases hi
    · rw [if_neg e]
  · rw [look_setG]

/-- The frame as a list. -/
noncomputable def toL (gl N : Nat) (E : En) : List AV := (List.range N).map (get gl E)
def Like (gl N : Nat) (E : En) (T : List AV) : Prop := T.length = N ∧ ∀ i, get gl E i = T.getD i (.pv .top)
theorem Like.toL {gl N : Nat} {E : En} {T : List AV} (h : Like gl N E T) : toL gl N E = T := by
  apply List.ext_getElem?
  intro i
  unfold Vm.toL
  rw [List.getElem?_map]
  by_cases hi : i < N
  · have h2 := h.2 i
    rw [List.getElem?_range hi, Option.map_some, h2, List.getD, List.getElem?_eq_getElem (by rw [h.1]; exact hi)]
    rfl
  · rw [List.getElem?_eq_none (by simp; omega), List.getElem?_eq_none (by rw [h.1]; omega)]
    rfl
theorem Like.some {gl N : Nat} {E : En} {T : List AV} (h : Like gl N E T) {d : Nat} (hd : d < N) : T[d]? = some (get gl E d) := by
  rw [h.2 d, List.getD, List.getElem?_eq_getElem (by rw [h.1]; exact hd)]
  rfl
noncomputable def ofL (T : List AV) : En := ⟨[], [], fun i => T.getD i (.pv .top)⟩
theorem get_ofL (gl : Nat) (T : List AV) (i : Nat) : get gl (ofL T) i = T.getD i (.pv .top) := by
  unfold get ofL
  cases bit gl i <;> rfl
theorem Like.ofL (gl : Nat) {N : Nat} {T : List AV} (h : T.length = N) : Like gl N (ofL T) T := ⟨h, get_ofL gl T⟩
/-- What is of this region alone goes to what was ahead. -/
noncomputable def close (gl : Nat) (E : En) : En := ⟨[], E.g, fun i => get gl E i⟩
theorem get_close (gl : Nat) (E : En) (i : Nat) : get gl (close gl E) i = get gl E i := by
  have e : ∀ (l : List (Nat × AV)) (x : AV), look i (look i x l) l = look i x l := by
    intro l x
    induction l with
    | nil => rfl
    | cons h t ih =>
      rw [look_cons i x h t, look_cons]
      by_cases e : h.1 = i
      · simp [e]
      · simp only [if_neg e]; exact ih
  conv => lhs; unfold get close
  cases hb : bit gl i
  · rfl
  · simp only
    unfold get
    rw [hb]
    exact e _ _
noncomputable def mapE (f : Nat → AV → AV) (E : En) : En := ⟨E.l.map fun p => (p.1, f p.1 p.2), E.g.map fun p => (p.1, f p.1 p.2), fun i => f i (E.b i)⟩
theorem look_map (f : Nat → AV → AV) (i : Nat) (d : AV) : ∀ l : List (Nat × AV), look i (f i d) (l.map fun p => (p.1, f p.1 p.2)) = f i (look i d l)
  | [] => rfl
  | h :: t => by
    rw [List.map_cons, look_cons, look_cons, look_map f i d t]
    by_cases e : h.1 = i
    · subst e; simp
    · simp [e]
theorem get_mapE (f : Nat → AV → AV) (gl : Nat) (E : En) (i : Nat) : get gl (mapE f E) i = f i (get gl E i) := by
  unfold get mapE
  cases bit gl i <;> exact look_map f i _ _

noncomputable def evalE (gl : Nat) (E : En) (x : Operand) : AV :=
  match x with
  | .tmp t => get gl E t
  | .const v => absV v
  | .global _ => .pv .top
  | .func f => .fn f []
theorem evalE_eq {gl N : Nat} {E : En} {T : List AV} (h : Like gl N E T) : evalE gl E = evalO T := by
  funext x
  cases x with
  | tmp t => exact h.2 t
  | _ => rfl

noncomputable def h_move (tb : Tabs) (fi : FnI) (ev : Operand → AV) (M : Mem) (dst : Option Tmp) (x : Operand) : Res :=
  assignV fi M dst (ev x)
noncomputable def h_pick (tb : Tabs) (fi : FnI) (ev : Operand → AV) (M : Mem) (dst : Option Tmp) (c a b : Operand) : Res :=
  match ev c with
    | .pv (.bool true) => .val (ev a) M
    | .pv (.bool false) => .val (ev b) M
    | _ => .fail
noncomputable def h_alloc (tb : Tabs) (fi : FnI) (ev : Operand → AV) (M : Mem) (dst : Option Tmp) (t : TypeId) : Res :=
  match tb.ty t with
    | some ti => match ownOf fi dst with
      | [] => .val (.p M.length 1 0 0) (M ++ [.arr [.pv (zeroOf ti)] 0])
      | l => match ownFields M (ti.zero.map .pv) l with
        | (cs, M') => if ti.k.agg then .val (.p M'.length 1 0 0) (M' ++ [.arr [mkAgg (cs.map nrm)] 0])
          else match cs with
            | [c] => .val (.p M'.length 1 0 0) (M' ++ [.arr [nrm c] 0])
            | _ => .fail
    | none => .fail
noncomputable def h_box (tb : Tabs) (fi : FnI) (ev : Operand → AV) (M : Mem) (dst : Option Tmp) (t0 : TypeId) (x : Operand) : Res :=
  if odd (ev x) then .fail else .val (.p M.length 1 0 0) (M ++ [.arr [nrm (ev x)] 0])
noncomputable def h_build (tb : Tabs) (fi : FnI) (ev : Operand → AV) (M : Mem) (dst : Option Tmp) (t : TypeId) (ps : Array (Nat × Operand)) : Res :=
  match tb.ty t with
    | some ⟨.struct fs, _, _, z, _, _⟩ => match fill (fun i => (fs[i]?).map fun f => (f.off, f.size)) (z.map .pv) (ps.toList.map fun (i, x) => (i, ev x)) with
      | some cs => match ownFields M cs (ownOf fi dst) with
        | (cs', M') => .val (mkAgg (cs'.map nrm)) M'
      | none => .fail
    | _ => .fail
noncomputable def h_buildSlice (tb : Tabs) (fi : FnI) (ev : Operand → AV) (M : Mem) (dst : Option Tmp) (t : TypeId) (n : Nat) (ps : Array (Nat × Operand)) : Res :=
  match tb.ty t with
    | some ⟨.slice e, _, _, _, _, _⟩ => match tb.ty e with
      | some ti =>
        if decide (n * ti.size ≤ 4096) && decide (0 < ti.size) && (ps.toList.map (·.1) == List.range n) then
          match freezes M (ps.toList.map fun (_, x) => ev x) with
          | some (vs, M') => if vs.all fun v => (pcells v).length == ti.size && !odd (.pv v) then .val (.pv (.cl vs)) M' else .fail
          | none => .fail
        else .fail
      | none => .fail
    | _ => .fail
noncomputable def h_insert (tb : Tabs) (fi : FnI) (ev : Operand → AV) (M : Mem) (dst : Option Tmp) (t : TypeId) (m k v : Operand) : Res :=
  match tb.ty t with
    | some ⟨.map kt _, _, _, _, _, _⟩ => match ev m, ev k, nrm (ev v) with
      | .mp g, .pv k', .pv v' => if keyOk tb.ty kt k' then match getMap M g with
          | some es => match putKey k' v' es with
            | some es' => .val (.pv .top) (M.set g (.map es'))
            | none => .fail
          | none => .fail
        else .fail
      | _, _, _ => .fail
    | _ => .fail
noncomputable def h_load (tb : Tabs) (fi : FnI) (ev : Operand → AV) (M : Mem) (dst : Option Tmp) (t : TypeId) (a : Operand) : Res :=
  match tb.ty t with
    | some ti => ofVal M (loadAt M ti (ev a))
    | none => .fail
noncomputable def h_store (tb : Tabs) (fi : FnI) (ev : Operand → AV) (M : Mem) (dst : Option Tmp) (t : TypeId) (a v : Operand) : Res :=
  match tb.ty t with
    | some ti => match storeAt M ti (ev a) (nrm (ev v)) with
      | some M' => .val (.pv .top) M'
      | none => .fail
    | none => .fail
noncomputable def h_nilCheck (tb : Tabs) (fi : FnI) (ev : Operand → AV) (M : Mem) (dst : Option Tmp) (x : Operand) : Res :=
  match ev x with
    | .p a b c d => .val (.p a b c d) M
    | .ep a b => .val (.ep a b) M
    | .ifc t v => .val (.ifc t v) M
    | _ => .fail
noncomputable def h_binOp (tb : Tabs) (fi : FnI) (ev : Operand → AV) (M : Mem) (dst : Option Tmp) (op : BinOp) (t : TypeId) (x y : Operand) (y0 : TypeId) : Res :=
  ofVal M (binV tb.ty (isConst x || isConst y) op t (ev x) (ev y))
noncomputable def h_unOp (tb : Tabs) (fi : FnI) (ev : Operand → AV) (M : Mem) (dst : Option Tmp) (op : UnOp) (t0 : TypeId) (x : Operand) : Res :=
  ofVal M (unV op (ev x))
noncomputable def h_convert (tb : Tabs) (fi : FnI) (ev : Operand → AV) (M : Mem) (dst : Option Tmp) (s d : TypeId) (x : Operand) : Res :=
  match tb.ty s, tb.ty d with
    | some ⟨.slice e, _, _, _, _, _⟩, some ⟨.str, _, _, _, _, _⟩ => match tb.ty e, elems M (ev x) with
      | some ⟨.int .u8, _, _, _, _, _⟩, some es => match bytesOf es with
        | some l => .val (.pv (.str l)) M
        | none => .fail
      | _, _ => .fail
    | some ⟨.int _, _, _, _, _, _⟩, some ⟨.int _, _, _, _, _, _⟩ | some ⟨.str, _, _, _, _, _⟩, some ⟨.str, _, _, _, _, _⟩ => ofVal M (convV tb.ty d (ev x))
    | _, _ => .fail
noncomputable def h_makeInterface (tb : Tabs) (fi : FnI) (ev : Operand → AV) (M : Mem) (dst : Option Tmp) (t : TypeId) (x : Operand) : Res :=
  match tb.ty t with
    | some ⟨.ptr, _, _, _, _, _⟩ => .val (.ifc t (ev x)) M
    | _ => .fail
noncomputable def h_makeFunc (tb : Tabs) (fi : FnI) (ev : Operand → AV) (M : Mem) (dst : Option Tmp) (fn : Fn) (first cap : Array Operand) : Res :=
  match fn with
    | .func f => (if first.isEmpty then .val (.fn f (cap.toList.map fun x => nrm (ev x))) M else .fail)
    | _ => .fail
noncomputable def h_makeMap (tb : Tabs) (fi : FnI) (ev : Operand → AV) (M : Mem) (dst : Option Tmp) (t : TypeId) (r : Option Operand) : Res :=
  match r with
    | none => (match tb.ty t with
    | some ⟨.map .., _, _, _, _, _⟩ => .val (.mp M.length) (M ++ [.map []])
    | _ => .fail)
    | some _ => .fail
noncomputable def h_makeSlice (tb : Tabs) (fi : FnI) (ev : Operand → AV) (M : Mem) (dst : Option Tmp) (t : TypeId) (l c : Operand) : Res :=
  match tb.ty t, natOf (ev l), natOf (ev c) with
    | some ⟨.slice e, _, _, _, _, _⟩, some n, some m => match tb.ty e with
      | some ti => if n ≤ m && roomFor m ti.bytes && decide (m < 4294967296) && (n == m || decide (0 < n)) then .val (.gs M.length n 0 n) (M ++ [.arr (List.replicate n (.pv (zeroOf ti))) 0]) else .fail
      | none => .fail
    | _, _, _ => .fail
noncomputable def h_slice (tb : Tabs) (fi : FnI) (ev : Operand → AV) (M : Mem) (dst : Option Tmp) (t : TypeId) (x : Operand) (lo hi mx : Option Operand) : Res :=
  match tb.ty t with
    | some ⟨.slice e, _, _, _, _, _⟩ => match tb.ty e with
      | some ti => if lenOk (.slice e) (ev x) then ofOpt (sliceV M ti.size (ev x) (lo.map (ev)) (hi.map (ev)) (mx.map (ev))) else .fail
      | none => .fail
    | some ⟨.str, _, _, _, _, _⟩ => if lenOk .str (ev x) then ofOpt (sliceV M 1 (ev x) (lo.map (ev)) (hi.map (ev)) (mx.map (ev))) else .fail
    | _ => .fail
noncomputable def h_fieldAddr (tb : Tabs) (fi : FnI) (ev : Operand → AV) (M : Mem) (dst : Option Tmp) (t : TypeId) (x : Operand) (f : Nat) : Res :=
  match fieldOf tb.ty t f with
    | some ⟨off, _, _⟩ => match ev x with
      | .p g n i o => .val (.p g n i (o + off)) M
      | .ep e o => .val (.ep e (o + off)) M
      | _ => .fail
    | none => .fail
noncomputable def h_field (tb : Tabs) (fi : FnI) (ev : Operand → AV) (M : Mem) (dst : Option Tmp) (t : TypeId) (x : Operand) (f : Nat) : Res :=
  match fieldOf tb.ty t f with
    | some ⟨off, size, agg⟩ => if isAgg (ev x) then ofVal M (partAt agg size (cells (ev x)) off) else .fail
    | none => .fail
noncomputable def h_indexAddr (tb : Tabs) (fi : FnI) (ev : Operand → AV) (M : Mem) (dst : Option Tmp) (t : TypeId) (x i : Operand) : Res :=
  match tb.ty t, natOf (ev i) with
    | some ⟨.slice e, _, _, _, _, _⟩, some k => match tb.ty e with
      | some ti => ofVal M (indexAt M ti.size (ev x) k)
      | none => .fail
    | _, _ => .fail
noncomputable def h_index (tb : Tabs) (fi : FnI) (ev : Operand → AV) (M : Mem) (dst : Option Tmp) (t : TypeId) (x i : Operand) : Res :=
  match tb.ty t, ev x, natOf (ev i) with
    | some ⟨.str, _, _, _, _, _⟩, .pv (.str s), some k => match s[k]? with
      | some b => .val (.pv (.int .u8 b.toNat)) M
      | none => .fail
    | _, _, _ => .fail
noncomputable def h_lookup (tb : Tabs) (fi : FnI) (ev : Operand → AV) (M : Mem) (dst : Option Tmp) (t : TypeId) (x i : Operand) (ok : Bool) : Res :=
  match tb.ty t with
    | some ⟨.map kt e, _, _, _, _, _⟩ => match tb.ty e, ev x, ev i with
      | some ti, .mp g, .pv k => if keyOk tb.ty kt k then match getMap M g with
          | some es => match findKey k es with
            | some r => .val (if ok then .pv (.tup [r.getD (zeroOf ti), .bool r.isSome]) else .pv (r.getD (zeroOf ti))) M
            | none => .fail
          | none => .fail
        else .fail
      | _, _, _ => .fail
    | _ => .fail
noncomputable def h_extract (tb : Tabs) (fi : FnI) (ev : Operand → AV) (M : Mem) (dst : Option Tmp) (x : Operand) (i : Nat) : Res :=
  match ev x with
    | .pv (.tup vs) => match vs[i]? with | some v => .val (.pv v) M | none => .fail
    | .tup vs => match vs[i]? with | some v => .val v M | none => .fail
    | _ => .fail
noncomputable def h_call (tb : Tabs) (fi : FnI) (ev : Operand → AV) (M : Mem) (dst : Option Tmp) (c : Call) : Res :=
  match c.callee with
    | .builtin b => builtinV tb M b c.argTypes (c.args.toList.map (ev))
    | .value x => match ev x with
      | .fn f cap => .call f (c.args.toList.map (ev) ++ cap)
      | _ => .fail
    | .invoke r name => match ev r with
      | .ifc t v => match tb.ty t with
        | some ti => match ti.meths.lookup name with
          | some f => .call f (v :: c.args.toList.map (ev))
          | none => .fail
        | none => .fail
      | _ => .fail
noncomputable def stepE (tb : Tabs) (fi : FnI) (ev : Operand → AV) (M : Mem) (dst : Option Tmp) : Op → Res
  | .move x => h_move tb fi ev M dst x
  | .assign x => h_move tb fi ev M dst x
  | .pick c a b => h_pick tb fi ev M dst c a b
  | .alloc t => h_alloc tb fi ev M dst t
  | .box t0 x => h_box tb fi ev M dst t0 x
  | .build t ps => h_build tb fi ev M dst t ps
  | .buildSlice t n ps => h_buildSlice tb fi ev M dst t n ps
  | .insert t m k v => h_insert tb fi ev M dst t m k v
  | .mapUpdate t m k v => h_insert tb fi ev M dst t m k v
  | .load t a => h_load tb fi ev M dst t a
  | .store t a v => h_store tb fi ev M dst t a v
  | .nilCheck x => h_nilCheck tb fi ev M dst x
  | .binOp op t x y y0 => h_binOp tb fi ev M dst op t x y y0
  | .unOp op t0 x => h_unOp tb fi ev M dst op t0 x
  | .convert s d x => h_convert tb fi ev M dst s d x
  | .makeInterface t x => h_makeInterface tb fi ev M dst t x
  | .makeFunc fn first cap => h_makeFunc tb fi ev M dst fn first cap
  | .makeMap t r => h_makeMap tb fi ev M dst t r
  | .makeSlice t l c => h_makeSlice tb fi ev M dst t l c
  | .slice t x lo hi mx => h_slice tb fi ev M dst t x lo hi mx
  | .fieldAddr t x f => h_fieldAddr tb fi ev M dst t x f
  | .field t x f => h_field tb fi ev M dst t x f
  | .indexAddr t x i => h_indexAddr tb fi ev M dst t x i
  | .index t x i => h_index tb fi ev M dst t x i
  | .lookup t x i ok => h_lookup tb fi ev M dst t x i ok
  | .extract x i => h_extract tb fi ev M dst x i
  | .call c => h_call tb fi ev M dst c
  | _ => .fail
theorem stepE_eq (tb : Tabs) (fi : FnI) (T : List AV) (M : Mem) (dst : Option Tmp) (o : Op) : stepE tb fi (evalO T) M dst o = stepOp tb fi T M dst o := by
  cases o with
  | makeFunc fn first cap => cases fn <;> rfl
  | makeMap t r => cases r <;> rfl
  | _ => rfl

structure StE where
  e : En
  m : Mem

noncomputable def wantedE (gl N : Nat) (ops : Array Oper) (E : En) (o : Oper) : Option Bool :=
  match o.guard with
  | none => some true
  | some (j, b) => match ops[j]? with
    | some oj => match oj.dst with
      | some d => ifT (Nat.blt d N) (match get gl E d with
        | .pv (.bool c) => some (c == b)
        | .pv (.tup []) => some false
        | _ => none)
      | none => none
    | none => none
theorem wantedE_eq {gl N : Nat} {E : En} {T : List AV} (h : Like gl N E T) {ops : Array Oper} {o : Oper} {b : Bool} (hw : wantedE gl N ops E o = some b) : wantedA ops T o = some b := by
  unfold wantedE at hw
  unfold wantedA
  split at hw
  · rename_i hg
    simp only [hg]
    exact hw
  · rename_i j c hg
    simp only [hg]
    split at hw
    · rename_i oj hoj
      simp only [hoj]
      split at hw
      · rename_i d hd
        simp only [hd]
        obtain ⟨hlt, hw⟩ := ifT_some hw
        have hl : d < N := by simpa [Nat.blt_eq] using hlt
        rw [h.some hl]
        revert hw
        generalize get gl E d = g
        intro hw
        split at hw <;> first | exact hw | cases hw
      · cases hw
    · cases hw

noncomputable def putO (gl N : Nat) (E : En) (dst : Option Tmp) (v : AV) : Option En :=
  match dst with
  | none => some E
  | some d => ifT (Nat.blt d N) (some (put gl d v E))
theorem putO_like {gl N : Nat} {E E' : En} {T : List AV} (h : Like gl N E T) {dst : Option Tmp} {v : AV} (hp : putO gl N E dst v = some E') : Like gl N E' (putT T dst v) := by
  cases dst with
  | none => simp only [putO, Option.some.injEq] at hp; subst hp; exact h
  | some d =>
    simp only [putO] at hp
    obtain ⟨hlt, hp⟩ := ifT_some hp
    · simp only [Option.some.injEq] at hp
      subst hp
      have hl : d < N := by simpa [Nat.blt_eq] using hlt
      refine ⟨by simp only [putT, List.length_set]; exact h.1, fun i => ?_⟩
      rw [get_put]
      simp only [putT, List.getD, List.getElem?_set]
      by_cases e : d = i
      · subst e; simp [h.1, hl]
      · simp only [if_neg e]
        rw [h.2 i]
        rfl

noncomputable def runOpE (tb : Tabs) (fi : FnI) (gl : Nat) (run : CallF) (ops : Array Oper) (o : Oper) (s : StE) : Option StE :=
  match wantedE gl fi.ntmps ops s.e o with
  | none => none
  | some false => match putO gl fi.ntmps s.e o.dst (.pv (.tup [])) with
    | some E => some ⟨E, s.m⟩
    | none => none
  | some true => match stepE tb fi (evalE gl s.e) s.m o.dst o.op with
    | .val v M => match putO gl fi.ntmps s.e o.dst v with
      | some E => some ⟨E, M⟩
      | none => none
    | .call f args => match doCall tb fi run f args s.m with
      | some (v, M) => match putO gl fi.ntmps s.e o.dst v with
        | some E => some ⟨E, M⟩
        | none => none
      | none => none
    | .fail => none

def Less (run' run : CallF) : Prop := ∀ f args M r, run' f args M = some r → run f args M = some r

theorem doCall_mono {tb : Tabs} {fi : FnI} {run' run : CallF} (H : Less run' run) {f : FuncId} {args : List AV} {M : Mem} {r : AV × Mem} (h : doCall tb fi run' f args M = some r) : doCall tb fi run f args M = some r := by
  unfold doCall at h ⊢
  split at h
  · rename_i g hg
    try simp only [hg]
    exact h
  · rename_i hg
    split at h
    · rename_i fn hfn
      try simp only [hg, hfn]
      split at h
      · rename_i hc
        rw [if_pos hc]
        exact h
      · rename_i hc
        rw [if_neg hc] at *
        split at h
        · rename_i hp
          rw [if_pos hp]
          split at h
          · rename_i ps M' hfr
            try simp only [hfr]
            split at h
            · rename_i r0 N hr
              simp only [H _ _ _ _ hr]
              exact h
            · cases h
          · cases h
        · rename_i hp
          rw [if_neg hp]
          split at h
          · rename_i r0 N hr
            simp only [H _ _ _ _ hr]
            exact h
          · cases h
    · cases h

theorem runOpE_sound {tb : Tabs} {fi : FnI} {gl : Nat} {run' run : CallF} (H : Less run' run) {ops : Array Oper} {o : Oper} {s s' : StE} {T : List AV} (h : Like gl fi.ntmps s.e T) (hr : runOpE tb fi gl run' ops o s = some s') :
    ∃ T', runOp tb fi run ops o ⟨T, s.m⟩ = some ⟨T', s'.m⟩ ∧ Like gl fi.ntmps s'.e T' := by
  unfold runOpE at hr
  unfold runOp
  split at hr
  · cases hr
  · rename_i hw
    simp only [wantedE_eq h hw]
    split at hr
    · rename_i E hp
      simp only [Option.some.injEq] at hr
      subst hr
      exact ⟨_, rfl, putO_like h hp⟩
    · cases hr
  · rename_i hw
    simp only [wantedE_eq h hw]
    rw [evalE_eq h, stepE_eq] at hr
    split at hr
    · rename_i v M hs
      simp only [hs]
      split at hr
      · rename_i E hp
        simp only [Option.some.injEq] at hr
        subst hr
        exact ⟨_, rfl, putO_like h hp⟩
      · cases hr
    · rename_i f args hs
      simp only [hs]
      split at hr
      · rename_i v M hc
        simp only [doCall_mono H hc]
        split at hr
        · rename_i E hp
          simp only [Option.some.injEq] at hr
          subst hr
          exact ⟨_, rfl, putO_like h hp⟩
        · cases hr
      · cases hr
    · cases hr

noncomputable def runOpsE (tb : Tabs) (fi : FnI) (gl : Nat) (run : CallF) (ops : Array Oper) : List Oper → StE → Option StE
  | [], s => some ⟨close gl s.e, s.m⟩
  | o :: r, s => match runOpE tb fi gl run ops o s with
    | some s' => runOpsE tb fi gl run ops r s'
    | none => none
theorem runOpsE_sound {tb : Tabs} {fi : FnI} {gl : Nat} {run' run : CallF} (H : Less run' run) {ops : Array Oper} : ∀ (l : List Oper) {s s' : StE} {T : List AV}, Like gl fi.ntmps s.e T → runOpsE tb fi gl run' ops l s = some s' →
    ∃ T', runOps tb fi run ops l ⟨T, s.m⟩ = some ⟨T', s'.m⟩ ∧ Like gl fi.ntmps s'.e T'
  | [], s, s', T, h, hr => by
    simp only [runOpsE, Option.some.injEq] at hr
    subst hr
    exact ⟨T, rfl, h.1, fun i => by rw [get_close]; exact h.2 i⟩
  | o :: r, s, s', T, h, hr => by
    simp only [runOpsE] at hr
    split at hr
    · rename_i s1 h1
      obtain ⟨T1, k1, k2⟩ := runOpE_sound H h h1
      obtain ⟨T2, k3, k4⟩ := runOpsE_sound H r k2 hr
      exact ⟨T2, by simp only [runOps, k1, k3], k4⟩
    · cases hr

theorem runOp_mono {tb : Tabs} {fi : FnI} {run' run : CallF} (H : Less run' run) {ops : Array Oper} {o : Oper} {s s' : St} (h : runOp tb fi run' ops o s = some s') : runOp tb fi run ops o s = some s' := by
  unfold runOp at h ⊢
  split at h
  · cases h
  · rename_i hw
    try simp only [hw]
    exact h
  · rename_i hw
    try simp only [hw]
    split at h
    · rename_i hs
      try simp only [hs]
      exact h
    · rename_i hs
      try simp only [hs]
      split at h
      · rename_i hc
        simp only [doCall_mono H hc]
        exact h
      · cases h
    · cases h
theorem states_mono {tb : Tabs} {fi : FnI} {run' run : CallF} (H : Less run' run) {ops : Array Oper} : ∀ (l : List Oper) {s x : St}, (states tb fi run' ops l s)[l.length]? = some x → states tb fi run ops l s = states tb fi run' ops l s
  | [], s, x, _ => rfl
  | o :: r, s, x, h => by
    simp only [states] at h ⊢
    cases hr : runOp tb fi run' ops o s with
    | none => simp [hr] at h
    | some s1 =>
      simp only [hr, List.length_cons, List.getElem?_cons_succ] at h ⊢
      rw [runOp_mono H hr]
      simp only
      rw [states_mono H r h]
theorem runReg_mono {tb : Tabs} {fi : FnI} {run' run : CallF} (H : Less run' run) {ops : Array Oper} {c : Chk} {s s' : St} (hfs : (pickOps ops c.fs).length = c.fs.length) (h : runReg tb fi run' ops c s = some s') (hrest : (pickOps ops (restOf ops c.fs)).length = (pickOps ops (restOf ops c.fs)).length) : runReg tb fi run ops c s = some s' := by
  unfold runReg at h ⊢
  simp only at h ⊢
  split at h
  · cases h
  · rename_i s1 h1
    have e1 : states tb fi run ops (pickOps ops c.fs) s = states tb fi run' ops (pickOps ops c.fs) s := states_mono H _ (x := s1) (by rw [hfs]; exact h1)
    rw [e1]
    simp only [h1]
    split at h
    · rename_i hc
      have e2 : states tb fi run ops (pickOps ops (restOf ops c.fs)) s1 = states tb fi run' ops (pickOps ops (restOf ops c.fs)) s1 := states_mono H _ (x := s') h
      rw [e2, if_pos hc]
      exact h
    · cases h

noncomputable def runRegionE (tb : Tabs) (fi : FnI) (gl : Nat) (run : CallF) (id : Nat) (ops : Array Oper) (s : StE) : Option StE :=
  match fi.chk.lookup id with
  | none => runOpsE tb fi gl run ops ops.toList s
  | some c => ifT (Nat.beq (pickOps ops c.fs).length c.fs.length) (match runReg tb fi run ops c ⟨toL gl fi.ntmps s.e, s.m⟩ with
    | some s' => some ⟨ofL s'.t, s'.m⟩
    | none => none)

theorem runOp_length {tb : Tabs} {fi : FnI} {run : CallF} {ops : Array Oper} {o : Oper} {s s' : St} (h : runOp tb fi run ops o s = some s') : s'.t.length = s.t.length := by
  have e : ∀ dst v, (putT s.t dst v).length = s.t.length := fun dst v => by cases dst <;> simp [putT]
  unfold runOp at h
  split at h
  · cases h
  · simp only [Option.some.injEq] at h; subst h; exact e _ _
  · split at h
    · simp only [Option.some.injEq] at h; subst h; exact e _ _
    · split at h
      · simp only [Option.some.injEq] at h; subst h; exact e _ _
      · cases h
    · cases h
theorem states_length {tb : Tabs} {fi : FnI} {run : CallF} {ops : Array Oper} : ∀ (l : List Oper) {s : St} {k : Nat} {x : St}, (states tb fi run ops l s)[k]? = some x → x.t.length = s.t.length
  | [], s, k, x, h => by
    cases k with
    | zero => simp only [states, List.getElem?_cons_zero, Option.some.injEq] at h; rw [h]
    | succ k => simp [states] at h
  | o :: r, s, k, x, h => by
    cases k with
    | zero => simp only [states, List.getElem?_cons_zero, Option.some.injEq] at h; rw [h]
    | succ k =>
      simp only [states, List.getElem?_cons_succ] at h
      cases hr : runOp tb fi run ops o s with
      | none => simp [hr] at h
      | some s1 =>
        simp only [hr] at h
        rw [states_length r h, runOp_length hr]
theorem runReg_length {tb : Tabs} {fi : FnI} {run : CallF} {ops : Array Oper} {c : Chk} {s s' : St} (h : runReg tb fi run ops c s = some s') : s'.t.length = s.t.length := by
  unfold runReg at h
  simp only at h
  split at h
  · cases h
  · rename_i s1 h1
    split at h
    · rw [states_length _ h, states_length _ h1]
    · cases h

theorem runRegionE_sound {tb : Tabs} {fi : FnI} {gl : Nat} {run' run : CallF} (H : Less run' run) {id : Nat} {ops : Array Oper} {s s' : StE} {T : List AV} (h : Like gl fi.ntmps s.e T) (hr : runRegionE tb fi gl run' id ops s = some s') :
    ∃ T', runRegion tb fi run id ops ⟨T, s.m⟩ = some ⟨T', s'.m⟩ ∧ Like gl fi.ntmps s'.e T' := by
  unfold runRegionE at hr
  unfold runRegion
  split at hr
  · rename_i hc
    simp only [hc]
    exact runOpsE_sound H _ h hr
  · rename_i c hc
    simp only [hc]
    obtain ⟨hb, hr⟩ := ifT_some hr
    · rw [h.toL] at hr
      split at hr
      · rename_i s2 h2
        simp only [Option.some.injEq] at hr
        subst hr
        refine ⟨s2.t, runReg_mono H (Nat.eq_of_beq_eq_true hb) h2 rfl, Like.ofL gl ?_⟩
        have := runReg_length h2
        rw [this]
        exact h.1
      · cases hr

noncomputable def trimE (lv m : Nat) (s : StE) : Option StE :=
  if (s.m.take m).all (MObj.under m) then some ⟨mapE (cutTo lv m) s.e, s.m.take m⟩ else none
theorem cutAll_length (lv m : Nat) : ∀ (l : List AV) (k : Nat), (cutAll lv m k l).length = l.length
  | [], _ => rfl
  | x :: r, k => by simp [cutAll, cutAll_length lv m r]
theorem cutAll_getD (lv m : Nat) : ∀ (l : List AV) (k i : Nat), (cutAll lv m k l).getD i (.pv .top) = cutTo lv m (k + i) (l.getD i (.pv .top))
  | [], k, i => by
    have : cutTo lv m (k + i) (AV.pv .top) = .pv .top := by unfold cutTo topUnless; split <;> simp [AV.under]
    simp [cutAll, this]
  | x :: r, k, 0 => rfl
  | x :: r, k, i + 1 => by
    have := cutAll_getD lv m r (k + 1) i
    rw [show k + (i + 1) = k + 1 + i by omega]
    simpa [cutAll] using this
theorem trimE_sound {gl N lv m : Nat} {s s' : StE} {T : List AV} (h : Like gl N s.e T) (hr : trimE lv m s = some s') : ∃ T', trim lv m ⟨T, s.m⟩ = some ⟨T', s'.m⟩ ∧ Like gl N s'.e T' := by
  unfold trimE at hr
  split at hr
  · rename_i hu
    simp only [Option.some.injEq] at hr
    subst hr
    refine ⟨cutAll lv m 0 T, by unfold trim; rw [if_pos hu], by rw [cutAll_length]; exact h.1, fun i => ?_⟩
    rw [get_mapE, h.2 i, cutAll_getD, Nat.zero_add]
  · cases hr

noncomputable def loopNE (body : StE → Option (Ex × StE)) (cut : Bool) (lv m : Nat) : Nat → StE → Option (Ex × StE)
  | 0, _ => none
  | n + 1, s => match body s with
    | some (.normal, s') => if cut then match trimE lv m s' with
        | some s'' => loopNE body cut lv m n s''
        | none => none
      else loopNE body cut lv m n s'
    | r => r
theorem loopNE_sound {gl N : Nat} {b' : StE → Option (Ex × StE)} {b : St → Option (Ex × St)} {cut : Bool} {lv m : Nat} (H : ∀ s r s' T, Like gl N s.e T → b' s = some (r, s') → ∃ T', b ⟨T, s.m⟩ = some (r, ⟨T', s'.m⟩) ∧ Like gl N s'.e T') :
    ∀ n s r s' T, Like gl N s.e T → loopNE b' cut lv m n s = some (r, s') → ∃ T', loopN b cut lv m n ⟨T, s.m⟩ = some (r, ⟨T', s'.m⟩) ∧ Like gl N s'.e T'
  | 0, s, r, s', T, h, hr => by cases hr
  | n + 1, s, r, s', T, h, hr => by
    simp only [loopNE] at hr
    simp only [loopN]
    split at hr
    · rename_i s1 h1
      obtain ⟨T1, k1, k2⟩ := H _ _ _ _ h h1
      simp only [k1]
      split at hr
      · rename_i hc
        rw [if_pos hc]
        split at hr
        · rename_i s2 h2
          obtain ⟨T2, k3, k4⟩ := trimE_sound k2 h2
          simp only [k3]
          exact loopNE_sound H n _ _ _ _ k4 hr
        · cases hr
      · rename_i hc
        rw [if_neg hc]
        exact loopNE_sound H n _ _ _ _ k2 hr
    · rename_i hne
      obtain ⟨T1, k1, k2⟩ := H _ _ _ _ h hr
      refine ⟨T1, ?_, k2⟩
      rw [k1]
      cases r with
      | normal => exact absurd hr (hne _)
      | _ => rfl

noncomputable def execE (tb : Tabs) (fi : FnI) (gl : Nat) (run : CallF) (lim : Nat) : Code → StE → Option (Ex × StE)
  | .skip, s => some (.normal, s)
  | .region id ops _, s => match runRegionE tb fi gl run id ops s with
    | some s' => some (.normal, s')
    | none => none
  | .seq a b, s => match execE tb fi gl run lim a s with
    | some (.normal, s') => execE tb fi gl run lim b s'
    | r => r
  | .cond c a b, s => match evalE gl s.e c with
    | .pv (.bool true) => execE tb fi gl run lim a s
    | .pv (.bool false) => execE tb fi gl run lim b s
    | _ => none
  | .block id b, s => match execE tb fi gl run lim b s with
    | some (.exit id', s') => if id' = id then some (.normal, s') else some (.exit id', s')
    | r => r
  | .loop b, s => loopNE (execE tb fi gl run lim b) fi.trim fi.live s.m.length lim s
  | .exit id, s => some (.exit id, s)
  | .scope b, s => execE tb fi gl run lim b s
  | .ret, s => some (.ret, s)
  | _, _ => none

theorem execE_sound {tb : Tabs} {fi : FnI} {gl : Nat} {run' run : CallF} (H : Less run' run) (lim : Nat) : ∀ (c : Code) s r s' T, Like gl fi.ntmps s.e T → execE tb fi gl run' lim c s = some (r, s') → ∃ T', execC tb fi run lim c ⟨T, s.m⟩ = some (r, ⟨T', s'.m⟩) ∧ Like gl fi.ntmps s'.e T' := by
  intro c
  induction c with
  | skip => intro s r s' T h hr; simp only [execE, Option.some.injEq, Prod.mk.injEq] at hr; obtain ⟨rfl, rfl⟩ := hr; exact ⟨T, rfl, h⟩
  | region id ops d =>
    intro s r s' T h hr
    simp only [execE] at hr
    split at hr
    · rename_i s1 h1
      simp only [Option.some.injEq, Prod.mk.injEq] at hr
      obtain ⟨rfl, rfl⟩ := hr
      obtain ⟨T1, k1, k2⟩ := runRegionE_sound H h h1
      exact ⟨T1, by simp only [execC, k1], k2⟩
    · cases hr
  | seq a b iha ihb =>
    intro s r s' T h hr
    simp only [execE] at hr
    simp only [execC]
    split at hr
    · rename_i s1 h1
      obtain ⟨T1, k1, k2⟩ := iha _ _ _ _ h h1
      simp only [k1]
      exact ihb _ _ _ _ k2 hr
    · rename_i hne
      obtain ⟨T1, k1, k2⟩ := iha _ _ _ _ h hr
      refine ⟨T1, ?_, k2⟩
      rw [k1]
      cases r with
      | normal => exact absurd hr (hne _)
      | _ => rfl
  | cond c a b iha ihb =>
    intro s r s' T h hr
    simp only [execE] at hr
    simp only [execC]
    rw [evalE_eq h] at hr
    split at hr
    · rename_i hc
      simp only [hc]
      exact iha _ _ _ _ h hr
    · rename_i hc
      simp only [hc]
      exact ihb _ _ _ _ h hr
    · cases hr
  | block id b ih =>
    intro s r s' T h hr
    simp only [execE] at hr
    simp only [execC]
    split at hr
    · rename_i id' s1 h1
      obtain ⟨T1, k1, k2⟩ := ih _ _ _ _ h h1
      simp only [k1]
      split at hr
      · rename_i he
        simp only [Option.some.injEq, Prod.mk.injEq] at hr
        obtain ⟨rfl, rfl⟩ := hr
        exact ⟨T1, by rw [if_pos he], k2⟩
      · rename_i he
        simp only [Option.some.injEq, Prod.mk.injEq] at hr
        obtain ⟨rfl, rfl⟩ := hr
        exact ⟨T1, by rw [if_neg he], k2⟩
    · rename_i hne
      obtain ⟨T1, k1, k2⟩ := ih _ _ _ _ h hr
      refine ⟨T1, ?_, k2⟩
      rw [k1]
      cases r with
      | exit id' => exact absurd hr (hne _ _)
      | _ => rfl
  | loop b ih =>
    intro s r s' T h hr
    simp only [execE] at hr
    simp only [execC]
    exact loopNE_sound ih _ _ _ _ _ h hr
  | exit id => intro s r s' T h hr; simp only [execE, Option.some.injEq, Prod.mk.injEq] at hr; obtain ⟨rfl, rfl⟩ := hr; exact ⟨T, rfl, h⟩
  | scope b ih =>
    intro s r s' T h hr
    simp only [execE] at hr
    simp only [execC]
    exact ih _ _ _ _ h hr
  | ret => intro s r s' T h hr; simp only [execE, Option.some.injEq, Prod.mk.injEq] at hr; obtain ⟨rfl, rfl⟩ := hr; exact ⟨T, rfl, h⟩
  | _ => intro s r s' T h hr; simp [execE] at hr

noncomputable def resultE (tb : Tabs) (gl N : Nat) (s : StE) : ResultVar → Option AV
  | .tmp t => ifT (Nat.blt t N) (some (get gl s.e t))
  | .cell a t => match tb.ty t with
    | some ti => ifT (Nat.blt a N) (loadAt s.m ti (get gl s.e a))
    | none => none
noncomputable def resultsE (tb : Tabs) (gl N : Nat) (s : StE) : List ResultVar → Option (List AV)
  | [] => some []
  | r :: l => match resultE tb gl N s r, resultsE tb gl N s l with
    | some v, some vs => some (v :: vs)
    | _, _ => none
theorem resultE_sound {tb : Tabs} {gl N : Nat} {s : StE} {T : List AV} (h : Like gl N s.e T) {r : ResultVar} {v : AV} (hr : resultE tb gl N s r = some v) : resultV tb ⟨T, s.m⟩ r = some v := by
  cases r with
  | tmp t =>
    simp only [resultE] at hr
    obtain ⟨hb, hr⟩ := ifT_some hr
    · simp only [resultV, h.some (show t < N by simpa [Nat.blt_eq] using hb)]
      exact hr
  | cell a t =>
    simp only [resultE] at hr
    split at hr
    · rename_i ti ht
      obtain ⟨hb, hr⟩ := ifT_some hr
      · simp only [resultV, ht, h.some (show a < N by simpa [Nat.blt_eq] using hb)]
        exact hr
    · cases hr
theorem resultsE_sound {tb : Tabs} {gl N : Nat} {s : StE} {T : List AV} (h : Like gl N s.e T) : ∀ {rs : List ResultVar} {vs : List AV}, resultsE tb gl N s rs = some vs → resultsV tb ⟨T, s.m⟩ rs = some vs
  | [], vs, hr => hr
  | r :: l, vs, hr => by
    simp only [resultsE] at hr
    simp only [resultsV]
    split at hr
    · rename_i v vs' h1 h2
      rw [resultE_sound h h1, resultsE_sound h h2]
      exact hr
    · cases hr

/-- The arguments, at once. -/
noncomputable def putArgs (gl : Nat) : Nat → List AV → En → En
  | _, [], E => E
  | i, a :: r, E => putArgs gl (i + 1) r (put gl i a E)

noncomputable def runFE (tb : Tabs) (gls : FuncId → Nat) : Nat → CallF
  | 0 => fun _ _ _ => none
  | n + 1 => fun f args M => match tb.fn f with
    | some fi => match execE tb fi (gls f) (runFE tb gls n) n fi.body ⟨putArgs (gls f) 0 args (ofL (args ++ List.replicate (fi.ntmps - args.length) (.pv .top))), M⟩ with
      | some (.normal, s) | some (.ret, s) => if args.length ≤ fi.ntmps then match resultsE tb (gls f) fi.ntmps s fi.results with
        | some vs => some (packed (if fi.raw then vs else vs.map nrm), s.m)
        | none => none
        else none
      | _ => none
    | none => none

theorem putArgs_get (gl : Nat) (l : List AV) : ∀ (k : Nat) (as : List AV) (E : En), (∀ j (hj : j < as.length), l.getD (k + j) (.pv .top) = as[j]) → (∀ i, get gl E i = l.getD i (.pv .top)) → ∀ i, get gl (putArgs gl k as E) i = l.getD i (.pv .top)
  | k, [], E, _, h, i => h i
  | k, a :: r, E, ha, h, i => by
    simp only [putArgs]
    refine putArgs_get gl l (k + 1) r _ (fun j hj => ?_) (fun i => ?_) i
    · have := ha (j + 1) (by simpa using hj)
      simp only [List.getElem_cons_succ] at this
      rw [← this]
      congr 1
      omega
    · rw [get_put]
      by_cases e : k = i
      · subst e
        rw [if_pos rfl]
        have := ha 0 (by simp)
        simpa using this.symm
      · rw [if_neg e]; exact h i

theorem runFE_less (tb : Tabs) (gls : FuncId → Nat) : ∀ n, Less (runFE tb gls n) (runF tb n)
  | 0 => fun f args M r h => by cases h
  | n + 1 => fun f args M r h => by
    simp only [runFE] at h
    simp only [runF]
    split at h
    · rename_i fi hfi
      simp only [hfi]
      have hl : ∀ (hlen : args.length ≤ fi.ntmps), Like (gls f) fi.ntmps (putArgs (gls f) 0 args (ofL (args ++ List.replicate (fi.ntmps - args.length) (AV.pv PV.top)))) (args ++ List.replicate (fi.ntmps - args.length) (AV.pv PV.top)) := fun hlen =>
        ⟨by simp; omega, putArgs_get _ _ 0 args _ (fun j hj => by simp [List.getD, Nat.zero_add, List.getElem?_append_left hj, List.getElem?_eq_getElem hj]) (get_ofL _ _)⟩
      have fin : ∀ {e : Ex} {s : StE}, execE tb fi (gls f) (runFE tb gls n) n fi.body ⟨putArgs (gls f) 0 args (ofL (args ++ List.replicate (fi.ntmps - args.length) (AV.pv PV.top))), M⟩ = some (e, s) → (hlen : args.length ≤ fi.ntmps) →
          ∃ T', execC tb fi (runF tb n) n fi.body ⟨args ++ List.replicate (fi.ntmps - args.length) (AV.pv PV.top), M⟩ = some (e, ⟨T', s.m⟩) ∧ Like (gls f) fi.ntmps s.e T' := fun he hlen =>
        execE_sound (runFE_less tb gls n) n _ _ _ _ _ (hl hlen) he
      split at h
      · rename_i s he
        split at h
        · rename_i hlen
          obtain ⟨T', k1, k2⟩ := fin he hlen
          split at h
          · rename_i vs hvs
            simp only [k1, resultsE_sound k2 hvs]
            exact h
          · cases h
        · cases h
      · rename_i s he
        split at h
        · rename_i hlen
          obtain ⟨T', k1, k2⟩ := fin he hlen
          split at h
          · rename_i vs hvs
            simp only [k1, resultsE_sound k2 hvs]
            exact h
          · cases h
        · cases h
      · cases h
    · cases h
end Go.Vm
