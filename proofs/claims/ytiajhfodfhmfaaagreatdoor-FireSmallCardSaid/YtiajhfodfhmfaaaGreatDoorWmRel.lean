/- How the abstract machine's values and memory stand to the model's world. -/
import Derived.Test.YtiajhfodfhmfaaaGreatDoorWmDef
import Derived.Deep.MidRow
import Derived.Laws.AppendOwn
import Derived.Below
set_option linter.unusedSectionVars false
namespace Go.Vm

/-! ### Lists side by side -/
inductive F2 {α β : Type} (r : α → β → Prop) : List α → List β → Prop
  | nil : F2 r [] []
  | cons {a b l m} (h : r a b) (t : F2 r l m) : F2 r (a :: l) (b :: m)

section
variable {α β γ : Type} {r : α → β → Prop}
theorem F2.length {l : List α} {m : List β} (h : F2 r l m) : l.length = m.length := by
  induction h with
  | nil => rfl
  | cons _ _ ih => simp [ih]
theorem F2.get {l : List α} {m : List β} (h : F2 r l m) : ∀ (i : Nat) (h1 : i < l.length) (h2 : i < m.length), r l[i] m[i] := by
  induction h with
  | nil => intro i h1; simp at h1
  | cons h _ ih => intro i h1 h2; cases i with
    | zero => exact h
    | succ i => exact ih i (by simpa using h1) (by simpa using h2)
theorem F2.of_get : ∀ {l : List α} {m : List β}, l.length = m.length → (∀ (i : Nat) (h1 : i < l.length) (h2 : i < m.length), r l[i] m[i]) → F2 r l m
  | [], [], _, _ => .nil
  | [], _ :: _, h, _ => by simp at h
  | _ :: _, [], h, _ => by simp at h
  | a :: l, b :: m, h, g => .cons (g 0 (by simp) (by simp)) (F2.of_get (by simpa using h) fun i h1 h2 => g (i + 1) (by simpa using h1) (by simpa using h2))
theorem F2.get? {l : List α} {m : List β} (h : F2 r l m) {i : Nat} {a : α} (ha : l[i]? = some a) : ∃ b, m[i]? = some b ∧ r a b := by
  obtain ⟨h1, rfl⟩ := List.getElem?_eq_some_iff.1 ha
  have h2 : i < m.length := h.length ▸ h1
  exact ⟨m[i], List.getElem?_eq_getElem h2, h.get i h1 h2⟩
theorem F2.mono {s : α → β → Prop} {l : List α} {m : List β} (h : F2 r l m) (hr : ∀ a b, a ∈ l → r a b → s a b) : F2 s l m := by
  induction h with
  | nil => exact .nil
  | cons h _ ih => exact .cons (hr _ _ (by simp) h) (ih fun a b ha => hr a b (by simp [ha]))
theorem F2.append {l l' : List α} {m m' : List β} (h : F2 r l m) (h' : F2 r l' m') : F2 r (l ++ l') (m ++ m') := by
  induction h with
  | nil => exact h'
  | cons h _ ih => exact .cons h ih
theorem F2.take {l : List α} {m : List β} (h : F2 r l m) : ∀ n, F2 r (l.take n) (m.take n) := by
  induction h with
  | nil => intro n; cases n <;> exact .nil
  | cons h _ ih => intro n; cases n with
    | zero => exact .nil
    | succ n => exact .cons h (ih n)
theorem F2.drop {l : List α} {m : List β} (h : F2 r l m) : ∀ n, F2 r (l.drop n) (m.drop n) := by
  induction h with
  | nil => intro n; cases n <;> exact .nil
  | cons h t ih => intro n; cases n with
    | zero => exact .cons h t
    | succ n => exact ih n
theorem F2.set {l : List α} {m : List β} (h : F2 r l m) {a : α} {b : β} (hab : r a b) : ∀ n, F2 r (l.set n a) (m.set n b) := by
  induction h with
  | nil => intro n; cases n <;> exact .nil
  | cons h t ih => intro n; cases n with
    | zero => exact .cons hab t
    | succ n => exact .cons h (ih n)
theorem F2.map_left {f : γ → α} {l : List γ} {m : List β} (h : F2 (fun c b => r (f c) b) l m) : F2 r (l.map f) m := by
  induction h with
  | nil => exact .nil
  | cons h _ ih => exact .cons h ih
theorem F2.of_map_left {f : γ → α} : ∀ {l : List γ} {m : List β}, F2 r (l.map f) m → F2 (fun c b => r (f c) b) l m
  | [], _, h => by cases h; exact .nil
  | _ :: _, _, h => by cases h with | cons h t => exact .cons h (F2.of_map_left t)
theorem F2.map_right {f : γ → β} {l : List α} {m : List γ} (h : F2 (fun a c => r a (f c)) l m) : F2 r l (m.map f) := by
  induction h with
  | nil => exact .nil
  | cons h _ ih => exact .cons h ih
theorem F2.replicate {a : α} {b : β} (h : r a b) : ∀ n, F2 r (List.replicate n a) (List.replicate n b)
  | 0 => .nil
  | n + 1 => .cons h (F2.replicate h n)
theorem F2.of_left {l : List α} (h : ∀ a ∈ l, ∃ b, r a b) : ∃ m, F2 r l m := by
  induction l with
  | nil => exact ⟨[], .nil⟩
  | cons a l ih =>
    obtain ⟨b, hb⟩ := h a (by simp)
    obtain ⟨m, hm⟩ := ih fun x hx => h x (by simp [hx])
    exact ⟨b :: m, .cons hb hm⟩
end

/-! ### What stays -/
abbrev Fr := Nat → Nat → Option Value
def Fr.le (F G : Fr) : Prop := ∀ b o v, F b o = some v → G b o = some v
theorem Fr.le.refl (F : Fr) : F.le F := fun _ _ _ h => h
theorem Fr.le.trans {F G H : Fr} (h : F.le G) (k : G.le H) : F.le H := fun b o v e => k b o v (h b o v e)

/-- The unknown number, between its bounds. -/
class SymV [SymB] where
  ν : Int
  le : SymB.lo ≤ ν ∧ ν ≤ SymB.hi
variable [SymB] [SymV]

inductive RP (F : Fr) : PV → Value → Prop
  | int (k : IntKind) (n : Int) : RP F (.int k n) (.int k n)
  | sym (c : Int) : RP F (.sym c) (.int .i64 (SymV.ν + c))
  | bool (b : Bool) : RP F (.bool b) (.bool b)
  | str (s : ByteArray) : RP F (.str s.data.toList) (.string s)
  | agg {cs : List PV} {vs : Array Value} (hl : cs.length = vs.size) (ho : ∀ i (h : i < vs.size), (vs[i]).oneCell' = true)
      (h : ∀ i (h1 : i < cs.length) (h2 : i < vs.size), RP F cs[i] vs[i]) : RP F (.agg cs) (.agg vs)
  | tup {cs : List PV} {vs : Array Value} (hl : cs.length = vs.size) (h : ∀ i (h1 : i < cs.length) (h2 : i < vs.size), RP F cs[i] vs[i]) : RP F (.tup cs) (.tuple vs)
  | sl {es : List PV} {a : Option Addr} {cap : Nat} (b o k : Nat) (vs : Nat → Nat → Value) (hc : es.length ≤ cap) (ha : 0 < es.length → a = some ⟨b, o, none⟩)
      (hk : ∀ i (hi : i < es.length), (pcells es[i]).length = k) (hF : ∀ i j, i < es.length → j < k → F b (o + i * k + j) = some (vs i j) ∧ (vs i j).oneCell' = true)
      (h : ∀ i (hi : i < es.length) j (hj : j < (pcells es[i]).length), RP F (pcells es[i])[j] (vs i j)) : RP F (.sl es) (.slice a es.length cap)
  | cl {es : List PV} {a : Option Addr} (b o k : Nat) (vs : Nat → Nat → Value) (ha : 0 < es.length → a = some ⟨b, o, none⟩)
      (hk : ∀ i (hi : i < es.length), (pcells es[i]).length = k) (hF : ∀ i j, i < es.length → j < k → F b (o + i * k + j) = some (vs i j) ∧ (vs i j).oneCell' = true)
      (h : ∀ i (hi : i < es.length) j (hj : j < (pcells es[i]).length), RP F (pcells es[i])[j] (vs i j)) : RP F (.cl es) (.slice a es.length es.length)
  | nilp : RP F .nilp (.pointer none)
  | nili : RP F .nili .nilIface
  | nilf : RP F .nilf .nilFunc
  | err (t : TypeId) (v : Value) : RP F .err (.iface t v)
  | top (v : Value) : RP F .top v

theorem RP.mono {F G : Fr} (hFG : F.le G) {p : PV} {v : Value} (h : RP F p v) : RP G p v := by
  induction h with
  | int => exact .int ..
  | sym => exact .sym _
  | bool => exact .bool _
  | str => exact .str _
  | agg hl ho _ ih => exact .agg hl ho ih
  | tup hl _ ih => exact .tup hl ih
  | sl b o k vs hc ha hk hF _ ih => exact .sl b o k vs hc ha hk (fun i j hi hj => ⟨hFG _ _ _ (hF i j hi hj).1, (hF i j hi hj).2⟩) ih
  | cl b o k vs ha hk hF _ ih => exact .cl b o k vs ha hk (fun i j hi hj => ⟨hFG _ _ _ (hF i j hi hj).1, (hF i j hi hj).2⟩) ih
  | nilp => exact .nilp
  | nili => exact .nili
  | nilf => exact .nilf
  | err => exact .err ..
  | top => exact .top _

/-- Where an array of the memory lies: its block and offset (none: it has no cells), its room, an element's cells; whether the block is its own. -/
structure Bind where
  base : Option (Nat × Nat)
  cap : Nat
  k : Nat
  own : Bool
structure Bnd where
  arr : Nat → Nat → Option Bind
  map : Nat → Option Nat
structure Bnd.le (β γ : Bnd) : Prop where
  arr : ∀ g n bd, β.arr g n = some bd → γ.arr g n = some bd
  map : ∀ g b, β.map g = some b → γ.map g = some b
theorem Bnd.le.refl (β : Bnd) : β.le β := ⟨fun _ _ _ h => h, fun _ _ h => h⟩
theorem Bnd.le.trans {β γ δ : Bnd} (h : β.le γ) (k : γ.le δ) : β.le δ := ⟨fun g n b e => k.arr g n b (h.arr g n b e), fun g b e => k.map g b (h.map g b e)⟩

def SliceOf (bd : Bind) (off len : Nat) (a : Option Addr) (c : Nat) : Prop :=
  c + off = bd.cap ∧ len ≤ c ∧ (off < bd.cap → a = bd.base.map fun p => ⟨p.1, p.2 + off * bd.k, none⟩)

inductive R (β : Bnd) (F : Fr) : AV → Value → Prop
  | pv {p : PV} {v : Value} (h : RP F p v) : R β F (.pv p) v
  | agg {cs : List AV} {vs : Array Value} (hl : cs.length = vs.size) (ho : ∀ i (h : i < vs.size), (vs[i]).oneCell' = true)
      (h : ∀ i (h1 : i < cs.length) (h2 : i < vs.size), R β F cs[i] vs[i]) : R β F (.agg cs) (.agg vs)
  | tup {cs : List AV} {vs : Array Value} (hl : cs.length = vs.size) (h : ∀ i (h1 : i < cs.length) (h2 : i < vs.size), R β F cs[i] vs[i]) : R β F (.tup cs) (.tuple vs)
  | gs {g n off len : Nat} {a : Option Addr} {c : Nat} {bd : Bind} (h : β.arr g n = some bd) (hs : SliceOf bd off len a c) : R β F (.gs g n off len) (.slice a len c)
  | p {g n i off : Nat} {b o : Nat} {bd : Bind} (h : β.arr g n = some bd) (hb : bd.base = some (b, o)) : R β F (.p g n i off) (.pointer (some ⟨b, o + i * bd.k + off, none⟩))
  | ep {e : PV} {off b o : Nat} (vs : Nat → Value) (hF : ∀ j, off + j < (pcells e).length → F b (o + j) = some (vs j) ∧ (vs j).oneCell' = true)
      (h : ∀ j (hj : off + j < (pcells e).length), RP F (pcells e)[off + j] (vs j)) : R β F (.ep e off) (.pointer (some ⟨b, o, none⟩))
  | fn {f : FuncId} {cs : List AV} {vs : Array Value} (hl : cs.length = vs.size) (h : ∀ i (h1 : i < cs.length) (h2 : i < vs.size), R β F cs[i] vs[i]) : R β F (.fn f cs) (.func (.func f) #[] vs)
  | ifc {t : TypeId} {a : AV} {v : Value} (h : R β F a v) : R β F (.ifc t a) (.iface t v)
  | mp {g b : Nat} (h : β.map g = some b) : R β F (.mp g) (.map (some b))

theorem R.mono {β γ : Bnd} {F G : Fr} (hβ : β.le γ) (hF : F.le G) {a : AV} {v : Value} (h : R β F a v) : R γ G a v := by
  induction h with
  | pv h => exact .pv (h.mono hF)
  | agg hl ho _ ih => exact .agg hl ho ih
  | tup hl _ ih => exact .tup hl ih
  | gs h hs => exact .gs (hβ.arr _ _ _ h) hs
  | p h hb => exact .p (hβ.arr _ _ _ h) hb
  | ep vs hF' h => exact .ep vs (fun j hj => ⟨hF _ _ _ (hF' j hj).1, (hF' j hj).2⟩) fun j hj => (h j hj).mono hF
  | fn hl _ ih => exact .fn hl ih
  | ifc _ ih => exact .ifc ih
  | mp h => exact .mp (hβ.map _ _ h)

theorem AV.underL_iff (m : Nat) (l : List AV) : AV.underL m l = true ↔ ∀ a ∈ l, AV.under m a = true := by
  induction l with
  | nil => simp [AV.underL]
  | cons a l ih => simp [AV.underL, ih]

/-- What leads below a bound alone hangs on what is bound below it. -/
theorem R.mono_under {β γ : Bnd} {F : Fr} {m : Nat} (ha : ∀ g n bd, g < m → β.arr g n = some bd → γ.arr g n = some bd) (hm : ∀ g b, g < m → β.map g = some b → γ.map g = some b)
    {a : AV} {v : Value} (h : R β F a v) : AV.under m a = true → R γ F a v := by
  induction h with
  | pv h => exact fun _ => .pv h
  | agg hl ho _ ih => exact fun hu => .agg hl ho fun i h1 h2 => ih i h1 h2 ((AV.underL_iff m _).1 hu _ (List.getElem_mem _))
  | tup hl _ ih => exact fun hu => .tup hl fun i h1 h2 => ih i h1 h2 ((AV.underL_iff m _).1 hu _ (List.getElem_mem _))
  | gs h hs => exact fun hu => .gs (ha _ _ _ (by simpa [AV.under] using hu) h) hs
  | p h hb => exact fun hu => .p (ha _ _ _ (by simpa [AV.under] using hu) h) hb
  | ep vs hF' h => exact fun _ => .ep vs hF' h
  | fn hl _ ih => exact fun hu => .fn hl fun i h1 h2 => ih i h1 h2 ((AV.underL_iff m _).1 hu _ (List.getElem_mem _))
  | ifc _ ih => exact fun hu => .ifc (ih hu)
  | mp h => exact fun hu => .mp (hm _ _ (by simpa [AV.under] using hu) h)

theorem R.top {β : Bnd} {F : Fr} (v : Value) : R β F (.pv .top) v := .pv (.top v)

abbrev RL (β : Bnd) (F : Fr) := F2 (R β F)
abbrev RPL (F : Fr) := F2 (RP F)
theorem RL.mono {β γ : Bnd} {F G : Fr} (hβ : β.le γ) (hF : F.le G) {l : List AV} {m : List Value} (h : RL β F l m) : RL γ G l m := F2.mono h fun _ _ _ h => h.mono hβ hF
theorem RPL.mono {F G : Fr} (hF : F.le G) {l : List PV} {m : List Value} (h : RPL F l m) : RPL G l m := F2.mono h fun _ _ _ h => h.mono hF
theorem RL.of_pv {β : Bnd} {F : Fr} {l : List PV} {m : List Value} (h : RPL F l m) : RL β F (l.map .pv) m := F2.map_left (F2.mono h fun _ _ _ h => .pv h)
theorem RPL.of_RL {β : Bnd} {F : Fr} {l : List PV} {m : List Value} (h : RL β F (l.map .pv) m) : RPL F l m := F2.mono (F2.of_map_left h) fun _ _ _ h => by cases h with | pv h => exact h

/-! ### Cells -/
theorem cells_pv (p : PV) : cells (.pv p) = (pcells p).map .pv := by cases p <;> rfl
def allOne (vs : List Value) : Prop := ∀ v ∈ vs, v.oneCell' = true
theorem allOne.get {vs : List Value} (h : allOne vs) {i : Nat} {v : Value} (hv : vs[i]? = some v) : v.oneCell' = true := h v (List.mem_of_getElem? hv)

theorem F2.of_arr {α : Type} {r : α → Value → Prop} {cs : List α} {vs : Array Value} (hl : cs.length = vs.size) (h : ∀ i (h1 : i < cs.length) (h2 : i < vs.size), r cs[i] vs[i]) : F2 r cs vs.toList :=
  F2.of_get (by simpa using hl) fun i h1 h2 => by simpa using h i h1 (by simpa using h2)
theorem allOne_arr {vs : Array Value} (ho : ∀ i (h : i < vs.size), (vs[i]).oneCell' = true) : allOne vs.toList := fun v hv => by
  obtain ⟨i, hi, rfl⟩ := List.getElem_of_mem hv
  have := ho i (by simpa using hi)
  simpa using this
/-- The cells of a value that is not unknown: each is one, side by side with the model's. -/
theorem RP.cells {F : Fr} {p : PV} {v : Value} (h : RP F p v) (ht : isTop (.pv p) = false) (hu : ∀ vs, p ≠ .tup vs) : RPL F (pcells p) v.cells.toList ∧ allOne v.cells.toList := by
  cases h with
  | agg hl ho h => exact ⟨F2.of_arr hl h, allOne_arr ho⟩
  | top => simp [isTop] at ht
  | tup => exact absurd rfl (hu _)
  | int => exact ⟨.cons (.int ..) .nil, by simp [allOne, Value.cells, Value.oneCell']⟩
  | sym => exact ⟨.cons (.sym _) .nil, by simp [allOne, Value.cells, Value.oneCell']⟩
  | bool => exact ⟨.cons (.bool _) .nil, by simp [allOne, Value.cells, Value.oneCell']⟩
  | str => exact ⟨.cons (.str _) .nil, by simp [allOne, Value.cells, Value.oneCell']⟩
  | sl b o k vs hc ha hk hF h => exact ⟨.cons (.sl b o k vs hc ha hk hF h) .nil, by simp [allOne, Value.cells, Value.oneCell']⟩
  | cl b o k vs ha hk hF h => exact ⟨.cons (.cl b o k vs ha hk hF h) .nil, by simp [allOne, Value.cells, Value.oneCell']⟩
  | nilp => exact ⟨.cons .nilp .nil, by simp [allOne, Value.cells, Value.oneCell']⟩
  | nili => exact ⟨.cons .nili .nil, by simp [allOne, Value.cells, Value.oneCell']⟩
  | nilf => exact ⟨.cons .nilf .nil, by simp [allOne, Value.cells, Value.oneCell']⟩
  | err => exact ⟨.cons (.err ..) .nil, by simp [allOne, Value.cells, Value.oneCell']⟩

theorem R.cells {β : Bnd} {F : Fr} {a : AV} {v : Value} (h : R β F a v) (ht : isTop a = false) (hu : isTup a = false) : RL β F (cells a) v.cells.toList ∧ allOne v.cells.toList := by
  cases h with
  | pv h =>
    have := h.cells ht (fun vs e => by subst e; simp [isTup] at hu)
    rw [cells_pv]
    exact ⟨RL.of_pv this.1, this.2⟩
  | agg hl ho h => exact ⟨F2.of_arr hl h, allOne_arr ho⟩
  | tup => simp [isTup] at hu
  | gs h hs => exact ⟨.cons (.gs h hs) .nil, by simp [allOne, Value.cells, Value.oneCell']⟩
  | p h hb => exact ⟨.cons (.p h hb) .nil, by simp [allOne, Value.cells, Value.oneCell']⟩
  | ep vs hF h => exact ⟨.cons (.ep vs hF h) .nil, by simp [allOne, Value.cells, Value.oneCell']⟩
  | fn hl h => exact ⟨.cons (.fn hl h) .nil, by simp [allOne, Value.cells, Value.oneCell']⟩
  | ifc h => exact ⟨.cons (.ifc h) .nil, by simp [allOne, Value.cells, Value.oneCell']⟩
  | mp h => exact ⟨.cons (.mp h) .nil, by simp [allOne, Value.cells, Value.oneCell']⟩

theorem unpvs_some : ∀ {cs : List AV} {ps : List PV}, unpvs cs = some ps → cs = ps.map .pv
  | [], ps, h => by simp [unpvs] at h; simp [h]
  | .pv v :: r, ps, h => by
    simp only [unpvs] at h
    cases hr : unpvs r with
    | none => simp [hr] at h
    | some l => simp only [hr, Option.some.injEq] at h; subst h; simp [unpvs_some hr]
  | .agg _ :: _, _, h | .tup _ :: _, _, h | .gs .. :: _, _, h | .p .. :: _, _, h | .ep .. :: _, _, h | .fn .. :: _, _, h | .ifc .. :: _, _, h | .mp _ :: _, _, h => by simp [unpvs] at h

theorem R.mkAgg {β : Bnd} {F : Fr} {cs : List AV} {vs : List Value} (h : RL β F cs vs) (ho : allOne vs) : R β F (mkAgg cs) (.agg vs.toArray) := by
  unfold Vm.mkAgg
  split
  · rename_i ps hp
    have := unpvs_some hp
    subst this
    have h' := RPL.of_RL h
    exact .pv (.agg (by simpa using h'.length) (fun i hi => ho _ (by simp)) fun i h1 h2 => by simpa using h'.get i h1 (by simpa using h2))
  · exact .agg (by simpa using h.length) (fun i hi => ho _ (by simp)) fun i h1 h2 => by simpa using h.get i h1 (by simpa using h2)
theorem R.mkTup {β : Bnd} {F : Fr} {cs : List AV} {vs : List Value} (h : RL β F cs vs) : R β F (mkTup cs) (.tuple vs.toArray) := by
  unfold Vm.mkTup
  split
  · rename_i ps hp
    have := unpvs_some hp
    subst this
    have h' := RPL.of_RL h
    exact .pv (.tup (by simpa using h'.length) fun i h1 h2 => by simpa using h'.get i h1 (by simpa using h2))
  · exact .tup (by simpa using h.length) fun i h1 h2 => by simpa using h.get i h1 (by simpa using h2)

theorem RP.nrmP {F : Fr} {p : PV} {v : Value} (h : RP F p v) : RP F (nrmP p) v := by
  cases h with
  | @cl es a b o k vs ha hk hF h =>
    cases es with
    | nil => exact .cl b o k vs ha hk hF h
    | cons e es => exact .sl b o k vs (Nat.le_refl _) ha hk hF h
  | int => exact .int ..
  | sym => exact .sym _
  | bool => exact .bool _
  | str => exact .str _
  | agg hl ho h => exact .agg hl ho h
  | tup hl h => exact .tup hl h
  | sl b o k vs hc ha hk hF h => exact .sl b o k vs hc ha hk hF h
  | nilp => exact .nilp
  | nili => exact .nili
  | nilf => exact .nilf
  | err => exact .err ..
  | top => exact .top _
theorem R.slOf {β : Bnd} {F : Fr} {es : List PV} {v : Value} (h : R β F (.pv (.cl es)) v) : R β F (.pv (.sl es)) v := by
  cases h with
  | pv h => cases h with
    | cl b o k vs ha hk hF h => exact .pv (.sl b o k vs (Nat.le_refl _) ha hk hF h)
theorem R.nrm {β : Bnd} {F : Fr} {a : AV} {v : Value} (h : R β F a v) : R β F (nrm a) v := by
  cases h with
  | pv h => exact .pv h.nrmP
  | agg hl ho h => exact .agg hl ho h
  | tup hl h => exact .tup hl h
  | gs h hs => exact .gs h hs
  | p h hb => exact .p h hb
  | ep vs hF h => exact .ep vs hF h
  | fn hl h => exact .fn hl h
  | ifc h => exact .ifc h
  | mp h => exact .mp h
theorem nrm_isTop (a : AV) : isTop (nrm a) = isTop a := by cases a with | pv p => (cases p with | cl es => cases es <;> rfl | _ => rfl) | _ => rfl
theorem nrm_odd (a : AV) : odd (nrm a) = odd a := by cases a with | pv p => (cases p with | cl es => cases es <;> rfl | _ => rfl) | _ => rfl
theorem R.cells_odd {β : Bnd} {F : Fr} {a : AV} {v : Value} (h : R β F a v) (ho : odd a = false) : RL β F (Vm.cells a) v.cells.toList ∧ allOne v.cells.toList := by
  simp only [odd, Bool.or_eq_false_iff] at ho
  exact h.cells ho.1 ho.2
theorem cells_one {v : Value} (h : v.oneCell' = true) : v.cells = #[v] := by cases v <;> simp_all [Value.cells, Value.oneCell']
/-- What lies in one cell is no struct. -/
theorem RP.cells_one {F : Fr} {p : PV} {v : Value} (h : RP F p v) (ho : v.oneCell' = true) : pcells p = [p] := by cases h <;> first | rfl | simp [Value.oneCell'] at ho
theorem R.cells_one {β : Bnd} {F : Fr} {a : AV} {v : Value} (h : R β F a v) (ho : v.oneCell' = true) : Vm.cells a = [a] := by
  cases h with
  | pv h => rw [cells_pv, h.cells_one ho]; rfl
  | agg => simp [Value.oneCell'] at ho
  | _ => rfl
theorem nrm_isTup (a : AV) : isTup (nrm a) = isTup a := by cases a with | pv p => (cases p with | cl es => cases es <;> rfl | _ => rfl) | _ => rfl
theorem R.isAgg {β : Bnd} {F : Fr} {a : AV} {v : Value} (h : R β F a v) (ha : isAgg a = true) : ∃ vs, v = .agg vs := by
  cases h with
  | pv h => cases h <;> simp [Vm.isAgg] at ha; exact ⟨_, rfl⟩
  | agg => exact ⟨_, rfl⟩
  | _ => simp [Vm.isAgg] at ha
end Go.Vm
