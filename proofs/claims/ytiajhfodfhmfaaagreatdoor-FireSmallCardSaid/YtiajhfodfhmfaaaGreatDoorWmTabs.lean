/- The tables of a program: what is looked at, once and for all, in the kernel. -/
import Derived.Test.YtiajhfodfhmfaaaGreatDoorWmRun
import Derived.Laws.StructEq
import Derived.ChangeKeysEq
set_option linter.unusedVariables false
set_option linter.unusedSimpArgs false
set_option linter.unusedSectionVars false
namespace Go.Vm
variable [SymB] [SymV]

/-! ### Types -/
def zOk : PV → Value → Bool
  | .int k n, .int k' n' => k == k' && n == n'
  | .bool a, .bool b => a == b
  | .str [], .string s => s.data.toList.isEmpty
  | .nilp, .pointer none => true
  | .cl [], .slice _ 0 0 => true
  | .nili, .nilIface => true
  | .nilf, .nilFunc => true
  | .top, _ => true
  | _, _ => false
theorem zOk_sound {F : Fr} {p : PV} {v : Value} (h : zOk p v = true) : RP F p v := by
  unfold zOk at h
  split at h
  · simp only [Bool.and_eq_true, beq_iff_eq] at h
    obtain ⟨rfl, rfl⟩ := h
    exact .int ..
  · simp only [beq_iff_eq] at h
    subst h
    exact .bool _
  · rename_i s
    have : s.data.toList = [] := by simpa using h
    rw [← this]
    exact .str s
  · exact .nilp
  · exact .cl (es := []) 0 0 0 (fun _ _ => undef) (fun h => by simp at h) (fun i h => by simp at h) (fun i j h => by simp at h) fun i h => by simp at h
  · exact .nili
  · exact .nilf
  · exact .top _
  · simp at h
def zsOk : List PV → List Value → Bool
  | [], [] => true
  | p :: ps, v :: vs => zOk p v && v.oneCell' && zsOk ps vs
  | _, _ => false
theorem zsOk_sound {F : Fr} : ∀ {ps : List PV} {vs : List Value}, zsOk ps vs = true → RPL F ps vs ∧ allOne vs
  | [], [], _ => ⟨.nil, fun _ h => by simp at h⟩
  | p :: ps, v :: vs, h => by
    simp only [zsOk, Bool.and_eq_true] at h
    obtain ⟨h1, h2⟩ := zsOk_sound (F := F) h.2
    refine ⟨.cons (zOk_sound h.1.1) h1, fun x hx => ?_⟩
    rcases List.mem_cons.1 hx with rfl | hx
    · exact h.1.2
    · exact h2 _ hx

def fieldsOk (P : Program) : List FI → List Field → Bool
  | [], [] => true
  | f :: fs, g :: gs => g.offset == f.off && (match P.info? g.type with | some i => i.size == f.size && i.size != 0 | none => false) && (match P.underlying g.type with | some d => d.isRow == f.agg | none => false) && fieldsOk P fs gs
  | _, _ => false
theorem fieldsOk_sound {P : Program} : ∀ {fs : List FI} {gs : List Field}, fieldsOk P fs gs = true →
    F2 (fun (f : FI) (g : Field) => g.offset = f.off ∧ (∃ i, P.info? g.type = some i ∧ i.size = f.size ∧ i.size ≠ 0) ∧ ∃ d', P.underlying g.type = some d' ∧ d'.isRow = f.agg) fs gs
  | [], [], _ => .nil
  | f :: fs, g :: gs, h => by
    simp only [fieldsOk, Bool.and_eq_true] at h
    obtain ⟨⟨⟨h1, h2⟩, h3⟩, h4⟩ := h
    refine .cons ⟨by simpa using h1, ?_, ?_⟩ (fieldsOk_sound h4)
    · split at h2
      · rename_i i hi
        simp only [Bool.and_eq_true, beq_iff_eq, bne_iff_ne] at h2
        exact ⟨i, hi, h2⟩
      · simp at h2
    · split at h3
      · rename_i d hd
        exact ⟨d, hd, by simpa using h3⟩
      · simp at h3

def kindOk (P : Program) : TK → TypeDesc → Bool
  | .int k, .int k' => k == k'
  | .bool, .bool => true
  | .str, .string => true
  | .slice e, .slice e' => e == e'
  | .arr n e, .array n' e' => n == n' && e == e'
  | .struct fs, .struct gs => fieldsOk P fs gs.toList
  | .map k e, .map k' e' => k == k' && e == e' && (match P.underlying k with | some .string => true | some (.int _) => true | _ => false)
  | .ptr, .pointer _ => true
  | .iface, .interface _ => true
  | .other, d => !d.isRow
  | _, _ => false
theorem kindOk_sound {P : Program} {k : TK} {d : TypeDesc} (h : kindOk P k d = true) : KindOk P k d := by
  unfold kindOk at h
  split at h
  · simp only [beq_iff_eq] at h; subst h; rfl
  · rfl
  · rfl
  · simp only [beq_iff_eq] at h; subst h; rfl
  · simp only [Bool.and_eq_true, beq_iff_eq] at h; obtain ⟨rfl, rfl⟩ := h; rfl
  · exact ⟨_, rfl, fieldsOk_sound h⟩
  · simp only [Bool.and_eq_true, beq_iff_eq] at h
    obtain ⟨⟨rfl, rfl⟩, h⟩ := h
    refine ⟨rfl, ?_⟩
    split at h
    · rename_i h1; exact .inl h1
    · rename_i q h1; exact .inr ⟨q, h1⟩
    · simp at h
  · exact ⟨_, rfl⟩
  · exact ⟨_, rfl⟩
  · simp only [KindOk]; simpa using h
  · simp at h

/-- Structs of whole numbers, bools, strings and such structs, their cells one behind the other; and their zeros. -/
def flatFs (P : Program) (one : TypeId → List PV → Bool) : Nat → List Field → List PV → Bool
  | _, [], [] => true
  | n, g :: gs, zs => g.offset == n && g.name != "_" && (zs.take (P.cellsOf g.type)).length == P.cellsOf g.type && one g.type (zs.take (P.cellsOf g.type)) && flatFs P one (n + P.cellsOf g.type) gs (zs.drop (P.cellsOf g.type))
  | _, _, _ => false
def flatT (P : Program) : Nat → TypeId → List PV → Bool
  | 0, _, _ => false
  | d + 1, t, zs => (P.info? t).isSome && match P.underlying t, zs with
    | some .string, [.str _] => true
    | some .bool, [.bool _] => true
    | some (.int _), [.int _ _] => true
    | some (.struct fs), zs => !P.stoodInHeld t && flatFs P (flatT P d) 0 fs.toList zs
    | _, _ => false

theorem alike_cons {z : PV} {zs xs : List PV} (h : alike (z :: zs) xs = true) : ∃ x r, xs = x :: r ∧ alike zs r = true ∧ ((∃ k a b, z = .int k a ∧ x = .int k b) ∨ (∃ a b, z = .int .i64 a ∧ x = .sym b) ∨ (∃ a b, z = .bool a ∧ x = .bool b) ∨ ∃ a b, z = .str a ∧ x = .str b) := by
  cases xs with
  | nil => exact absurd h (by cases z <;> simp [alike])
  | cons x r =>
    refine ⟨x, r, rfl, ?_⟩
    cases z with
    | int k n => cases x with
      | int k' n' =>
        have h2 : (k == k' && alike zs r) = true := by cases k <;> exact h
        simp only [Bool.and_eq_true, beq_iff_eq] at h2
        obtain ⟨rfl, h3⟩ := h2
        exact ⟨h3, .inl ⟨_, _, _, rfl, rfl⟩⟩
      | sym c => cases k with
        | i64 => exact ⟨h, .inr (.inl ⟨_, _, rfl, rfl⟩)⟩
        | _ => cases h
      | _ => cases k <;> cases h
    | bool k => cases x with
      | bool k' => exact ⟨h, .inr (.inr (.inl ⟨_, _, rfl, rfl⟩))⟩
      | _ => cases h
    | str k => cases x with
      | str k' => exact ⟨h, .inr (.inr (.inr ⟨_, _, rfl, rfl⟩))⟩
      | _ => cases h
    | _ => cases h
theorem alike_nil {xs : List PV} (h : alike [] xs = true) : xs = [] := by
  cases xs with
  | nil => rfl
  | cons a l => simp [alike] at h
theorem alike_split : ∀ {zs xs ys r q : List PV} {b : Bool}, alike zs xs = true → alike zs ys = true → eqCells (xs ++ r) (ys ++ q) = some b → ∃ c, eqCells xs ys = some c ∧ (c = true → eqCells r q = some b) ∧ (c = false → b = false)
  | [], xs, ys, r, q, b, hx, hy, h => by
    rw [alike_nil hx, alike_nil hy] at h ⊢
    exact ⟨true, rfl, fun _ => h, fun h => by cases h⟩
  | z :: zs, xs, ys, r, q, b, hx, hy, h => by
    obtain ⟨x, xr, rfl, hx', kx⟩ := alike_cons hx
    obtain ⟨y, yr, rfl, hy', ky⟩ := alike_cons hy
    have step : ∀ (t : Bool), eqCells (x :: xr) (y :: yr) = (if t = true then eqCells xr yr else some false) → eqCells (x :: (xr ++ r)) (y :: (yr ++ q)) = (if t = true then eqCells (xr ++ r) (yr ++ q) else some false) → ∃ c, eqCells (x :: xr) (y :: yr) = some c ∧ (c = true → eqCells r q = some b) ∧ (c = false → b = false) := by
      intro t e1 e2
      have h : eqCells (x :: (xr ++ r)) (y :: (yr ++ q)) = some b := h
      rw [e2] at h
      cases t with
      | true =>
        obtain ⟨c, k1, k2, k3⟩ := alike_split hx' hy' h
        exact ⟨c, by rw [e1]; exact k1, k2, k3⟩
      | false =>
        simp only [Bool.false_eq_true, if_false, Option.some.injEq] at h e1
        exact ⟨false, e1, fun h => (by cases h), fun _ => h.symm⟩
    rcases kx with ⟨k, a, x1, rfl, rfl⟩ | ⟨a, x1, rfl, rfl⟩ | ⟨a, x1, rfl, rfl⟩ | ⟨a, x1, rfl, rfl⟩ <;> rcases ky with ⟨k', a', y1, e, rfl⟩ | ⟨a', y1, e, rfl⟩ | ⟨a', y1, e, rfl⟩ | ⟨a', y1, e, rfl⟩ <;> cases e
    all_goals first
      | exact step (x1 == y1) rfl rfl
      | (exact absurd h (by simp [eqCells]))
theorem alike_length : ∀ {zs xs : List PV}, alike zs xs = true → xs.length = zs.length
  | [], xs, h => by rw [alike_nil h]
  | z :: zs, xs, h => by
    obtain ⟨x, xr, rfl, h', _⟩ := alike_cons h
    simp [alike_length h']
theorem alike_take : ∀ {zs xs : List PV} (k : Nat), alike zs xs = true → alike (zs.take k) (xs.take k) = true ∧ alike (zs.drop k) (xs.drop k) = true
  | zs, xs, 0, h => by simp [alike, h]
  | [], xs, k + 1, h => by rw [alike_nil h]; simp [alike]
  | z :: zs, xs, k + 1, h => by
    obtain ⟨x, xr, rfl, h', kx⟩ := alike_cons h
    have := alike_take k h'
    rcases kx with ⟨k, a, x1, rfl, rfl⟩ | ⟨a, x1, rfl, rfl⟩ | ⟨a, x1, rfl, rfl⟩ | ⟨a, x1, rfl, rfl⟩ <;> simp [alike, this]

/-- What 'part' gives. -/
def partV (P : Program) (t : TypeId) (vs : Array Value) (n : Nat) : Value := match P.underlying t with
  | some (.struct _) => .agg (vs.extract n (n + P.cellsOf t))
  | _ => vs.getD n undef

theorem eqFields_flat {P : Program} {F : Fr} (w : World) (D : Nat) (one : TypeId → List PV → Bool)
    (H : ∀ t zs, one t zs = true → zs.length = P.cellsOf t → ∀ (n : Nat) (xs ys : List PV) (vs us : Array Value) (c : Bool), alike zs ((xs.drop n).take (P.cellsOf t)) = true → alike zs ((ys.drop n).take (P.cellsOf t)) = true → eqCells ((xs.drop n).take (P.cellsOf t)) ((ys.drop n).take (P.cellsOf t)) = some c → RPL F xs vs.toList → RPL F ys us.toList →
      ∃ v u, (part t vs n).run P w = .ok v w ∧ (part t us n).run P w = .ok u w ∧ (Op.equalIn D t v u).run P w = .ok c w) :
    ∀ (gs : List Field) (n : Nat) (zs xs ys : List PV) (vs us : Array Value) (b : Bool), flatFs P one n gs zs = true → alike zs (xs.drop n) = true → alike zs (ys.drop n) = true →
    eqCells (xs.drop n) (ys.drop n) = some b → RPL F xs vs.toList → RPL F ys us.toList → (Op.eqFields D vs us gs).run P w = .ok b w
  | [], n, [], xs, ys, vs, us, b, _, hx, hy, h, _, _ => by
    cases h1 : xs.drop n with
    | cons a l => rw [h1] at hx; simp [alike] at hx
    | nil =>
      cases h2 : ys.drop n with
      | cons a l => rw [h2] at hy; simp [alike] at hy
      | nil =>
        rw [h1, h2] at h
        simp only [eqCells, Option.some.injEq] at h
        subst h
        simp [Op.eqFields]
  | [], n, z :: zs, xs, ys, vs, us, b, hf, hx, hy, h, _, _ => by simp [flatFs] at hf
  | g :: gs, n, zs, xs, ys, vs, us, b, hf, hx, hy, h, hX, hY => by
    simp only [flatFs, Bool.and_eq_true, beq_iff_eq] at hf
    obtain ⟨⟨⟨⟨h1, h2⟩, h3⟩, h4⟩, h5⟩ := hf
    have ax := alike_take (P.cellsOf g.type) hx
    have ay := alike_take (P.cellsOf g.type) hy
    obtain ⟨c, k1, k2, k3⟩ := alike_split (r := (xs.drop n).drop (P.cellsOf g.type)) (q := (ys.drop n).drop (P.cellsOf g.type)) (b := b) ax.1 ay.1 (by rw [List.take_append_drop, List.take_append_drop]; exact h)
    obtain ⟨v, u, hpx, hpy, hc⟩ := H g.type _ h4 h3 n xs ys vs us c ax.1 ay.1 k1 hX hY
    have hnm : g.name ≠ "_" := by simpa using h2
    rw [← h1] at hpx hpy
    simp only [Op.eqFields, if_pos hnm, Sem.run_bind, hpx, hpy, hc, Result.andThen_ok, Sem.run_ite]
    have a2 := ax.2
    have a3 := ay.2
    rw [List.drop_drop] at a2 a3
    rw [List.drop_drop, List.drop_drop] at k2
    cases c with
    | true =>
      simp only [Bool.not_true, Bool.false_eq_true, if_false]
      exact eqFields_flat w D one H gs _ _ xs ys vs us b h5 a2 a3 (k2 rfl) hX hY
    | false =>
      simp [k3 rfl]

theorem RPL.extract {F : Fr} {xs : List PV} {vs : Array Value} (h : RPL F xs vs.toList) (n k : Nat) : RPL F ((xs.drop n).take k) (vs.extract n (n + k)).toList := by
  have : (vs.extract n (n + k)).toList = (vs.toList.drop n).take k := by
    simp [List.extract, Nat.add_sub_cancel_left]
  rw [this]
  exact F2.take (F2.drop h n) k

theorem equalIn_flat {P : Program} {F : Fr} (w : World) (D : Nat) : ∀ (d : Nat) t zs, flatT P d t zs = true → zs.length = P.cellsOf t → ∀ (n : Nat) (xs ys : List PV) (vs us : Array Value) (c : Bool), alike zs ((xs.drop n).take (P.cellsOf t)) = true → alike zs ((ys.drop n).take (P.cellsOf t)) = true → eqCells ((xs.drop n).take (P.cellsOf t)) ((ys.drop n).take (P.cellsOf t)) = some c → RPL F xs vs.toList → RPL F ys us.toList →
      ∃ v u, (part t vs n).run P w = .ok v w ∧ (part t us n).run P w = .ok u w ∧ (Op.equalIn (D + d) t v u).run P w = .ok c w
  | 0, _, _, h, _, _, _, _, _, _, _, _, _, _, _, _ => by simp [flatT] at h
  | d + 1, t, zs, h, hlen, n, xs, ys, vs, us, c, hx, hy, hc, hX, hY => by
    simp only [flatT, Bool.and_eq_true] at h
    obtain ⟨hi, h⟩ := h
    obtain ⟨i, hi⟩ := Option.isSome_iff_exists.1 hi
    have scalar : ∀ z, zs = [z] → P.plainKey t = true → (∀ x y v u, alike [z] [x] = true → alike [z] [y] = true → eqCells [x] [y] = some c → RP F x v → RP F y u → (Op.equalIn (D + (d + 1)) t v u).run P w = .ok c w) →
        ∃ v u, (part t vs n).run P w = .ok v w ∧ (part t us n).run P w = .ok u w ∧ (Op.equalIn (D + (d + 1)) t v u).run P w = .ok c w := by
      intro z hz hp k
      subst hz
      simp only [List.length_singleton] at hlen
      rw [← hlen] at hx hy hc
      have one : ∀ (l : List PV), alike [z] ((l.drop n).take 1) = true → ∃ x, l[n]? = some x ∧ (l.drop n).take 1 = [x] := by
        intro l hl
        have := alike_length hl
        cases hd : l.drop n with
        | nil => rw [hd] at this; simp at this
        | cons x r =>
          refine ⟨x, ?_, by simp⟩
          have : (l.drop n)[0]? = some x := by rw [hd]; rfl
          simpa using this
      obtain ⟨x, x1, x2⟩ := one xs hx
      obtain ⟨y, y1, y2⟩ := one ys hy
      rw [x2] at hx hc
      rw [y2] at hy hc
      obtain ⟨v, hv, rv⟩ := F2.get? hX x1
      obtain ⟨u, hu, ru⟩ := F2.get? hY y1
      rw [Array.getElem?_toList] at hv hu
      exact ⟨v, u, Go.run_part_plain w hp hv, Go.run_part_plain w hp hu, k x y v u hx hy hc rv ru⟩
    split at h
    · rename_i z ht
      refine scalar _ rfl (by simp [Program.plainKey, ht]) fun x y v u ax ay e rv ru => ?_
      cases x <;> simp only [alike, Bool.false_eq_true] at ax
      cases y <;> simp only [alike, Bool.false_eq_true] at ay
      cases rv; cases ru
      rw [← Nat.add_assoc, Go.run_equalIn_string w _ t _ _ ht, ByteArray.toList_eq, ByteArray.toList_eq]
      simp only [eqCells] at e
      split at e <;> simp_all
    · rename_i z ht
      refine scalar _ rfl (by simp [Program.plainKey, ht]) fun x y v u ax ay e rv ru => ?_
      cases x <;> simp only [alike, Bool.false_eq_true] at ax
      cases y <;> simp only [alike, Bool.false_eq_true] at ay
      cases rv; cases ru
      rw [← Nat.add_assoc, Go.run_equalIn_bool' w _ t _ _ ht]
      simp only [eqCells] at e
      split at e <;> simp_all
    · rename_i q k z ht
      refine scalar _ rfl (by simp [Program.plainKey, ht]) fun x y v u ax ay e rv ru => ?_
      rw [← Nat.add_assoc]
      obtain ⟨x', rx, ex, _, kx⟩ := alike_cons ax
      obtain ⟨y', ry, ey, _, ky⟩ := alike_cons ay
      cases ex
      cases ey
      rcases kx with ⟨k1, a, x1, e1, rfl⟩ | ⟨a, x1, e1, rfl⟩ | ⟨a, x1, e1, rfl⟩ | ⟨a, x1, e1, rfl⟩ <;> cases e1 <;> rcases ky with ⟨k2, a2, y1, e2, rfl⟩ | ⟨a2, y1, e2, rfl⟩ | ⟨a2, y1, e2, rfl⟩ | ⟨a2, y1, e2, rfl⟩ <;> cases e2
      · cases rv; cases ru
        rw [Go.run_equalIn_int w _ t _ _ _ _ ht]
        simp only [eqCells] at e
        split at e <;> simp_all
      · cases e
      · cases e
      · cases rv; cases ru
        rw [Go.run_equalIn_int w _ t _ _ _ _ ht]
        have e3 : (if x1 == y1 then some true else some false) = some c := e
        by_cases h12 : x1 = y1
        · subst h12
          simp only [beq_self_eq_true, if_true, Option.some.injEq] at e3
          subst e3
          simp
        · have h13 : ¬ SymV.ν + x1 = SymV.ν + y1 := by omega
          rw [beq_eq_false_iff_ne.2 h12] at e3
          simp only [Bool.false_eq_true, if_false, Option.some.injEq] at e3
          subst e3
          rw [beq_eq_false_iff_ne.2 h13]
    · rename_i fs ht
      simp only [Bool.and_eq_true] at h
      obtain ⟨h1, h2⟩ := h
      have hf : P.fieldsOf t = fs := by simp [Program.fieldsOf, ht]
      refine ⟨.agg (vs.extract n (n + P.cellsOf t)), .agg (us.extract n (n + P.cellsOf t)), by simp [part, Go.isAgg, run_underlying ht, Go.run_sizeOf w hi], by simp [part, Go.isAgg, run_underlying ht, Go.run_sizeOf w hi], ?_⟩
      rw [← Nat.add_assoc, Go.run_equalIn_agg w _ t _ _ (by rw [hf]; exact ht) (by simpa using h1), hf]
      exact eqFields_flat (F := F) w (D + d) (flatT P d) (fun t zs a1 a2 => equalIn_flat w D d t zs a1 a2) fs.toList 0 _ _ _ _ _ c h2 (by simpa using hx) (by simpa using hy) (by simpa using hc) (RPL.extract hX n _) (RPL.extract hY n _)
    · simp at h

def methsOk (P : Program) (t : TypeId) (ms : Array Method) (l : List (String × FuncId)) : Bool :=
  l.isEmpty || (match P.underlying t with | some (.pointer _) => true | _ => false) && l.all fun (nm, f) => match ms.find? (·.name == nm) with
    | some m => m.path.isEmpty && (match m.func with | some (g, p) => g == f && p | none => false)
    | none => false

def tyOk (P : Program) (t : TypeId) (ti : TI) : Bool :=
  (match P.info? t with
    | some i => i.size == ti.size && i.bytes == ti.bytes && (match i.zero with
        | some z => zsOk ti.zero z.cells.toList && z.cells.size == ti.size && (match z with | .agg _ => ti.k.agg | _ => !ti.k.agg && z.oneCell')
        | none => false) && methsOk P t i.methods ti.meths
    | none => false) &&
  (match P.underlying t with
    | some d => kindOk P ti.k d
    | none => false) &&
  (!ti.eq || (match P.underlying t with | some (.struct fs) => flatFs P (flatT P 5) 0 fs.toList ti.zero | _ => false) && !P.stoodInHeld t && !P.eqGuardType P.depth t)

theorem lookup_mem {l : List (String × FuncId)} {nm : String} {f : FuncId} (h : l.lookup nm = some f) : (nm, f) ∈ l := by
  induction l with
  | nil => simp at h
  | cons a l ih =>
    obtain ⟨x, g⟩ := a
    simp only [List.lookup] at h
    split at h
    · rename_i he
      simp only [beq_iff_eq] at he
      simp only [Option.some.injEq] at h
      subst he; subst h
      exact List.mem_cons_self
    · exact List.mem_cons_of_mem _ (ih h)

theorem tyOk_sound {P : Program} {t : TypeId} {ti : TI} (h : tyOk P t ti = true) : TyOk P t ti := by
  unfold tyOk at h
  simp only [Bool.and_eq_true] at h
  obtain ⟨⟨h1, h2⟩, h3⟩ := h
  split at h1
  case h_2 => simp at h1
  rename_i i hi
  simp only [Bool.and_eq_true, beq_iff_eq] at h1
  obtain ⟨⟨⟨hs, hb⟩, hz⟩, hm⟩ := h1
  split at hz
  case h_2 => simp at hz
  rename_i z hzz
  simp only [Bool.and_eq_true, beq_iff_eq] at hz
  obtain ⟨⟨z1, z2⟩, z3⟩ := hz
  refine ⟨⟨i, z, hi, hs, hb, hzz, fun F => (zsOk_sound z1).1, (zsOk_sound (F := fun _ _ => none) z1).2, z2, fun ha => ?_, fun ha => ?_⟩, ?_, fun he F xs ys vs us b w hx hy hc hX hY => ?_, fun nm f hl v w n => ?_⟩
  · split at z3
    · rfl
    · simp [ha] at z3
  · split at z3
    · simp [ha] at z3
    · simp only [Bool.and_eq_true] at z3; exact z3.2
  · split at h2
    · rename_i d hd
      exact ⟨d, hd, kindOk_sound h2⟩
    · simp at h2
  · rw [he] at h3
    simp only [Bool.not_true, Bool.false_or, Bool.and_eq_true] at h3
    obtain ⟨⟨h4, h5⟩, h6⟩ := h3
    split at h4
    · rename_i fs hd
      have hf : P.fieldsOf t = fs := by simp [Program.fieldsOf, hd]
      have E : (Op.equalIn 10000 t (.agg vs) (.agg us)).run P w = .ok b w := by
        rw [Go.run_equalIn_agg w 9999 t vs us (by rw [hf]; exact hd) (by simpa using h5), hf]
        exact eqFields_flat (F := F) w 9999 (flatT P 5) (fun t zs a1 a2 => equalIn_flat w 9994 5 t zs a1 a2) fs.toList 0 ti.zero xs ys vs us b h4 (by simpa using hx) (by simpa using hy) (by simpa using hc) hX hY
      refine ⟨by simpa [Op.equal, Op.maxDepth] using E, fun x y => ⟨Go.run_eqGuard_agg w .eql t x y vs us (by simpa using h6), Go.run_eqGuard_agg w .neq t x y vs us (by simpa using h6)⟩⟩
    · simp at h4
  · have hmem := lookup_mem hl
    unfold methsOk at hm
    have hne : ti.meths.isEmpty = false := by cases hq : ti.meths with | nil => rw [hq] at hmem; simp at hmem | cons => rfl
    rw [hne] at hm
    simp only [Bool.false_or, Bool.and_eq_true] at hm
    obtain ⟨m1, m2⟩ := hm
    have m3 := List.all_eq_true.1 m2 _ hmem
    simp only at m3
    split at m3
    case h_2 => simp at m3
    rename_i m hfind
    simp only [Bool.and_eq_true] at m3
    obtain ⟨m4, m5⟩ := m3
    split at m5
    case h_2 => simp at m5
    rename_i g p hfun
    simp only [Bool.and_eq_true, beq_iff_eq] at m5
    obtain ⟨rfl, rfl⟩ := m5
    have hpath : m.path.toList = [] := by simpa using m4
    split at m1
    case h_2 => simp at m1
    rename_i e hun
    simp [method, Go.run_typeInfo w hi, hfind, hpath, follow, hfun, receiverAt, run_underlying hun, Place.get]

theorem tabsTy_of {P : Program} {tb : Tabs} (h : ∀ t ti, tb.ty t = some ti → tyOk P t ti = true) : TabsTy P tb := ⟨fun t ti ht => tyOk_sound (h t ti ht)⟩

/-! ### All that lie below a number -/
def allTo (p : Nat → Bool) : Nat → Bool
  | 0 => true
  | n + 1 => p n && allTo p n
theorem allTo_spec {p : Nat → Bool} : ∀ {n : Nat}, allTo p n = true → ∀ i, i < n → p i = true
  | n + 1, h, i, hi => by
    simp only [allTo, Bool.and_eq_true] at h
    rcases Nat.lt_succ_iff_lt_or_eq.1 hi with hi | rfl
    · exact allTo_spec h.2 i hi
    · exact h.1
end Go.Vm
