/- Regions that have no whole order: the whole region. -/
import Derived.Test.YtiajhfodfhmfaaaGreatDoorWmReg6
set_option linter.unusedVariables false
set_option linter.unusedSimpArgs false
set_option linter.unusedSectionVars false
namespace Go.Vm
variable [SymB] [SymV]

theorem countP_less {α : Type} {p q : α → Bool} : ∀ {l : List α}, (∀ x ∈ l, q x = true → p x = true) → (∃ x ∈ l, p x = true ∧ q x = false) → l.countP q < l.countP p
  | [], _, ⟨x, hx, _⟩ => by simp at hx
  | y :: l, h, ⟨x, hx, h1, h2⟩ => by
    have hle : l.countP q ≤ l.countP p := by
      refine List.countP_mono_left fun z hz hq => h z (by simp [hz]) hq
    rcases List.mem_cons.1 hx with rfl | hx
    · rw [List.countP_cons_of_pos h1, List.countP_cons_of_neg (by rw [h2]; simp)]
      omega
    · have ih := countP_less (p := p) (q := q) (l := l) (fun z hz => h z (by simp [hz])) ⟨x, hx, h1, h2⟩
      by_cases hq : q y = true
      · rw [List.countP_cons_of_pos (h y (by simp) hq), List.countP_cons_of_pos hq]; omega
      · by_cases hp : p y = true
        · rw [List.countP_cons_of_pos hp, List.countP_cons_of_neg hq]; omega
        · rw [List.countP_cons_of_neg hp, List.countP_cons_of_neg hq]; omega

def left (ops : Array Oper) (D : Array Bool) : Nat := (List.range ops.size).countP fun i => !D.getD i false

theorem Sim.more {β : Bnd} {F : Fr} {M : Mem} {w : World} (S : Sim β F M w) (obs : Mem) : Sim β F (M ++ obs) w ∧ ExtW β F M w β F (M ++ obs) w := by
  have hM : ∀ g n bd ob, β.arr g n = some bd → (M ++ obs)[g]? = some ob → M[g]? = some ob := fun g n bd ob hb h => by
    rwa [List.getElem?_append_left (S.dom hb)] at h
  have hmap : ∀ g b, β.map g = some b → g < M.length := fun g b h => by
    obtain ⟨es, h1⟩ := S.vem _ _ h; exact (List.getElem?_eq_some_iff.1 h1).1
  have hown : ∀ g b, OwnA β (M ++ obs) g b → OwnA β M g b := fun g b ⟨es, fz, bd, h1, h2, h3, h4⟩ => ⟨es, fz, bd, hM _ _ _ _ h2 h1, h2, h3, h4⟩
  refine ⟨⟨S.frz, fun g es fz bd hg hb => S.arr g es fz bd (hM _ _ _ _ hb hg) hb, fun g es b hg hb => S.map g es b (by rwa [List.getElem?_append_left (hmap _ _ hb)] at hg) hb, fun g n bd h => ?_, fun g b h => ?_, fun g g' b h h' => S.inj g g' b (hown _ _ h) (hown _ _ h'), S.inm⟩,
    ⟨.refl _, .refl _, rfl, rfl, rfl, Nat.le_refl _, fun _ _ _ => rfl, fun _ _ h k => absurd h k, fun b h => ?_, by simp⟩⟩
  · rw [List.getElem?_append_left (S.dom h)]; exact S.ver g n bd h
  · rw [List.getElem?_append_left (hmap _ _ h)]; exact S.vem g b h
  · rcases h with ⟨g, h⟩ | ⟨g, es, h1, h2⟩
    · exact .inr (.inl ⟨g, hown _ _ h⟩)
    · exact .inr (.inr ⟨g, es, by rwa [List.getElem?_append_left (hmap _ _ h2)] at h1, h2⟩)

section
variable {P : Program} {tb : Tabs} (H : Sound P tb) {fi : FnI} {run : CallF} (hrun : RunOk P run) {ops : Array Oper} {c : Chk} {A : List (List Nat)} {C : Nat → St} (G : Reg tb fi run ops c A C)
include H G

theorem Reg.all_listed {D : Array Bool} (hsz : D.size = ops.size) (hr : Region.ready .any ops D = []) : ∀ i, i < ops.size → D.getD i false = true := by
  intro i
  induction i using Nat.strongRecOn with
  | _ i ih =>
    intro hi
    cases hd : D.getD i false with
    | true => rfl
    | false =>
      exfalso
      have ho : ops[i]? = some (ops[i]'hi) := Array.getElem?_eq_getElem hi
      have : i ∈ Region.ready .any ops D := mem_ready.2 ⟨by
        have hi' : i < D.size := by omega
        simp only [Array.getD, hi', dif_pos] at hd ⊢
        exact hd, _, ho, fun e he hb => ih e.on (G.anc1 i _ ho e he hb) (by have := G.anc1 i _ ho e he hb; omega)⟩
      rw [hr] at this; simp at this

include hrun in
theorem Reg.any {Q : Exit → Act → World → Prop} {β0 : Bnd} {F0 : Fr} {w0 : World} {d0 : List Deferred} (hQ : ∀ β' F' a' w', Ext β0 F0 (C 0).m w0 β' F' (C (c.fs.length + (restOf ops c.fs).length)).m w' → Sim β' F' (C (c.fs.length + (restOf ops c.fs).length)).m w' → RL β' F' (C (c.fs.length + (restOf ops c.fs).length)).t a'.tmps.toList → a'.defers = d0 → Q .normal a' w') :
    ∀ (fuel : Nat) {D : Array Bool} {a : Act} {w : World} {β : Bnd} {F : Fr} {T : List AV} {f : Nat}, InvAt tb fi ops c C β0 F0 w0 D a w β F T f → a.defers = d0 → left ops D ≤ fuel → wpAny P .any ops Q fuel D a w := by
  have done : ∀ {D : Array Bool} {a : Act} {w : World} {β : Bnd} {F : Fr} {T : List AV} {f : Nat}, InvAt tb fi ops c C β0 F0 w0 D a w β F T f → a.defers = d0 → Region.ready .any ops D = [] → Q .normal a w := by
    intro D a w β F T f I hd hr
    have hall := Reg.all_listed H G I.size hr
    have hf : f = (restOf ops c.fs).length := by
      rcases Nat.lt_or_ge f (restOf ops c.fs).length with h | h
      · obtain ⟨hE, hu⟩ := I.fE h
        obtain ⟨j, oj, k1, k2, _⟩ := hE
        have := hall j (Array.getElem?_eq_some_iff.1 k2).1
        rw [hu j k1] at this; simp at this
      · have := I.fle; omega
    subst hf
    have hN : (ordOf ops c).length = c.fs.length + (restOf ops c.fs).length := by simp [ordOf]
    have hT : T = (C (c.fs.length + (restOf ops c.fs).length)).t := by
      have hl : T.length = (C (c.fs.length + (restOf ops c.fs).length)).t.length := I.good.1.trans (G.len (by omega)).symm
      apply List.ext_getElem hl
      intro d h1 h2
      have := I.good.2 (c.fs.length + (restOf ops c.fs).length) (by omega) d (fun q i hq hw => by
        obtain ⟨h3, o, h4, _⟩ := hw
        exact hall i (Array.getElem?_eq_some_iff.1 h4).1) (fun q i hq hw => by
        obtain ⟨h3, _⟩ := hw
        have := (List.getElem?_eq_some_iff.1 h3).1
        omega)
      simpa [List.getD_eq_getElem?_getD, h1, h2] using this
    exact hQ β F a w ⟨I.ext, I.bnd⟩ I.sim (by rw [← hT]; exact I.rl) hd
  intro fuel
  induction fuel with
  | zero =>
    intro D a w β F T f I hd hl
    have hr : Region.ready .any ops D = [] := by
      apply List.eq_nil_iff_forall_not_mem.2
      intro i hi
      obtain ⟨h0, o, ho, _⟩ := mem_ready.1 hi
      have hlt := (Array.getElem?_eq_some_iff.1 ho).1
      have hlt' : i < D.size := by rw [I.size]; exact hlt
      have : 0 < left ops D := List.countP_pos_iff.2 ⟨i, by simpa using hlt, by
        simp only [Array.getD, hlt', dif_pos] at h0 ⊢
        rw [h0]; rfl⟩
      omega
    exact ⟨hr, done I hd hr⟩
  | succ fuel ih =>
    intro D a w β F T f I hd hl
    refine ⟨fun hr => done I hd hr, fun i hi => ?_⟩
    obtain ⟨h0, o, ho, hready⟩ := mem_ready.1 hi
    have hlt := (Array.getElem?_eq_some_iff.1 ho).1
    have hlt' : i < D.size := by rw [I.size]; exact hlt
    have hun : D.getD i false = false := by
      simp only [Array.getD, hlt', dif_pos] at h0 ⊢
      exact h0
    refine Reg.step H hrun G I ho hready hun fun a' w' β' F' T' f' I' hd' => ih I' (hd'.trans hd) ?_
    have : left ops (D.setIfInBounds i true) < left ops D := countP_less (fun j hj hq => by
        simp only [Bool.not_eq_true'] at hq ⊢
        cases h : D.getD j false with
        | false => rfl
        | true => rw [(getD_set_iff hlt').2 (.inr h)] at hq; simp at hq) ⟨i, by simpa using hlt, by simp [hun], by rw [(getD_set_iff hlt').2 (.inl rfl)]; rfl⟩
    omega

include hrun in
theorem Reg.wp {Q : Exit → Act → World → Prop} (hm : P.follows .mixedOrders = true) {id : Nat} {β : Bnd} {F : Fr} {w : World} {a : Act} (hT : RL β F (C 0).t a.tmps.toList) (S : Sim β F (C 0).m w)
    (hQ : ∀ β' F' a' w', Ext β F (C 0).m w β' F' (C (c.fs.length + (restOf ops c.fs).length)).m w' → Sim β' F' (C (c.fs.length + (restOf ops c.fs).length)).m w' → RL β' F' (C (c.fs.length + (restOf ops c.fs).length)).t a'.tmps.toList → a'.defers = a.defers → Q .normal a' w') : (Code.region id ops true).wp P Q a w := by
  refine wp_region_any hm ?_
  have Xd : Ext β F (C 0).m w β F (C 0).m { w with drawn := w.drawn + 1 } := Ext.of_heap rfl rfl rfl rfl
  have S1 : Sim β F (C 0).m { w with drawn := w.drawn + 1 } := S.of_heap rfl
  -- what is made ahead of time lies in no block
  have hpre : ∀ y, y ≤ c.fs.length → ∀ x, x ≤ y → ∃ obs, (C y).m = (C x).m ++ obs := by
    intro y
    induction y with
    | zero => intro _ x hx; have : x = 0 := by omega
              subst this; exact ⟨[], by simp⟩
    | succ y ih =>
      intro hy x hx
      by_cases e : x = y + 1
      · subst e; exact ⟨[], by simp⟩
      · obtain ⟨o1, h1⟩ := ih (by omega) x (by omega)
        obtain ⟨o2, h2⟩ := Reg.grow1 H G (x := y) (by omega)
        exact ⟨o1 ++ o2, by rw [h2, h1, List.append_assoc]⟩
  obtain ⟨obs, hobs⟩ := hpre c.fs.length (Nat.le_refl _) 0 (by omega)
  obtain ⟨S2, X2⟩ := S1.more obs
  rw [← hobs] at S2 X2
  obtain ⟨f, g1, g2, g3, g4⟩ := next_E (tb := tb) (fi := fi) (ops := ops) (c := c) (C := C) 0 (restOf ops c.fs).length (by omega)
  have hmem : (C (c.fs.length + f)).m = (C c.fs.length).m := G.mem_range (Nat.zero_le _) g2 g4
  have hD : ∀ j, (Array.replicate ops.size false).getD j false = false := fun j => by
    simp only [Array.getD]
    split
    · simp
    · rfl
  refine Reg.any H hrun G (d0 := a.defers) hQ ops.size (D := Array.replicate ops.size false) (f := f) (T := (C 0).t) (β := β) (F := F) (β0 := β) (F0 := F) (w0 := w) ⟨by simp, fun j o hj hd => by rw [hD] at hd; simp at hd, g2, fun hf => ⟨g3 hf, fun j _ => hD j⟩, fun q hq hE => absurd hE (g4 q (Nat.zero_le _) hq), by rw [hmem]; exact S2, hT, ⟨rfl, fun r hr d h1 h2 => ?_⟩, by rw [hmem]; exact Xd.toExtW.trans X2, fun g n bd _ h => ⟨n, bd, h⟩, fun x k hx _ => ⟨fun g n k1 k2 => ?_, ?_⟩⟩ rfl ?_
  · rw [G.nowrite (Nat.zero_le r) hr fun p i o hp1 hp2 hi ho hd => ?_]
    have := h1 p i hp2 ⟨hi, o, ho, hd⟩
    rw [hD] at this; simp at this
  · cases hb : β.arr g n with
    | none => rfl
    | some bd =>
      have h3 := S.dom hb
      have h4 := Reg.grow H G (x := 0) (y := x) (Nat.zero_le _) (by have := (List.getElem?_eq_some_iff.1 hx).1; omega)
      omega
  · have hxl := (List.getElem?_eq_some_iff.1 hx).1
    obtain ⟨o2, h2⟩ := hpre c.fs.length (Nat.le_refl _) (x + 1) (by omega)
    have h4 := Reg.grow H G (x := x) (y := x + 1) (by omega) (by omega)
    rw [hmem, h2, List.drop_append_of_le_length h4, List.take_append_of_le_length (by simp), List.take_of_length_le (by simp)]
  · exact Nat.le_trans (List.countP_le_length) (by simp)
end
end Go.Vm
