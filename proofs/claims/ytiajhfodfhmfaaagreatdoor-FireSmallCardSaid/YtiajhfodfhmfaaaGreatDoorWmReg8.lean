/- Regions that have no whole order: out of the check and the run. -/
import Derived.Test.YtiajhfodfhmfaaaGreatDoorWmReg7
set_option linter.unusedVariables false
set_option linter.unusedSimpArgs false
set_option linter.unusedSectionVars false
namespace Go.Vm
variable [SymB] [SymV]

theorem getD_of {l : List Nat} {r i : Nat} (h : l[r]? = some i) : l.getD r 0 = i := by simp [List.getD_eq_getElem?_getD, h]

theorem reg_of {tb : Tabs} {fi : FnI} {run : CallF} {ops : Array Oper} {c : Chk} {A : List (List Nat)} {s s' : St} (hok : regOk fi ops c A = true) (hrun : runReg tb fi run ops c s = some s') :
    ∃ C, Reg tb fi run ops c A C ∧ C 0 = s ∧ C (c.fs.length + (restOf ops c.fs).length) = s' := by
  unfold regOk at hok
  simp only [Bool.and_eq_true, List.all_eq_true, List.mem_range, decide_eq_true_eq] at hok
  obtain ⟨hA, hfs, ⟨hnd, hAl⟩, hconf, hprs, hkp⟩ := hok
  -- the operations of the two lists
  have hfslt : ∀ i ∈ c.fs, i < ops.size := fun i hi => by
    have := hfs i hi
    split at this
    · rename_i o ho; exact (Array.getElem?_eq_some_iff.1 ho).1
    · simp at this
  have hrlt : ∀ i ∈ restOf ops c.fs, i < ops.size := fun i hi => (restOf_mem.1 hi).1
  have F1 := pick_F2 hfslt
  have F2' := pick_F2 hrlt
  have l1 := F2.length F1
  have l2 := F2.length F2'
  unfold runReg at hrun
  dsimp only at hrun
  split at hrun
  · simp at hrun
  · rename_i s1 hs1
    split at hrun
    case isFalse => simp at hrun
    rename_i hck
    simp only [Bool.and_eq_true, List.all_eq_true] at hck
    obtain ⟨hck1, hck2⟩ := hck
    generalize hsa : states tb fi run ops (pickOps ops c.fs) s = sa at hs1 hck2
    generalize hss : states tb fi run ops (pickOps ops (restOf ops c.fs)) s1 = ss at hrun hck1 hck2
    obtain ⟨a0, a1, a2⟩ := states_chain (tb := tb) (fi := fi) (run := run) (ops := ops) (l := pickOps ops c.fs) (s := s) (sN := s1) (by rw [hsa, ← l1]; exact hs1)
    obtain ⟨b0, b1, b2⟩ := states_chain (tb := tb) (fi := fi) (run := run) (ops := ops) (l := pickOps ops (restOf ops c.fs)) (s := s1) (sN := s') (by rw [hss]; exact hrun)
    rw [hsa] at a0 a1 a2
    rw [hss] at b0 b1 b2
    let C : Nat → St := fun r => if r < c.fs.length then (sa[r]?).getD s else (ss[r - c.fs.length]?).getD s
    have hCa : ∀ r, r ≤ c.fs.length → sa[r]? = some (C r) := fun r hr => by
      obtain ⟨x, hx⟩ := a1 r (by omega)
      by_cases h : r < c.fs.length
      · simp only [C, if_pos h, hx, Option.getD_some]
      · have : r = c.fs.length := by omega
        subst this
        simp only [C, Nat.lt_irrefl, if_false, Nat.sub_self, b0, Option.getD_some]
        exact hs1
    have hCb : ∀ p, p ≤ (restOf ops c.fs).length → ss[p]? = some (C (c.fs.length + p)) := fun p hp => by
      obtain ⟨x, hx⟩ := b1 p (by omega)
      have : ¬ (c.fs.length + p < c.fs.length) := by omega
      simp only [C, if_neg this, Nat.add_sub_cancel_left, hx, Option.getD_some]
    have hfo : ∀ (x : Nat) k o, c.fs[x]? = some k → ops[k]? = some o → (pickOps ops c.fs)[x]? = some o := fun x k o hk ho => by
      obtain ⟨o', h1, h2⟩ := F2.get? F1 hk
      rw [ho] at h2; rw [h1]; exact h2.symm
    have hro : ∀ (p : Nat) i o, (restOf ops c.fs)[p]? = some i → ops[i]? = some o → (pickOps ops (restOf ops c.fs))[p]? = some o := fun x k o hk ho => by
      obtain ⟨o', h1, h2⟩ := F2.get? F2' hk
      rw [ho] at h2; rw [h1]; exact h2.symm
    have hordlt : ∀ (r : Nat) i, (ordOf ops c)[r]? = some i → i < ops.size := fun r i h => by
      have := List.mem_of_getElem? h
      unfold ordOf at this
      rcases List.mem_append.1 this with h | h
      · exact hfslt i h
      · exact hrlt i h
    have hnd2 : (ordOf ops c).Nodup := by
      unfold ordOf
      refine List.nodup_append.2 ⟨hnd, (restOf_sorted ops c.fs).imp fun h => Nat.ne_of_lt h, fun x hx y hy e => ?_⟩
      subst e
      exact (restOf_mem.1 hy).2 hx
    refine ⟨C, ⟨fun j o ho e he hb => ?_, fun j k hk => ?_, fun r i h => ⟨_, Array.getElem?_eq_getElem (hordlt r i h)⟩, fun r q i h1 h2 => ?_, fun i hi => ?_, fun r q i j oi oj hrq hr hq ho1 ho2 => ?_, fun x k o hk ho => ?_, fun p i o hp ho => ?_, fun p q i j oi oj hpq hp hq ho1 ho2 hAn => ?_, fun x p k i o hx hp ho hAn => ?_⟩, ?_, ?_⟩
    · have := hA j (Array.getElem?_eq_some_iff.1 ho).1
      rw [ho] at this
      simp only [Bool.and_eq_true, List.all_eq_true, decide_eq_true_eq] at this
      exact this.1 e.on (mem_after1.2 ⟨e, he, hb, rfl⟩)
    · unfold inA at hk
      have hjl : j < ops.size := by
        rcases Nat.lt_or_ge j A.length with h | h
        · omega
        · simp [List.getD_eq_getElem?_getD, List.getElem?_eq_none h] at hk
      have := hA j hjl
      rw [Array.getElem?_eq_getElem hjl] at this
      simp only [Bool.and_eq_true, List.all_eq_true, decide_eq_true_eq, List.any_eq_true, Bool.or_eq_true, beq_iff_eq] at this
      obtain ⟨e, he, hek⟩ := this.2 k (by simpa using hk)
      exact ⟨_, Array.getElem?_eq_getElem hjl, e, he, this.1 e he, hek⟩
    · obtain ⟨h3, h4⟩ := List.getElem?_eq_some_iff.1 h1
      obtain ⟨h5, h6⟩ := List.getElem?_eq_some_iff.1 h2
      have hp := List.pairwise_iff_getElem.1 hnd2
      rcases Nat.lt_trichotomy r q with h | h | h
      · exact absurd (h4.trans h6.symm) (hp r q h3 h5 h)
      · exact h
      · exact absurd (h6.trans h4.symm) (hp q r h5 h3 h)
    · by_cases hm : i ∈ c.fs
      · obtain ⟨r, hr, e⟩ := List.getElem_of_mem (show i ∈ ordOf ops c by unfold ordOf; exact List.mem_append_left _ hm)
        exact ⟨r, by rw [List.getElem?_eq_getElem hr, e]⟩
      · obtain ⟨r, hr, e⟩ := List.getElem_of_mem (show i ∈ ordOf ops c by unfold ordOf; exact List.mem_append_right _ (restOf_mem.2 ⟨hi, hm⟩))
        exact ⟨r, by rw [List.getElem?_eq_getElem hr, e]⟩
    · have := hconf q (List.getElem?_eq_some_iff.1 hq).1 r hrq
      rw [getD_of hr, getD_of hq, ho1, ho2] at this
      simpa using this
    · have hxl := (List.getElem?_eq_some_iff.1 hk).1
      have h1 := hfs k (List.mem_of_getElem? hk)
      rw [ho] at h1
      simp only [Bool.and_eq_true] at h1
      obtain ⟨h1, h2⟩ := h1
      have hst := a2 x o (C x) (C (x + 1)) (hfo x k o hk ho) (hCa x (by omega)) (hCa (x + 1) (by omega))
      have hal : ∃ t, o.op = .alloc t := by
        split at h1
        · rename_i t e; exact ⟨t, e⟩
        · simp at h1
      have hg : o.guard = none := by simpa using h2
      refine ⟨hal, hg, ?_⟩
      rcases runOp_some hst with ⟨hw, _⟩ | ⟨v, M', hw, he, h3⟩
      · unfold wantedA at hw; rw [hg] at hw; simp at hw
      · refine ⟨v, M', execV_of_step (fun f args e => ?_) he, h3⟩
        obtain ⟨t, ht⟩ := hal
        rw [ht] at e
        simp only [stepOp] at e
        repeat' split at e
        all_goals simp at e
    · have hpl := (List.getElem?_eq_some_iff.1 hp).1
      exact b2 p o _ _ (hro p i o hp ho) (hCb p (by omega)) (hCb (p + 1) (by omega))
    · have := hprs q (List.getElem?_eq_some_iff.1 hq).1 p hpq
      rw [getD_of hp, getD_of hq, ho1, ho2] at this
      simp only [Bool.or_eq_true, hAn, Bool.false_eq_true, false_or, Bool.and_eq_true] at this
      rcases this with h | h | h | h
      · exact .inl h
      · exact .inr (.inl h)
      · exact .inr (.inr (.inl h))
      · refine .inr (.inr (.inr ?_))
        have h2 := hck1 (p, q) (by simpa using h)
        have hql := (List.getElem?_eq_some_iff.1 hq).1
        unfold pairOk at h2
        simp only [hro p i oi hp ho1, hro q j oj hq ho2, hCb p (by omega), hCb q (by omega), hCb (q + 1) (by omega)] at h2
        unfold PairFact
        split at h2
        · rename_i hw _; exact .inl hw
        · rename_i _ hw; exact .inr (.inl hw)
        · split at h2
          · rename_i h3
            simp only [Bool.or_eq_true, Bool.and_eq_true] at h3
            rcases h3 with (h3 | h3) | h3
            · exact .inr (.inr (.inl h3))
            · exact .inr (.inr (.inr (.inl h3)))
            · exact .inr (.inr (.inr (.inr (.inl h3))))
          · split at h2
            · rename_i h3; exact .inr (.inr (.inr (.inr (.inr (.inl ⟨h3, h2⟩)))))
            · split at h2
              · rename_i h3; exact .inr (.inr (.inr (.inr (.inr (.inr ⟨h3, h2⟩)))))
              · simp at h2
        · simp at h2
    · have hxl := (List.getElem?_eq_some_iff.1 hx).1
      have hpl := (List.getElem?_eq_some_iff.1 hp).1
      have := hkp x hxl p hpl
      rw [getD_of hx, getD_of hp, ho] at this
      simp only [Bool.or_eq_true, hAn, Bool.false_eq_true, false_or] at this
      rcases this with h | h | h
      · exact .inl h
      · exact .inr (.inl h)
      · refine .inr (.inr ?_)
        have h2 := hck2 (x, p) (by simpa using h)
        unfold keepOk at h2
        simp only [hCa x (by omega), hCa (x + 1) (by omega), hCb p (by omega), hCb (p + 1) (by omega)] at h2
        exact MObj.beqL_eq _ _ h2
    · have := hCa 0 (Nat.zero_le _)
      rw [a0] at this; exact (Option.some.inj this).symm
    · have := hCb (restOf ops c.fs).length (Nat.le_refl _)
      rw [l2, hrun] at this
      rw [l2]; exact (Option.some.inj this).symm
end Go.Vm
