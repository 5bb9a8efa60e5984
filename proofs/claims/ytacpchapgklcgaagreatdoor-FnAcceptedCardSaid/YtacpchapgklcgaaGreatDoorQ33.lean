/- Plain words on configurations of a machine: one that is valid, and the reference's step of it.
Plain words on runs of a machine: a run of configurations that halts is a run on a tape that halts. -/
import Derived.Test.YtacpchapgklcgaaGreatDoorQ31
import Derived.Test.YtacpchapgklcgaaGreatDoorQ32
import Derived.Test.YtacpchapgklcgaaGreatDoorQ16
section
set_option linter.unusedSimpArgs false
set_option linter.unusedVariables false
namespace Go.Proofs.YtacpchapgklcgaaGreatDoor
open Go Go.RowKit Go.Proofs
theorem conf_good {m : MachD} {c : ConfD} (h : confB m c = true) : IGood m c ∧ (c.l.length ≤ 200 ∧ c.r.length ≤ 200) ∧ tidyL c.l ∧ tidyL c.r := by
  simp only [confB, sideOk, inB, Bool.and_eq_true, Bool.or_eq_true, decide_eq_true_eq, List.all_eq_true, beq_iff_eq, bne_iff_ne, ne_eq] at h
  obtain ⟨⟨hq, ⟨hl1, hl2⟩, hl3⟩, ⟨hr1, hr2⟩, hr3⟩ := h
  refine ⟨⟨by omega, by omega, fun z hz => by have := hl2 z hz; omega, fun z hz => by have := hr2 z hz; omega⟩, ⟨by omega, by omega⟩, ?_, ?_⟩
  · rcases hl3 with h | h
    · exact .inl (List.length_eq_zero_iff.1 (by omega))
    · exact .inr h
  · rcases hr3 with h | h
    · exact .inl (List.length_eq_zero_iff.1 (by omega))
    · exact .inr h
theorem conf_back {m : MachD} {c : ConfD} (hg : IGood m c) (hf : c.l.length ≤ 200 ∧ c.r.length ≤ 200) (ht : tidyL c.l ∧ tidyL c.r) : confB m c = true := by
  have side : ∀ xs : List Int, xs.length ≤ 200 → (∀ z ∈ xs, 0 ≤ z ∧ z < m.sy) → tidyL xs → sideOk xs m.sy 200 = true := fun xs h1 h2 h3 => by
    simp only [sideOk, inB, Bool.and_eq_true, Bool.or_eq_true, decide_eq_true_eq, List.all_eq_true, beq_iff_eq, bne_iff_ne, ne_eq]
    refine ⟨⟨by omega, fun z hz => by have := h2 z hz; omega⟩, ?_⟩
    rcases h3 with h3 | h3
    · left; rw [h3]; rfl
    · exact .inr h3
  simp only [confB, Bool.and_eq_true]
  refine ⟨⟨?_, side _ hf.1 hg.l ht.1⟩, side _ hf.2 hg.r ht.2⟩
  have h0 := hg.q0
  have h1 := hg.q1
  simp only [inB, Bool.and_eq_true, decide_eq_true_eq]
  omega
theorem trim_tidy {xs : List Int} (h : tidyL xs) : trim xs = xs := by
  rcases h with h | h
  · rw [h]; rfl
  · have hn : trimN xs xs.length = xs.length := by
      cases hl : xs.length with
      | zero => rfl
      | succ n =>
        have e : xs.getD n 0 = xs.getLastD 0 := by
          rw [List.getLastD_eq_getLast?, List.getLast?_eq_getElem?, List.getD_eq_getElem?_getD, hl]
          rfl
        unfold trimN
        rw [if_neg (by rw [e]; exact h)]
    unfold trim
    rw [hn, List.take_length]
theorem trim_push {s : Int} {xs : List Int} (h : tidyL xs) : trim (s :: xs) = pushL s xs := by
  by_cases hn : s = 0 ∧ xs = []
  · obtain ⟨rfl, rfl⟩ := hn
    rfl
  · have e : pushL s xs = s :: xs := if_neg hn
    have ht := tidy_push (s := s) h
    rw [e] at ht ⊢
    exact trim_tidy ht
/-- The reference's words on a configuration. -/
def cR (c : ConfD) : ConfR := ⟨c.q, c.l, c.r⟩
theorem stepC_eq {ru : RuleD} {c : ConfD} (h : tidyL c.l ∧ tidyL c.r) : stepC ru (cR c) = cR (stepI ru c) := by
  have h1 := trim_push (s := ru.w) h.1
  have h2 := trim_push (s := ru.w) (tidy_drop h.2)
  have h3 := trim_push (s := hdD c.l) (tidy_push (s := ru.w) (tidy_drop h.2))
  unfold stepC stepI
  simp only [cR, hdR]
  simp only [hdD] at h3 ⊢
  rw [h1, h2, h3]
  split <;> rfl
end Go.Proofs.YtacpchapgklcgaaGreatDoor
end
section
namespace Go.Proofs.YtacpchapgklcgaaGreatDoor
open Go Go.RowKit Go.Proofs
/-- The symbol at a place of the tape, the head being at p. -/
def tapeOf (c : ConfR) (p z : Int) : Int := if p ≤ z then c.r.getD (z - p).toNat 0 else c.l.getD (p - 1 - z).toNat 0
theorem getD_drop1 (xs : List Int) (i : Nat) : (xs.drop 1).getD i 0 = xs.getD (i + 1) 0 := by
  simp [List.getD_eq_getElem?_getD]
theorem getD_cons0 (x : Int) (xs : List Int) : (x :: xs).getD 0 0 = x := rfl
theorem getD_consS (x : Int) (xs : List Int) (i : Nat) : (x :: xs).getD (i + 1) 0 = xs.getD i 0 := rfl
theorem tape_head (c : ConfR) (p : Int) : tapeOf c p p = hdR c.r := by
  unfold tapeOf hdR
  rw [if_pos (Int.le_refl _), Int.sub_self]
  rfl
theorem tape_step {ru : RuleD} (hm : ru.m = 1 ∨ ru.m = -1) (c : ConfR) (p z : Int) : tapeOf (stepC ru c) (p + ru.m) z = if z = p then ru.w else tapeOf c p z := by
  rcases hm with h | h
  · unfold tapeOf stepC
    rw [if_pos (show 0 < ru.m by omega), h]
    by_cases c1 : p + 1 ≤ z
    · rw [if_pos c1, if_neg (show ¬ z = p by omega), if_pos (show p ≤ z by omega)]
      show (c.r.drop 1).getD _ 0 = _
      rw [getD_drop1]
      congr 1
      omega
    · rw [if_neg c1]
      show (trim (ru.w :: c.l)).getD _ 0 = _
      rw [trim_get]
      by_cases c2 : z = p
      · rw [if_pos c2, show (p + 1 - 1 - z).toNat = 0 by omega]
        rfl
      · rw [if_neg c2, if_neg (show ¬ p ≤ z by omega), show (p + 1 - 1 - z).toNat = (p - 1 - z).toNat + 1 by omega]
        rfl
  · unfold tapeOf stepC
    rw [if_neg (show ¬ 0 < ru.m by omega), h]
    by_cases c1 : p + -1 ≤ z
    · rw [if_pos c1]
      show (trim (hdR c.l :: trim (ru.w :: c.r.drop 1))).getD _ 0 = _
      rw [trim_get]
      by_cases c2 : z = p - 1
      · rw [if_neg (show ¬ z = p by omega), if_neg (show ¬ p ≤ z by omega), show (z - (p + -1)).toNat = 0 by omega, show (p - 1 - z).toNat = 0 by omega]
        rfl
      · rw [show (z - (p + -1)).toNat = (z - p).toNat + 1 by omega, getD_consS, trim_get]
        by_cases c3 : z = p
        · rw [if_pos c3, show (z - p).toNat = 0 by omega]
          rfl
        · rw [if_neg c3, if_pos (show p ≤ z by omega), show (z - p).toNat = (z - p - 1).toNat + 1 by omega, getD_consS, getD_drop1]
    · rw [if_neg c1, if_neg (show ¬ z = p by omega), if_neg (show ¬ p ≤ z by omega)]
      show (c.l.drop 1).getD _ 0 = _
      rw [getD_drop1]
      congr 1
      omega
def ruleAt (m : MachD) (c : ConfR) : RuleD := m.rules.getD (c.q * m.sy + hdR c.r).toNat noR
def runC (m : MachD) : Nat → ConfR
  | 0 => ⟨0, [], []⟩
  | t + 1 => stepC (ruleAt m (runC m t)) (runC m t)
def posC (m : MachD) : Nat → Int
  | 0 => 0
  | t + 1 => posC m t + (ruleAt m (runC m t)).m
/-- A configuration of a machine. -/
structure CGood (m : MachD) (c : ConfR) : Prop where
  q0 : 0 ≤ c.q
  q1 : c.q < m.st
  l : ∀ z ∈ c.l, 0 ≤ z ∧ z < m.sy
  r : ∀ z ∈ c.r, 0 ≤ z ∧ z < m.sy
theorem hdR_of {xs : List Int} {sy : Int} (h : ∀ z ∈ xs, 0 ≤ z ∧ z < sy) (h0 : 0 < sy) : 0 ≤ hdR xs ∧ hdR xs < sy := by
  unfold hdR
  cases xs with
  | nil => exact ⟨by simp, by simpa using h0⟩
  | cons a l => exact h a List.mem_cons_self
theorem CGood.idx {m : MachD} (hm : MOk m) {c : ConfR} (h : CGood m c) : ∃ k, k < m.rules.length ∧ c.q * m.sy + hdR c.r = (k : Int) := by
  have a := hdR_of h.r (by have := hm.sy1; omega)
  have s1 := hm.sy1
  have e1 := Int.mul_nonneg h.q0 (show 0 ≤ m.sy by omega)
  have e2 : c.q * m.sy + m.sy ≤ m.st * m.sy := by
    have := Int.mul_le_mul_of_nonneg_right (show c.q + 1 ≤ m.st from h.q1) (show 0 ≤ m.sy by omega)
    rw [Int.add_mul, Int.one_mul] at this
    exact this
  have e3 := hm.len
  rw [Int.mul_comm] at e3
  exact ⟨(c.q * m.sy + hdR c.r).toNat, by omega, by omega⟩
theorem ruleAt_get {m : MachD} {c : ConfR} {k : Nat} (hk : k < m.rules.length) (e : c.q * m.sy + hdR c.r = (k : Int)) : ruleAt m c = m.rules[k] := by
  unfold ruleAt
  rw [e, Int.toNat_natCast, List.getD_eq_getElem?_getD, List.getElem?_eq_getElem hk]
  rfl
theorem CGood.step {m : MachD} (hm : machOk m = true) {c : ConfR} (h : CGood m c) (hr : ¬ ruleAt m c = noR) : CGood m (stepC (ruleAt m c) c) := by
  have ok := MOk.of hm
  obtain ⟨k, hk, e⟩ := h.idx ok
  have s1 := ok.sy1
  rw [ruleAt_get hk e] at hr ⊢
  simp only [machOk, Bool.and_eq_true, List.all_eq_true] at hm
  have hq := hm.2 _ (List.getElem_mem hk)
  simp only [ruleOk, hr, decide_false, Bool.false_or, Bool.and_eq_true, inB, decide_eq_true_eq] at hq
  have hl := hdR_of h.l (by omega)
  unfold stepC
  split
  · refine ⟨by simp; omega, by simp; omega, fun z hz => ?_, fun z hz => h.r z (List.mem_of_mem_drop hz)⟩
    rcases List.mem_cons.1 (trim_mem hz) with rfl | hz
    · omega
    · exact h.l z hz
  · refine ⟨by simp; omega, by simp; omega, fun z hz => h.l z (List.mem_of_mem_drop hz), fun z hz => ?_⟩
    rcases List.mem_cons.1 (trim_mem hz) with rfl | hz
    · exact hl
    · rcases List.mem_cons.1 (trim_mem hz) with rfl | hz
      · omega
      · exact h.r z (List.mem_of_mem_drop hz)
theorem runC_good {m : MachD} (hm : machOk m = true) : ∀ t, (∀ j < t, ¬ ruleAt m (runC m j) = noR) → CGood m (runC m t) := by
  intro t
  induction t with
  | zero =>
    intro _
    have := (MOk.of hm).st1
    exact ⟨by simp [runC], by simp [runC]; omega, by simp [runC], by simp [runC]⟩
  | succ t ih =>
    intro h
    exact (ih fun j hj => h j (by omega)).step hm (h t (by omega))
theorem stepC_len (ru : RuleD) (c : ConfR) : (stepC ru c).l.length ≤ c.l.length + 1 ∧ (stepC ru c).r.length ≤ c.r.length - 1 + 2 := by
  have e1 : (c.r.drop 1).length = c.r.length - 1 := List.length_drop
  have e2 : (c.l.drop 1).length = c.l.length - 1 := List.length_drop
  have h0 := trim_len (ru.w :: c.l)
  have h1 := trim_len (hdR c.l :: trim (ru.w :: c.r.drop 1))
  have h2 := trim_len (ru.w :: c.r.drop 1)
  simp only [List.length_cons] at h0 h1 h2
  unfold stepC
  split
  · exact ⟨h0, by show (c.r.drop 1).length ≤ _; omega⟩
  · exact ⟨by show (c.l.drop 1).length ≤ _; omega, by show (trim _).length ≤ _; omega⟩
theorem runC_len (m : MachD) : ∀ t, (runC m t).l.length ≤ t ∧ (runC m t).r.length ≤ t + 1 := by
  intro t
  induction t with
  | zero => simp [runC]
  | succ t ih =>
    have := stepC_len (ruleAt m (runC m t)) (runC m t)
    refine ⟨by show (stepC _ _).l.length ≤ _; omega, ?_⟩
    show (stepC _ _).r.length ≤ _
    omega
/-- A run of configurations that halts is a run on a tape that halts. -/
theorem runC_halts {m : MachD} (hm : machOk m = true) {T : Nat} (h : ∀ j < T, ¬ ruleAt m (runC m j) = noR) (hT : ruleAt m (runC m T) = noR) :
    HaltRun m T (fun t => tapeOf (runC m t) (posC m t)) (posC m) (fun t => (runC m t).q) := by
  have ok := MOk.of hm
  have s1 := ok.sy1
  have good : ∀ t, t ≤ T → CGood m (runC m t) := fun t ht => runC_good hm t fun j hj => h j (by omega)
  refine ⟨fun z => by simp [tapeOf, runC], rfl, fun t ht => ?_, fun t ht => (good t ht).q0, fun t ht => ?_, ?_⟩
  · show 0 ≤ tapeOf _ _ _ ∧ tapeOf _ _ _ < _
    rw [tape_head]
    exact hdR_of (good t ht).r (by omega)
  · obtain ⟨k, hk, e⟩ := (good t (by omega)).idx ok
    have er := ruleAt_get hk e
    have hn := h t ht
    rw [er] at hn
    refine ⟨k, hk, ?_, hn, ?_, ?_, fun z => ?_⟩
    · show (k : Int) = _ * _ + tapeOf _ _ _
      rw [tape_head, ← e]
    · show posC m t + (ruleAt m (runC m t)).m = _
      rw [er]
    · show (stepC (ruleAt m (runC m t)) (runC m t)).q = _
      rw [er]
      unfold stepC
      split <;> rfl
    · show tapeOf (stepC (ruleAt m (runC m t)) (runC m t)) (posC m t + (ruleAt m (runC m t)).m) z = _
      rw [er]
      exact tape_step (mv1 hm _ (List.getElem_mem hk) hn) _ _ _
  · obtain ⟨k, hk, e⟩ := (good T (Nat.le_refl _)).idx ok
    refine ⟨k, hk, ?_, by rw [← ruleAt_get hk e]; exact hT⟩
    show (k : Int) = _ * _ + tapeOf _ _ _
    rw [tape_head, ← e]
end Go.Proofs.YtacpchapgklcgaaGreatDoor
end
