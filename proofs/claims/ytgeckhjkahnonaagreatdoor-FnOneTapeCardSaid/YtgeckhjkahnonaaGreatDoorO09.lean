/- Plain words on the program's runs of a machine: sides grow and shrink at their near ends.
Plain words: a configuration seen as cells on a line with a head. -/
import Derived.Test.YtgeckhjkahnonaaGreatDoorO07
section
namespace Go.Proofs.YtgeckhjkahnonaaGreatDoor
open Go Go.RowKit Go.Proofs
def pushL (s : Int) (xs : List Int) : List Int := if s = 0 ∧ xs = [] then [] else s :: xs
def hdD (xs : List Int) : Int := xs.getD 0 0
/-- The rule that a configuration looks at. -/
def lookI (m : MachD) (c : ConfD) : RuleD := m.rules.getD (c.q * m.sy + hdD c.r).toNat noR
/-- The configuration behind a step. -/
def stepI (ru : RuleD) (c : ConfD) : ConfD :=
  if 0 < ru.m then ⟨ru.n, pushL ru.w c.l, c.r.drop 1⟩ else ⟨ru.n, c.l.drop 1, pushL (hdD c.l) (pushL ru.w (c.r.drop 1))⟩
def cfgI (m : MachD) (c : ConfD) : Nat → ConfD
  | 0 => c
  | t + 1 => stepI (lookI m (cfgI m c t)) (cfgI m c t)
def fitI (c : ConfD) : Bool := decide (c.l.length ≤ 200) && decide (c.r.length ≤ 200)
/-- A configuration of a machine. -/
structure IGood (m : MachD) (c : ConfD) : Prop where
  q0 : 0 ≤ c.q
  q1 : c.q < m.st
  l : ∀ z ∈ c.l, 0 ≤ z ∧ z < m.sy
  r : ∀ z ∈ c.r, 0 ≤ z ∧ z < m.sy
theorem hdD_of {xs : List Int} {sy : Int} (h : ∀ z ∈ xs, 0 ≤ z ∧ z < sy) (h0 : 0 < sy) : 0 ≤ hdD xs ∧ hdD xs < sy := by
  unfold hdD
  cases xs with
  | nil => exact ⟨by simp, by simpa using h0⟩
  | cons a l => exact h a List.mem_cons_self
theorem machOk_five {m : MachD} (h : machOk m = true) : (2 ≤ m.sy ∧ m.sy ≤ 6 ∧ 1 ≤ m.st ∧ m.st ≤ 1000) ∧ (m.rules.length : Int) = m.sy * m.st ∧ ∀ r ∈ m.rules, ruleOk m.sy m.st r = true := by
  simp only [machOk, inB, Bool.and_eq_true, decide_eq_true_eq, List.all_eq_true] at h
  refine ⟨by omega, by omega, h.2⟩
theorem IGood.idx {m : MachD} (hm : machOk m = true) {c : ConfD} (h : IGood m c) : ∃ k : Nat, k < m.rules.length ∧ c.q * m.sy + hdD c.r = (k : Int) := by
  obtain ⟨⟨s1, _, _, _⟩, hl, _⟩ := machOk_five hm
  have a := hdD_of h.r (by omega)
  have e1 := Int.mul_nonneg h.q0 (show 0 ≤ m.sy by omega)
  have e2 : c.q * m.sy + m.sy ≤ m.st * m.sy := by
    have := Int.mul_le_mul_of_nonneg_right (show c.q + 1 ≤ m.st from h.q1) (show 0 ≤ m.sy by omega)
    rw [Int.add_mul, Int.one_mul] at this
    exact this
  rw [Int.mul_comm] at hl
  exact ⟨(c.q * m.sy + hdD c.r).toNat, by omega, by omega⟩
theorem lookI_get {m : MachD} {c : ConfD} {k : Nat} (hk : k < m.rules.length) (e : c.q * m.sy + hdD c.r = (k : Int)) : lookI m c = m.rules[k] := by
  unfold lookI
  rw [e, Int.toNat_natCast, List.getD_eq_getElem?_getD, List.getElem?_eq_getElem hk]
  rfl
theorem pushL_mem {s z : Int} {xs : List Int} (h : z ∈ pushL s xs) : z = s ∨ z ∈ xs := by
  unfold pushL at h
  split at h
  · cases h
  · simpa using h
theorem pushL_len (s : Int) (xs : List Int) : (pushL s xs).length ≤ xs.length + 1 := by
  unfold pushL
  split <;> simp
theorem IGood.step {m : MachD} (hm : machOk m = true) {c : ConfD} (h : IGood m c) (hr : ¬ lookI m c = noR) : IGood m (stepI (lookI m c) c) := by
  obtain ⟨⟨s1, _, _, _⟩, _, hall⟩ := machOk_five hm
  obtain ⟨k, hk, e⟩ := h.idx hm
  rw [lookI_get hk e] at hr ⊢
  have hq := hall _ (List.getElem_mem hk)
  simp only [ruleOk, hr, decide_false, Bool.false_or, Bool.and_eq_true, inB, decide_eq_true_eq] at hq
  have hl := hdD_of h.l (by omega)
  unfold stepI
  split
  · refine ⟨by simp; omega, by simp; omega, fun z hz => ?_, fun z hz => h.r z (List.mem_of_mem_drop hz)⟩
    rcases pushL_mem hz with rfl | hz
    · omega
    · exact h.l z hz
  · refine ⟨by simp; omega, by simp; omega, fun z hz => h.l z (List.mem_of_mem_drop hz), fun z hz => ?_⟩
    rcases pushL_mem hz with rfl | hz
    · exact hl
    · rcases pushL_mem hz with rfl | hz
      · omega
      · exact h.r z (List.mem_of_mem_drop hz)
/-- So many steps are made from c. -/
structure RunsTo (m : MachD) (c : ConfD) (n : Nat) : Prop where
  no : ∀ i < n, ¬ lookI m (cfgI m c i) = noR
  fit : ∀ i ≤ n, fitI (cfgI m c i) = true
theorem RunsTo.zero {m : MachD} {c : ConfD} (h : fitI c = true) : RunsTo m c 0 := ⟨fun i hi => by omega, fun i hi => by
  have : i = 0 := by omega
  subst this; exact h⟩
theorem RunsTo.succ {m : MachD} {c : ConfD} {n : Nat} (h : RunsTo m c n) (h1 : ¬ lookI m (cfgI m c n) = noR) (h2 : fitI (cfgI m c (n + 1)) = true) : RunsTo m c (n + 1) :=
  ⟨fun i hi => if e : i = n then e ▸ h1 else h.no i (by omega), fun i hi => if e : i = n + 1 then e ▸ h2 else h.fit i (by omega)⟩
theorem cfg_good {m : MachD} (hm : machOk m = true) {c : ConfD} (hc : IGood m c) : ∀ n, (∀ i < n, ¬ lookI m (cfgI m c i) = noR) → IGood m (cfgI m c n) := by
  intro n
  induction n with
  | zero => intro _; exact hc
  | succ n ih => intro h; exact (ih fun i hi => h i (by omega)).step hm (h n (by omega))
end Go.Proofs.YtgeckhjkahnonaaGreatDoor
end
section
set_option linter.unusedSimpArgs false
set_option linter.unusedVariables false
namespace Go.Proofs.YtgeckhjkahnonaaGreatDoor
open Go Go.RowKit Go.Proofs
/-- The cells of a configuration, and the place of its head. -/
structure Ln (x : ConfD) (f : Int → Int) (p : Int) : Prop where
  r : ∀ i : Nat, x.r.getD i 0 = f (p + i)
  l : ∀ i : Nat, x.l.getD i 0 = f (p - 1 - i)
def updF (f : Int → Int) (p v : Int) : Int → Int := fun i => if i = p then v else f i
theorem updF_same (f : Int → Int) (p v : Int) : updF f p v p = v := if_pos rfl
theorem updF_other (f : Int → Int) (p v : Int) {i : Int} (h : i ≠ p) : updF f p v i = f i := if_neg h
theorem pushL_zero (s : Int) (xs : List Int) : (pushL s xs).getD 0 0 = s := by
  unfold pushL
  split
  · rename_i h; simp [h.1]
  · rfl
theorem pushL_succ (s : Int) (xs : List Int) (i : Nat) : (pushL s xs).getD (i + 1) 0 = xs.getD i 0 := by
  unfold pushL
  split
  · rename_i h; simp [h.2]
  · rfl
theorem drop_getD (xs : List Int) (i : Nat) : (xs.drop 1).getD i 0 = xs.getD (i + 1) 0 := by
  rw [List.getD_eq_getElem?_getD, List.getD_eq_getElem?_getD, List.getElem?_drop, Nat.add_comm 1 i]
theorem Ln.head {x : ConfD} {f : Int → Int} {p : Int} (h : Ln x f p) : hdD x.r = f p := by
  have := h.r 0
  simpa [hdD] using this
theorem Ln.right {x : ConfD} {f : Int → Int} {p w n : Int} (h : Ln x f p) : Ln (stepI ⟨w, 1, n⟩ x) (updF f p w) (p + 1) := by
  unfold stepI
  rw [if_pos (by show (0 : Int) < 1; decide)]
  refine ⟨fun i => ?_, fun i => ?_⟩
  · rw [drop_getD, h.r, updF_other _ _ _ (by omega)]
    congr 1; omega
  · cases i with
    | zero => rw [pushL_zero, show p + 1 - 1 - ((0 : Nat) : Int) = p by omega, updF_same]
    | succ i => rw [pushL_succ, h.l, updF_other _ _ _ (by omega)]; congr 1; omega
theorem Ln.left {x : ConfD} {f : Int → Int} {p w n : Int} (h : Ln x f p) : Ln (stepI ⟨w, -1, n⟩ x) (updF f p w) (p - 1) := by
  unfold stepI
  rw [if_neg (by show ¬ (0 : Int) < -1; decide)]
  refine ⟨fun i => ?_, fun i => ?_⟩
  · cases i with
    | zero =>
      rw [pushL_zero, updF_other _ _ _ (by omega)]
      have := h.l 0
      simp only [hdD]
      rw [this]; congr 1
      try omega
    | succ i =>
      rw [pushL_succ]
      cases i with
      | zero => rw [pushL_zero, show p - 1 + ((0 + 1 : Nat) : Int) = p by omega, updF_same]
      | succ i => rw [pushL_succ, drop_getD, h.r, updF_other _ _ _ (by omega)]; congr 1; omega
  · rw [drop_getD, h.l, updF_other _ _ _ (by omega)]
    congr 1; omega
end Go.Proofs.YtgeckhjkahnonaaGreatDoor
end
