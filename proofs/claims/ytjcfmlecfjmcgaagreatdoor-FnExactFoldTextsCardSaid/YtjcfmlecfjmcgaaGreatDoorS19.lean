/- What the tests of a folded tape's form come to, in plain words.
Plain words on the program's runs of a machine: sides grow and shrink at their near ends. -/
import Derived.Test.YtjcfmlecfjmcgaaGreatDoorS18
import Derived.Test.YtjcfmlecfjmcgaaGreatDoorS17
import Derived.Test.YtjcfmlecfjmcgaaGreatDoorS09
section
namespace Go.Proofs.YtjcfmlecfjmcgaaGreatDoor
open Go Go.RowKit Go.Proofs
def cellsD (c : ConfD) : List Int := c.l.reverse ++ c.r
theorem cells_cons {c : ConfD} (h : 1 ≤ c.l.length) : cellsD c = c.l.getLastD 0 :: backD c := by
  have hne : c.l ≠ [] := fun e => by rw [e] at h; simp at h
  have e1 : c.l = c.l.dropLast ++ [c.l.getLast hne] := (List.dropLast_concat_getLast hne).symm
  have e2 : c.l.getLastD 0 = c.l.getLast hne := by rw [List.getLastD_eq_getLast?, List.getLast?_eq_some_getLast hne]; rfl
  unfold cellsD backD
  rw [e2]
  conv => lhs; rw [e1]
  simp
theorem cells_drop {c : ConfD} (h : 1 ≤ c.l.length) : (cellsD c).drop 1 = backD c := by rw [cells_cons h]; rfl
theorem back_mem {c : ConfD} {z : Int} : z ∈ backD c ↔ z ∈ c.l.dropLast ∨ z ∈ c.r := by simp [backD]
theorem index_zero {c : ConfD} {sy : Int} (h : 1 ≤ c.l.length) : indexN (cellsD c) sy = 0 ↔ c.l.getLastD 0 = sy := by
  rw [cells_cons h]
  generalize c.l.getLastD 0 = a
  generalize backD c = ys
  unfold indexN
  by_cases he : a = sy
  · subst he; simp
  · constructor
    · intro hi
      by_cases hm : sy ∈ a :: ys
      · have hb : (a == sy) = false := by simp [he]
        rw [if_pos hm, List.idxOf_cons, hb] at hi
        simp only [cond_false] at hi
        omega
      · rw [if_neg hm] at hi; omega
    · intro e; exact absurd e he
theorem fmt_iff (sy : Int) (c : ConfD) (half : Int) : fmtB sy c half = true ↔ (1 ≤ c.l.length ∧ c.l.getLastD 0 = sy ∧ ¬ sy ∈ c.l.dropLast ∧ ¬ sy ∈ c.r ∧ ¬ (c.l.length : Int) % 2 = half) := by
  unfold fmtB
  simp [and_assoc]
theorem fmt_iff2 (sy : Int) (c : ConfD) (half : Int) : fmtB sy c half = true ↔ (1 ≤ c.l.length ∧ indexN (cellsD c) sy = 0 ∧ ¬ sy ∈ (cellsD c).drop 1 ∧ ¬ (c.l.length : Int) % 2 = half) := by
  rw [fmt_iff]
  constructor
  · rintro ⟨h1, h2, h3, h4, h5⟩
    refine ⟨h1, (index_zero h1).2 h2, ?_, h5⟩
    rw [cells_drop h1, back_mem]
    exact fun h => h.elim h3 h4
  · rintro ⟨h1, h2, h3, h5⟩
    rw [cells_drop h1, back_mem] at h3
    exact ⟨h1, (index_zero h1).1 h2, fun h => h3 (.inl h), fun h => h3 (.inr h), h5⟩
theorem side_all {xs : List Int} {sy : Int} (h : sideOk xs sy 200 = true) : xs.length ≤ 200 ∧ ∀ z ∈ xs, 0 ≤ z ∧ z ≤ sy - 1 := by
  simp only [sideOk, Bool.and_eq_true, decide_eq_true_eq, List.all_eq_true, inB] at h
  exact ⟨by omega, fun z hz => h.1.2 z hz⟩
theorem conf_all {sy st : Int} {rs : List RuleD} {c : ConfD} (h : confB ⟨sy, st, rs⟩ c = true) : (0 ≤ c.q ∧ c.q < st) ∧ (c.l.length ≤ 200 ∧ ∀ z ∈ c.l, 0 ≤ z ∧ z ≤ sy - 1) ∧ (c.r.length ≤ 200 ∧ ∀ z ∈ c.r, 0 ≤ z ∧ z ≤ sy - 1) := by
  simp only [confB, Bool.and_eq_true, inB, decide_eq_true_eq] at h
  exact ⟨by omega, side_all h.1.2, side_all h.2⟩
theorem back_in {sy : Int} {c : ConfD} {half : Int} (h1 : ∀ z ∈ c.l, 0 ≤ z ∧ z ≤ sy) (h2 : ∀ z ∈ c.r, 0 ≤ z ∧ z ≤ sy) (hf : fmtB sy c half = true) : ∀ z ∈ backD c, inB z 0 (sy - 1) = true := by
  obtain ⟨_, _, f3, f4, _⟩ := (fmt_iff _ _ _).1 hf
  intro z hz
  rcases back_mem.1 hz with hz | hz
  · have a := h1 z (List.dropLast_subset _ hz)
    have : z ≠ sy := fun e => f3 (e ▸ hz)
    simp [inB]; omega
  · have a := h2 z hz
    have : z ≠ sy := fun e => f4 (e ▸ hz)
    simp [inB]; omega
theorem cells_len (c : ConfD) : (cellsD c).length = c.l.length + c.r.length := by simp [cellsD]
theorem back_len {c : ConfD} (h : 1 ≤ c.l.length) : (backD c).length + 1 = c.l.length + c.r.length := by simp [backD]; omega
/-- What the decoding of a folded configuration gives. -/
def decAll (m : MachD) (c : ConfD) : ConfD × Int :=
  if machOk m then
    match foldOf m with
    | none => (blankC, 5)
    | some s => if confB ⟨m.sy + 1, s.1.length, s.2⟩ c then decP m.sy (s.1.getD c.q.toNat ⟨0, 0, 0⟩) c else (blankC, 2)
  else (blankC, 1)
/-- The state, the half, and whether there are some. -/
def stF (sy : Int) (p : FP) (c : ConfD) : Int × Int × Bool :=
  if p.k = 0 then (p.q, p.h, true) else if p.k = 5 ∧ c.r.getD 0 0 ≠ sy then (p.q, 1, true) else (0, 0, false)
theorem decP_alt (sy : Int) (p : FP) (c : ConfD) : decP sy p c = if (stF sy p c).2.2 then (if fmtB sy c (stF sy p c).2.1 then unfD (stF sy p c).1 (backD c) c.l.length else (blankC, 9)) else (blankC, 6) := by
  unfold decP stF
  by_cases h0 : p.k = 0
  · rw [if_pos (.inl h0), if_pos h0, if_pos h0]; rfl
  · by_cases h5 : p.k = 5 ∧ c.r.getD 0 0 ≠ sy
    · rw [if_pos (.inr h5), if_neg h0, if_neg h0, if_pos h5]; rfl
    · rw [if_neg (fun h => h.elim h0 h5), if_neg h0, if_neg h5]; rfl
theorem unfD_alt {m : MachD} {q : Int} {D : List Int} {k : Nat} (hq : inB q 0 (m.st - 1) = true) (h : ∀ z ∈ D, inB z 0 (m.sy - 1) = true) (hs : 1 ≤ m.sy) :
    unfD q D k = if confB m ⟨q, unfL D (plZ k), unfR D (plZ k)⟩ then (⟨q, unfL D (plZ k), unfR D (plZ k)⟩, 0) else (blankC, 5) := by
  unfold unfD
  rw [unf_conf hq h hs]
end Go.Proofs.YtjcfmlecfjmcgaaGreatDoor
end
section
namespace Go.Proofs.YtjcfmlecfjmcgaaGreatDoor
open Go Go.RowKit Go.Proofs
def pushL (s : Int) (xs : List Int) : List Int := if s = 0 ∧ xs = [] then [] else s :: xs
def hdD (xs : List Int) : Int := xs.getD 0 0
/-- The rule that a configuration looks at. -/
def lookI (m : MachD) (c : ConfD) : RuleD := m.rules.getD (c.q * m.sy + hdD c.r).toNat noR
/-- The configuration behind a step. -/
def stepI (ru : RuleD) (c : ConfD) : ConfD :=
  if 0 < ru.m then ⟨ru.n, pushL ru.w c.l, c.r.drop 1⟩ else ⟨ru.n, c.l.drop 1, pushL (hdD c.l) (pushL ru.w (c.r.drop 1))⟩
def cfgI (m : MachD) (c : ConfD) : Nat → ConfD
  | 0 => c
  | t + 1 => stepI (lookI m (cfgI m c t)) (cfgI m c t)
def fitI (c : ConfD) : Bool := decide (c.l.length ≤ 200) && decide (c.r.length ≤ 200)
/-- A configuration of a machine. -/
structure IGood (m : MachD) (c : ConfD) : Prop where
  q0 : 0 ≤ c.q
  q1 : c.q < m.st
  l : ∀ z ∈ c.l, 0 ≤ z ∧ z < m.sy
  r : ∀ z ∈ c.r, 0 ≤ z ∧ z < m.sy
theorem hdD_of {xs : List Int} {sy : Int} (h : ∀ z ∈ xs, 0 ≤ z ∧ z < sy) (h0 : 0 < sy) : 0 ≤ hdD xs ∧ hdD xs < sy := by
  unfold hdD
  cases xs with
  | nil => exact ⟨by simp, by simpa using h0⟩
  | cons a l => exact h a List.mem_cons_self
theorem machOk_five {m : MachD} (h : machOk m = true) : (2 ≤ m.sy ∧ m.sy ≤ 6 ∧ 1 ≤ m.st ∧ m.st ≤ 1000) ∧ (m.rules.length : Int) = m.sy * m.st ∧ ∀ r ∈ m.rules, ruleOk m.sy m.st r = true := by
  simp only [machOk, inB, Bool.and_eq_true, decide_eq_true_eq, List.all_eq_true] at h
  refine ⟨by omega, by omega, h.2⟩
theorem IGood.idx {m : MachD} (hm : machOk m = true) {c : ConfD} (h : IGood m c) : ∃ k : Nat, k < m.rules.length ∧ c.q * m.sy + hdD c.r = (k : Int) := by
  obtain ⟨⟨s1, _, _, _⟩, hl, _⟩ := machOk_five hm
  have a := hdD_of h.r (by omega)
  have e1 := Int.mul_nonneg h.q0 (show 0 ≤ m.sy by omega)
  have e2 : c.q * m.sy + m.sy ≤ m.st * m.sy := by
    have := Int.mul_le_mul_of_nonneg_right (show c.q + 1 ≤ m.st from h.q1) (show 0 ≤ m.sy by omega)
    rw [Int.add_mul, Int.one_mul] at this
    exact this
  rw [Int.mul_comm] at hl
  exact ⟨(c.q * m.sy + hdD c.r).toNat, by omega, by omega⟩
theorem lookI_get {m : MachD} {c : ConfD} {k : Nat} (hk : k < m.rules.length) (e : c.q * m.sy + hdD c.r = (k : Int)) : lookI m c = m.rules[k] := by
  unfold lookI
  rw [e, Int.toNat_natCast, List.getD_eq_getElem?_getD, List.getElem?_eq_getElem hk]
  rfl
theorem pushL_mem {s z : Int} {xs : List Int} (h : z ∈ pushL s xs) : z = s ∨ z ∈ xs := by
  unfold pushL at h
  split at h
  · cases h
  · simpa using h
theorem pushL_len (s : Int) (xs : List Int) : (pushL s xs).length ≤ xs.length + 1 := by
  unfold pushL
  split <;> simp
theorem IGood.step {m : MachD} (hm : machOk m = true) {c : ConfD} (h : IGood m c) (hr : ¬ lookI m c = noR) : IGood m (stepI (lookI m c) c) := by
  obtain ⟨⟨s1, _, _, _⟩, _, hall⟩ := machOk_five hm
  obtain ⟨k, hk, e⟩ := h.idx hm
  rw [lookI_get hk e] at hr ⊢
  have hq := hall _ (List.getElem_mem hk)
  simp only [ruleOk, hr, decide_false, Bool.false_or, Bool.and_eq_true, inB, decide_eq_true_eq] at hq
  have hl := hdD_of h.l (by omega)
  unfold stepI
  split
  · refine ⟨by simp; omega, by simp; omega, fun z hz => ?_, fun z hz => h.r z (List.mem_of_mem_drop hz)⟩
    rcases pushL_mem hz with rfl | hz
    · omega
    · exact h.l z hz
  · refine ⟨by simp; omega, by simp; omega, fun z hz => h.l z (List.mem_of_mem_drop hz), fun z hz => ?_⟩
    rcases pushL_mem hz with rfl | hz
    · exact hl
    · rcases pushL_mem hz with rfl | hz
      · omega
      · exact h.r z (List.mem_of_mem_drop hz)
/-- So many steps are made from c. -/
structure RunsTo (m : MachD) (c : ConfD) (n : Nat) : Prop where
  no : ∀ i < n, ¬ lookI m (cfgI m c i) = noR
  fit : ∀ i ≤ n, fitI (cfgI m c i) = true
theorem RunsTo.zero {m : MachD} {c : ConfD} (h : fitI c = true) : RunsTo m c 0 := ⟨fun i hi => by omega, fun i hi => by
  have : i = 0 := by omega
  subst this; exact h⟩
theorem RunsTo.succ {m : MachD} {c : ConfD} {n : Nat} (h : RunsTo m c n) (h1 : ¬ lookI m (cfgI m c n) = noR) (h2 : fitI (cfgI m c (n + 1)) = true) : RunsTo m c (n + 1) :=
  ⟨fun i hi => if e : i = n then e ▸ h1 else h.no i (by omega), fun i hi => if e : i = n + 1 then e ▸ h2 else h.fit i (by omega)⟩
theorem cfg_good {m : MachD} (hm : machOk m = true) {c : ConfD} (hc : IGood m c) : ∀ n, (∀ i < n, ¬ lookI m (cfgI m c i) = noR) → IGood m (cfgI m c n) := by
  intro n
  induction n with
  | zero => intro _; exact hc
  | succ n ih => intro h; exact (ih fun i hi => h i (by omega)).step hm (h n (by omega))
end Go.Proofs.YtjcfmlecfjmcgaaGreatDoor
end
