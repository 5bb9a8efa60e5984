/- Plain words on the program's test of shifts.
Contracts of the program's small functions on shifts: the least and the greatest of numbers, sides that begin alike, configurations that fit.
Contracts of the program's test whether a configuration comes again, moved. -/
import Derived.Test.YtacpchapgklcgaaGreatDoorR10
import Derived.Test.YtacpchapgklcgaaGreatDoorR04
import Derived.Test.YtacpchapgklcgaaGreatDoorR09
import Derived.BigQuiet
import Derived.Test.YtacpchapgklcgaaGreatDoorR06
section
set_option linter.unusedSimpArgs false
set_option linter.unusedVariables false
namespace Go.Proofs.YtacpchapgklcgaaGreatDoor
open Go Go.RowKit Go.Proofs
/-- The first k symbols of two sides are equal. -/
def sameBeg (a b : List Int) (k : Int) : Bool := (List.range k.toNat).all fun i => a.getD i 0 == b.getD i 0
def shFits (c e : ConfD) (d k : Int) : Bool :=
  decide (c.q = e.q) && if 0 < d then decide (c.r = e.r) && sameBeg c.l e.l k else (hdD c.r == hdD e.r) && decide (c.l = e.l) && sameBeg (c.r.drop 1) (e.r.drop 1) k
def minL : List Int → Int
  | [] => 0
  | a :: l => l.foldl min a
def maxL : List Int → Int
  | [] => 0
  | a :: l => l.foldl max a
theorem foldl_min_le (l : List Int) : ∀ a, l.foldl min a ≤ a ∧ ∀ x ∈ l, l.foldl min a ≤ x := by
  induction l with
  | nil => intro a; exact ⟨Int.le_refl _, fun x hx => by simp at hx⟩
  | cons b l ih =>
    intro a
    obtain ⟨h1, h2⟩ := ih (min a b)
    rw [List.foldl_cons]
    refine ⟨by omega, fun x hx => ?_⟩
    rcases List.mem_cons.1 hx with rfl | hx
    · omega
    · exact h2 x hx
theorem foldl_max_ge (l : List Int) : ∀ a, a ≤ l.foldl max a ∧ ∀ x ∈ l, x ≤ l.foldl max a := by
  induction l with
  | nil => intro a; exact ⟨Int.le_refl _, fun x hx => by simp at hx⟩
  | cons b l ih =>
    intro a
    obtain ⟨h1, h2⟩ := ih (max a b)
    rw [List.foldl_cons]
    refine ⟨by omega, fun x hx => ?_⟩
    rcases List.mem_cons.1 hx with rfl | hx
    · omega
    · exact h2 x hx
theorem minL_le {xs : List Int} {x : Int} (h : x ∈ xs) : minL xs ≤ x := by
  cases xs with
  | nil => simp at h
  | cons a l =>
    rcases List.mem_cons.1 h with rfl | h
    · exact (foldl_min_le l _).1
    · exact (foldl_min_le l a).2 x h
theorem maxL_ge {xs : List Int} {x : Int} (h : x ∈ xs) : x ≤ maxL xs := by
  cases xs with
  | nil => simp at h
  | cons a l =>
    rcases List.mem_cons.1 h with rfl | h
    · exact (foldl_max_ge l _).1
    · exact (foldl_max_ge l a).2 x h
/-- How far the head has been behind its first position. -/
def behB (ps : List Int) (d : Int) : Int := if 0 < d then ps.getD 0 0 - minL ps else maxL ps - ps.getD 0 0
/-- The positions of the first steps. -/
def posL (m : MachD) (c : ConfD) (n : Nat) : List Int := (List.range (n + 1)).map (posI m c)
theorem posL_len (m : MachD) (c : ConfD) (n : Nat) : (posL m c n).length = n + 1 := by simp [posL]
theorem posL_get (m : MachD) (c : ConfD) (n i : Nat) (h : i ≤ n) : (posL m c n)[i]? = some (posI m c i) := by
  rw [posL, List.getElem?_map, List.getElem?_range (by omega)]
  rfl
theorem posL_succ (m : MachD) (c : ConfD) (n : Nat) : posL m c (n + 1) = posL m c n ++ [posI m c (n + 1)] := by
  simp [posL, List.range_succ]
theorem posL_cut (m : MachD) (c : ConfD) (n a b : Nat) (h : a + b ≤ n) : ((posL m c n).drop a).take (b + 1) = (List.range (b + 1)).map fun i => posI m c (a + i) := by
  apply List.ext_getElem?
  intro i
  by_cases hi : i < b + 1
  · rw [List.getElem?_take_of_lt hi, List.getElem?_drop, posL_get m c n (a + i) (by omega), List.getElem?_map, List.getElem?_range hi]
    rfl
  · rw [List.getElem?_eq_none (by simp [posL]; omega), List.getElem?_eq_none (by simp; omega)]
theorem sameBeg_get {a b : List Int} {k : Int} (h : sameBeg a b k = true) {i : Nat} (hi : (i : Int) < k) : a.getD i 0 = b.getD i 0 := by
  simp only [sameBeg, List.all_eq_true, List.mem_range, beq_iff_eq] at h
  exact h i (by omega)
/-- The places that the head has been to in between, and what is behind them. -/
def dirD (d K : Int) (z : Int) : Prop := if 0 < d then -K ≤ z else z ≤ K
theorem fits_mt {c e : ConfD} {d K : Int} (hd : d ≠ 0) (h : shFits c e d K = true) : Mt (dirD d K) 0 c e := by
  unfold shFits at h
  simp only [Bool.and_eq_true, decide_eq_true_eq] at h
  obtain ⟨hq, h⟩ := h
  refine ⟨hq, fun z hz => ?_⟩
  rw [Int.sub_zero]
  unfold dirD at hz
  split at h
  · rename_i hp
    rw [if_pos hp] at hz
    simp only [Bool.and_eq_true, decide_eq_true_eq] at h
    unfold cellC
    by_cases h0 : 0 ≤ z
    · rw [if_pos h0, if_pos h0, h.1]
    · rw [if_neg h0, if_neg h0]
      exact sameBeg_get h.2 (by omega)
  · rename_i hp
    rw [if_neg hp] at hz
    simp only [Bool.and_eq_true, decide_eq_true_eq, beq_iff_eq] at h
    obtain ⟨⟨h1, h2⟩, h3⟩ := h
    unfold cellC
    by_cases h0 : 0 ≤ z
    · rw [if_pos h0, if_pos h0]
      by_cases hz0 : z = 0
      · subst hz0
        exact h1
      · obtain ⟨k, hk⟩ : ∃ k : Nat, z.toNat = k + 1 := ⟨z.toNat - 1, by omega⟩
        rw [hk, ← drop1_getD, ← drop1_getD]
        exact sameBeg_get h3 (by omega)
    · rw [if_neg h0, if_neg h0, h2]
theorem dir_up {d K z : Int} (h : dirD d K z) : dirD d K (z + d) := by
  unfold dirD at *
  split
  · rename_i hp; rw [if_pos hp] at h; omega
  · rename_i hp; rw [if_neg hp] at h; omega
theorem beh_in (m : MachD) (c : ConfD) (a b : Nat) (d : Int) (i : Nat) (hi : i ≤ b) : dirD d (behB ((List.range (b + 1)).map fun i => posI m c (a + i)) d) (posI m c (a + i) - posI m c a) := by
  have h0 : ((List.range (b + 1)).map fun i => posI m c (a + i)).getD 0 0 = posI m c a := by
    rw [List.getD_eq_getElem?_getD, List.getElem?_map, List.getElem?_range (by omega)]
    rfl
  have hm : posI m c (a + i) ∈ (List.range (b + 1)).map fun i => posI m c (a + i) := List.mem_map.2 ⟨i, List.mem_range.2 (by omega), rfl⟩
  have h1 := minL_le hm
  have h2 := maxL_ge hm
  unfold dirD behB
  split
  · rw [h0]; omega
  · rw [h0]; omega
/-- A shift: behind a steps and behind a + b steps the machine is in configurations that agree, moved by d. -/
structure Shift (m : MachD) (a b : Nat) (d : Int) : Prop where
  b1 : 1 ≤ b
  d0 : d ≠ 0
  runs : RunsTo m blankC (a + b)
  dist : posI m blankC (a + b) - posI m blankC a = d
  fits : shFits (cfgI m blankC a) (cfgI m blankC (a + b)) d (behB ((List.range (b + 1)).map fun i => posI m blankC (a + i)) d) = true
theorem blank_good {m : MachD} (hm : machOk m = true) : IGood m blankC := by
  obtain ⟨⟨_, _, _, _⟩, _, _⟩ := machOk_five hm
  exact ⟨Int.le_refl _, by simp only [blankC]; omega, fun z hz => by simp [blankC] at hz, fun z hz => by simp [blankC] at hz⟩
theorem Shift.forever {m : MachD} (hm : machOk m = true) {a b : Nat} {d : Int} (h : Shift m a b d) (i : Nat) : ¬ lookI m (cfgI m blankC i) = noR := by
  have := (shift_all hm (blank_good hm) h.b1 h.dist (fun z => dir_up) (fits_mt h.d0 h.fits) (beh_in m blankC a b d) h.runs.no (i + 1)).1
  exact this i (by omega)
theorem Shift.times {m : MachD} (hm : machOk m = true) {a b : Nat} {d : Int} (h : Shift m a b d) (k : Nat) :
    (cfgI m blankC (a + k * b)).q = (cfgI m blankC a).q ∧ posI m blankC (a + k * b) - posI m blankC a = k * d :=
  shift_times hm (blank_good hm) h.b1 h.dist (fun z => dir_up) (fits_mt h.d0 h.fits) (beh_in m blankC a b d) h.runs.no k
end Go.Proofs.YtacpchapgklcgaaGreatDoor
end
section
set_option linter.unusedSimpArgs false
set_option linter.unusedVariables false
namespace Go.Proofs.YtacpchapgklcgaaGreatDoor
open Go Go.RowKit Go.Proofs
set_option maxHeartbeats 400000
theorem minL_take {xs : List Int} (h : 0 < xs.length) (k : Nat) (hk : k < xs.length) (h1 : 1 ≤ k) : minL (xs.take (k + 1)) = min (minL (xs.take k)) xs[k] := by
  cases xs with
  | nil => simp at h
  | cons a l =>
    obtain ⟨k, rfl⟩ : ∃ j, k = j + 1 := ⟨k - 1, by omega⟩
    have hk' : k < l.length := by simpa using hk
    simp only [List.take_succ_cons, minL, List.getElem_cons_succ]
    rw [List.take_succ_eq_append_getElem hk', List.foldl_append]
    rfl
theorem maxL_take {xs : List Int} (h : 0 < xs.length) (k : Nat) (hk : k < xs.length) (h1 : 1 ≤ k) : maxL (xs.take (k + 1)) = max (maxL (xs.take k)) xs[k] := by
  cases xs with
  | nil => simp at h
  | cons a l =>
    obtain ⟨k, rfl⟩ : ∃ j, k = j + 1 := ⟨k - 1, by omega⟩
    have hk' : k < l.length := by simpa using hk
    simp only [List.take_succ_cons, maxL, List.getElem_cons_succ]
    rw [List.take_succ_eq_append_getElem hk', List.foldl_append]
    rfl
theorem minL_mem : ∀ {xs : List Int}, 0 < xs.length → minL xs ∈ xs := by
  have aux : ∀ (l : List Int) (a : Int), l.foldl min a = a ∨ l.foldl min a ∈ l := by
    intro l
    induction l with
    | nil => intro a; exact .inl rfl
    | cons b l ih =>
      intro a
      rw [List.foldl_cons]
      rcases ih (min a b) with h | h
      · rw [h]
        by_cases c : a ≤ b
        · exact .inl (by omega)
        · exact .inr (by rw [show min a b = b by omega]; exact List.mem_cons_self)
      · exact .inr (List.mem_cons_of_mem _ h)
  intro xs h
  cases xs with
  | nil => simp at h
  | cons a l =>
    rcases aux l a with h | h
    · exact List.mem_cons.2 (.inl h)
    · exact List.mem_cons_of_mem _ h
theorem maxL_mem : ∀ {xs : List Int}, 0 < xs.length → maxL xs ∈ xs := by
  have aux : ∀ (l : List Int) (a : Int), l.foldl max a = a ∨ l.foldl max a ∈ l := by
    intro l
    induction l with
    | nil => intro a; exact .inl rfl
    | cons b l ih =>
      intro a
      rw [List.foldl_cons]
      rcases ih (max a b) with h | h
      · rw [h]
        by_cases c : b ≤ a
        · exact .inl (by omega)
        · exact .inr (by rw [show max a b = b by omega]; exact List.mem_cons_self)
      · exact .inr (List.mem_cons_of_mem _ h)
  intro xs h
  cases xs with
  | nil => simp at h
  | cons a l =>
    rcases aux l a with h | h
    · exact List.mem_cons.2 (.inl h)
    · exact List.mem_cons_of_mem _ h
end Go.Proofs.YtacpchapgklcgaaGreatDoor
end
section
set_option linter.unusedSimpArgs false
set_option linter.unusedVariables false
namespace Go.Proofs.YtacpchapgklcgaaGreatDoor
open Go Go.RowKit Go.Proofs
set_option maxHeartbeats 400000
theorem sameBeg_no {a b : List Int} {k : Int} {i : Nat} (hi : (i : Int) < k) (hne : a.getD i 0 ≠ b.getD i 0) : sameBeg a b k = false := by
  cases h : sameBeg a b k with
  | false => rfl
  | true => exact absurd (sameBeg_get h hi) hne
theorem sameBeg_yes {a b : List Int} {k : Int} (h : ∀ i : Nat, (i : Int) < k → a.getD i 0 = b.getD i 0) : sameBeg a b k = true := by
  simp only [sameBeg, List.all_eq_true, List.mem_range, beq_iff_eq]
  intro i hi
  exact h i (by omega)
/-- A slice without its first element. -/
def beyV (v : Value) (n : Nat) : Value :=
  match v with
  | .slice A _ c => if n = 0 then .slice A 0 c else if c = 1 then .slice A 0 0 else .slice (A.map fun x => x.add 1) (n - 1) (c - 1)
  | v => v
theorem beyV_ints {w : World} {v : Value} {xs : List Int} (h : Ints w v xs) : Ints w (beyV v xs.length) (xs.drop 1) := by
  obtain ⟨A, c, rfl, h2, h2'⟩ := id h.form
  by_cases h0 : xs.length = 0
  · have hx : xs = [] := by simpa using h0
    subst hx
    simp only [beyV, List.length_nil, if_true, List.drop_nil]
    exact ⟨_, c, rfl, h2, h2', rfl, fun hh => absurd hh (by simp)⟩
  · obtain ⟨b, off, rfl, hc⟩ := h.at (k := 0) (by omega)
    have hd := h.drop 1 (by omega)
    by_cases hcc : c = 1
    · have hx : xs.drop 1 = [] := List.drop_eq_nil_of_le (by omega)
      rw [hx]
      simp only [beyV, h0, hcc, if_true, if_false]
      exact ⟨_, 0, rfl, Nat.le_refl _, by omega, rfl, fun hh => absurd hh (by simp)⟩
    · simp only [beyV, h0, hcc, if_false]
      exact hd
/-- A call that answers v, in every world that a quiet region may come to. -/
abbrev QCall (f : FuncId) (args : Array Value) (W : World) (v : Value) : Prop := ∀ (d : Nat) (os : Array Obj), Calls Tryz.prog f args (Sort.grow (redrawn W d) os) fun e w'' => e = .returned v ∧ ∃ p : Regrown, w'' = Sort.grow (redrawn W p.d) p.os
end Go.Proofs.YtacpchapgklcgaaGreatDoor
end
