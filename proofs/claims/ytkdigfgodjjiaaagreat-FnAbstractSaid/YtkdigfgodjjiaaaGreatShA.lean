/- Contracts of the program's small functions on shifts: the least and the greatest of numbers, sides that begin alike, configurations that fit. -/
import Derived.Test.YtkdigfgodjjiaaaGreatShQ
import Derived.Test.YtkdigfgodjjiaaaGreatRead
import Derived.Test.YtkdigfgodjjiaaaGreatListI
import Derived.BigQuiet
set_option linter.unusedSimpArgs false
set_option linter.unusedVariables false
namespace Go.Proofs.YtkdigfgodjjiaaaGreat
open Go Go.RowKit Go.Proofs
set_option maxHeartbeats 400000
theorem minL_take {xs : List Int} (h : 0 < xs.length) (k : Nat) (hk : k < xs.length) (h1 : 1 ≤ k) : minL (xs.take (k + 1)) = min (minL (xs.take k)) xs[k] := by
  cases xs with
  | nil => simp at h
  | cons a l =>
    obtain ⟨k, rfl⟩ : ∃ j, k = j + 1 := ⟨k - 1, by omega⟩
    have hk' : k < l.length := by simpa using hk
    simp only [List.take_succ_cons, minL, List.getElem_cons_succ]
    rw [List.take_succ_eq_append_getElem hk', List.foldl_append]
    rfl
theorem maxL_take {xs : List Int} (h : 0 < xs.length) (k : Nat) (hk : k < xs.length) (h1 : 1 ≤ k) : maxL (xs.take (k + 1)) = max (maxL (xs.take k)) xs[k] := by
  cases xs with
  | nil => simp at h
  | cons a l =>
    obtain ⟨k, rfl⟩ : ∃ j, k = j + 1 := ⟨k - 1, by omega⟩
    have hk' : k < l.length := by simpa using hk
    simp only [List.take_succ_cons, maxL, List.getElem_cons_succ]
    rw [List.take_succ_eq_append_getElem hk', List.foldl_append]
    rfl
theorem minL_mem : ∀ {xs : List Int}, 0 < xs.length → minL xs ∈ xs := by
  have aux : ∀ (l : List Int) (a : Int), l.foldl min a = a ∨ l.foldl min a ∈ l := by
    intro l
    induction l with
    | nil => intro a; exact .inl rfl
    | cons b l ih =>
      intro a
      rw [List.foldl_cons]
      rcases ih (min a b) with h | h
      · rw [h]
        by_cases c : a ≤ b
        · exact .inl (by omega)
        · exact .inr (by rw [show min a b = b by omega]; exact List.mem_cons_self)
      · exact .inr (List.mem_cons_of_mem _ h)
  intro xs h
  cases xs with
  | nil => simp at h
  | cons a l =>
    rcases aux l a with h | h
    · exact List.mem_cons.2 (.inl h)
    · exact List.mem_cons_of_mem _ h
theorem maxL_mem : ∀ {xs : List Int}, 0 < xs.length → maxL xs ∈ xs := by
  have aux : ∀ (l : List Int) (a : Int), l.foldl max a = a ∨ l.foldl max a ∈ l := by
    intro l
    induction l with
    | nil => intro a; exact .inl rfl
    | cons b l ih =>
      intro a
      rw [List.foldl_cons]
      rcases ih (max a b) with h | h
      · rw [h]
        by_cases c : b ≤ a
        · exact .inl (by omega)
        · exact .inr (by rw [show max a b = b by omega]; exact List.mem_cons_self)
      · exact .inr (List.mem_cons_of_mem _ h)
  intro xs h
  cases xs with
  | nil => simp at h
  | cons a l =>
    rcases aux l a with h | h
    · exact List.mem_cons.2 (.inl h)
    · exact List.mem_cons_of_mem _ h
end Go.Proofs.YtkdigfgodjjiaaaGreat
