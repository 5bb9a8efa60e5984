/- Contracts of the reference's small parts of a run of a machine: copies, sides of the tape, the index of the rule.
Contracts of the reference's small parts of a run of a machine, continued. -/
import Derived.Test.YtpdnmhhieokogaaRead
import Derived.Test.YtpdnmhhieokogaaValid
import Derived.Test.YtpdnmhhieokogaaHalt
namespace Go.Proofs.Ytpdnmhhieokogaa
open Go Go.RowKit Go.Proofs
set_option maxHeartbeats 400000
theorem Ints.take {w : World} {A : Option Addr} {c : Nat} {zs : List Int} (h : Ints w (.slice A zs.length c) zs) (k : Nat) (hk : k ≤ zs.length) : Ints w (.slice A k c) (zs.take k) := by
  obtain ⟨A', c', hv, g1, g2, g3, g4⟩ := h
  injection hv with hA _ hc
  subst hA
  subst hc
  have hl : (zs.take k).length = k := by simp; omega
  refine ⟨A, c, by rw [hl], by omega, g2, by simp [ivs], fun hn => ?_⟩
  rw [hl] at hn
  obtain ⟨b, off, hA, hcc⟩ := g4 (by omega)
  refine ⟨b, off, hA, fun j hj => ?_⟩
  have hj' : j < k := by rw [ivs_length, hl] at hj; exact hj
  rw [hcc j (by rw [ivs_length]; omega), ivs_get zs j (by omega), ivs_get (zs.take k) j (by omega)]
  simp
/-- How many cells a side keeps when the blanks at its end go. -/
def trimN (xs : List Int) : Nat → Nat
  | 0 => 0
  | n + 1 => if xs.getD n 0 = 0 then trimN xs n else n + 1
def trim (xs : List Int) : List Int := xs.take (trimN xs xs.length)
theorem trimN_le (xs : List Int) (n : Nat) : trimN xs n ≤ n := by
  induction n with
  | zero => exact Nat.le_refl _
  | succ n ih => unfold trimN; split <;> omega
theorem trim_len (xs : List Int) : (trim xs).length ≤ xs.length := by have := trimN_le xs xs.length; simp [trim]; omega
theorem trimN_zero (xs : List Int) : ∀ n i, trimN xs n ≤ i → i < n → xs.getD i 0 = 0 := by
  intro n
  induction n with
  | zero => intro i _ h; omega
  | succ n ih =>
    intro i h1 h2
    unfold trimN at h1
    split at h1
    · rename_i h
      by_cases c : i = n
      · subst c; exact h
      · exact ih i h1 (by omega)
    · omega
theorem trim_get (xs : List Int) (i : Nat) : (trim xs).getD i 0 = xs.getD i 0 := by
  have h1 := trimN_le xs xs.length
  by_cases c : i < trimN xs xs.length
  · simp only [trim, List.getD_eq_getElem?_getD, List.getElem?_take, if_pos c]
  · have e : (trim xs).getD i 0 = 0 := by
      rw [List.getD_eq_getElem?_getD, List.getElem?_eq_none (by simp [trim]; omega)]
      rfl
    rw [e]
    by_cases d : i < xs.length
    · exact (trimN_zero xs xs.length i (by omega) d).symm
    · rw [List.getD_eq_getElem?_getD, List.getElem?_eq_none (by omega)]
      rfl
theorem trim_mem {xs : List Int} {z : Int} (h : z ∈ trim xs) : z ∈ xs := List.mem_of_mem_take h
end Go.Proofs.Ytpdnmhhieokogaa
namespace Go.Proofs.Ytpdnmhhieokogaa
open Go Go.RowKit Go.Proofs
set_option maxHeartbeats 400000
structure ConfR where
  q : Int
  l : List Int
  r : List Int
/-- A configuration in memory. -/
def ConfAt (w : World) (b : Nat) (c : ConfR) : Prop := ∃ lv rv, w.cell? ⟨b, 0, none⟩ = some (.int .i64 c.q) ∧ w.cell? ⟨b, 1, none⟩ = some lv ∧ w.cell? ⟨b, 2, none⟩ = some rv ∧ Ints w lv c.l ∧ Ints w rv c.r
theorem ConfAt.ext {w w' : World} {b : Nat} {c : ConfR} (h : ConfAt w b c) (he : Ext w w') : ConfAt w' b c := by
  obtain ⟨lv, rv, h1, h2, h3, h4, h5⟩ := h
  exact ⟨lv, rv, he.cell h1, he.cell h2, he.cell h3, h4.ext he, h5.ext he⟩
/-- The cell at the beginning of a side. -/
def hdR (xs : List Int) : Int := xs.getD 0 0
end Go.Proofs.Ytpdnmhhieokogaa
