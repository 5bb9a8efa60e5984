/- Contracts of the reference's small parts of a run of a machine: copies, sides of the tape, the index of the rule.
Contracts of the reference's small parts of a run of a machine, continued.
Contracts of the reference's small functions on lists of numbers and on configurations. Lists are short.
Contracts of the program's small functions on lists of numbers. Lists are short. -/
import Derived.Test.YtkbpchdncljlbaaGreatDoorV04
import Derived.Test.YtkbpchdncljlbaaGreatDoorV03
import Derived.Test.YtkbpchdncljlbaaGreatDoorV08
import Derived.Maps.AppendAt
section
namespace Go.Proofs.YtkbpchdncljlbaaGreatDoor
open Go Go.RowKit Go.Proofs
set_option maxHeartbeats 400000
theorem l00Own0_c (A : Option Addr) (c : Nat) (w : World) :
    Calls Tryz.prog 81 #[.slice A 0 c] w fun e w' => ∃ u, e = .returned u ∧ OwnInts w.heap.size w' u [] ∧ Ext w w' := by
  have hown0 : (w.alloc (.cells #[] 2)).ownsRow w.heap.size 2 1 (.slice (some ⟨w.heap.size, 0, none⟩) 0 0) 0 [] :=
    World.ownsRow_made (base := w.heap.size) (e := 2) (size := 1) w #[] 0 (by simp) (by unfold maxLen; omega) (by simp)
  have HO := Lib.hid hown0
  clear hown0
  cases A with
  | none =>
    go_enter Tryz.func81, Tryz.ntmps81
    go_wp2
    go_ret
    exact ⟨_, rfl, HO.out, Ext.alloc _ _⟩
  | some a =>
    go_enter Tryz.func81, Tryz.ntmps81
    go_wp2
    go_ret
    exact ⟨_, rfl, HO.out, Ext.alloc _ _⟩
theorem l00OwnA_c (v : Value) (zs : List Int) (w : World) (h : Ints w v zs) (h1 : zs.length ≤ 1048576) :
    Calls Tryz.prog 81 #[v] w fun e w' => ∃ u, e = .returned u ∧ OwnInts w.heap.size w' u zs ∧ Ext w w' := by
  by_cases h0 : 0 < zs.length
  · exact l00Own_c v zs w h h0 h1
  · have hz : zs = [] := by simpa using h0
    subst hz
    obtain ⟨A, c, rfl, _, _⟩ := h.form
    exact l00Own0_c A c w
theorem Ints.take {w : World} {A : Option Addr} {c : Nat} {zs : List Int} (h : Ints w (.slice A zs.length c) zs) (k : Nat) (hk : k ≤ zs.length) : Ints w (.slice A k c) (zs.take k) := by
  obtain ⟨A', c', hv, g1, g2, g3, g4⟩ := h
  injection hv with hA _ hc
  subst hA
  subst hc
  have hl : (zs.take k).length = k := by simp; omega
  refine ⟨A, c, by rw [hl], by omega, g2, by simp [ivs], fun hn => ?_⟩
  rw [hl] at hn
  obtain ⟨b, off, hA, hcc⟩ := g4 (by omega)
  refine ⟨b, off, hA, fun j hj => ?_⟩
  have hj' : j < k := by rw [ivs_length, hl] at hj; exact hj
  rw [hcc j (by rw [ivs_length]; omega), ivs_get zs j (by omega), ivs_get (zs.take k) j (by omega)]
  simp
/-- How many cells a side keeps when the blanks at its end go. -/
def trimN (xs : List Int) : Nat → Nat
  | 0 => 0
  | n + 1 => if xs.getD n 0 = 0 then trimN xs n else n + 1
def trim (xs : List Int) : List Int := xs.take (trimN xs xs.length)
theorem trimN_le (xs : List Int) (n : Nat) : trimN xs n ≤ n := by
  induction n with
  | zero => exact Nat.le_refl _
  | succ n ih => unfold trimN; split <;> omega
theorem trim_len (xs : List Int) : (trim xs).length ≤ xs.length := by have := trimN_le xs xs.length; simp [trim]; omega
theorem trimN_zero (xs : List Int) : ∀ n i, trimN xs n ≤ i → i < n → xs.getD i 0 = 0 := by
  intro n
  induction n with
  | zero => intro i _ h; omega
  | succ n ih =>
    intro i h1 h2
    unfold trimN at h1
    split at h1
    · rename_i h
      by_cases c : i = n
      · subst c; exact h
      · exact ih i h1 (by omega)
    · omega
theorem trim_get (xs : List Int) (i : Nat) : (trim xs).getD i 0 = xs.getD i 0 := by
  have h1 := trimN_le xs xs.length
  by_cases c : i < trimN xs xs.length
  · simp only [trim, List.getD_eq_getElem?_getD, List.getElem?_take, if_pos c]
  · have e : (trim xs).getD i 0 = 0 := by
      rw [List.getD_eq_getElem?_getD, List.getElem?_eq_none (by simp [trim]; omega)]
      rfl
    rw [e]
    by_cases d : i < xs.length
    · exact (trimN_zero xs xs.length i (by omega) d).symm
    · rw [List.getD_eq_getElem?_getD, List.getElem?_eq_none (by omega)]
      rfl
theorem trim_mem {xs : List Int} {z : Int} (h : z ∈ trim xs) : z ∈ xs := List.mem_of_mem_take h
end Go.Proofs.YtkbpchdncljlbaaGreatDoor
namespace Go.Proofs.YtkbpchdncljlbaaGreatDoor
open Go Go.RowKit Go.Proofs
set_option maxHeartbeats 400000
structure ConfR where
  q : Int
  l : List Int
  r : List Int
/-- A configuration in memory. -/
def ConfAt (w : World) (b : Nat) (c : ConfR) : Prop := ∃ lv rv, w.cell? ⟨b, 0, none⟩ = some (.int .i64 c.q) ∧ w.cell? ⟨b, 1, none⟩ = some lv ∧ w.cell? ⟨b, 2, none⟩ = some rv ∧ Ints w lv c.l ∧ Ints w rv c.r
theorem ConfAt.ext {w w' : World} {b : Nat} {c : ConfR} (h : ConfAt w b c) (he : Ext w w') : ConfAt w' b c := by
  obtain ⟨lv, rv, h1, h2, h3, h4, h5⟩ := h
  exact ⟨lv, rv, he.cell h1, he.cell h2, he.cell h3, h4.ext he, h5.ext he⟩
/-- The cell at the beginning of a side. -/
def hdR (xs : List Int) : Int := xs.getD 0 0
theorem own_litT {w : World} {base : Nat} (zs : List Int) (hb : base ≤ w.heap.size) (hl : zs.length ≤ 100) : OwnInts base (w.alloc (.cells (ivs zs).toArray 2)) (.slice (some ⟨w.heap.size, 0, none⟩) zs.length zs.length) zs :=
  ⟨by simp, .inr ⟨w.heap.size, zs.length, (ivs zs).toArray, rfl, hb, heap_alloc_new w _, Nat.le_refl _, by unfold maxLen; omega, by simp, by simp [List.take_of_length_le]⟩⟩
end Go.Proofs.YtkbpchdncljlbaaGreatDoor
end
section
namespace Go.Proofs.YtkbpchdncljlbaaGreatDoor
open Go Go.RowKit Go.Proofs
set_option maxHeartbeats 400000
theorem rev_snoc (zs : List Int) (k : Nat) (h : k < zs.length) : (zs.drop k).reverse = (zs.drop (k + 1)).reverse ++ [zs[k]] := by
  rw [List.drop_eq_getElem_cons h, List.reverse_cons]
end Go.Proofs.YtkbpchdncljlbaaGreatDoor
end
section
set_option linter.unusedSimpArgs false
set_option linter.unusedVariables false
namespace Go.Proofs.YtkbpchdncljlbaaGreatDoor
open Go Go.RowKit Go.Proofs
set_option maxHeartbeats 400000
def indexN (zs : List Int) (n : Int) : Int := if n ∈ zs then (zs.idxOf n : Nat) else -1
theorem indexN_neg (zs : List Int) (n : Int) : decide (indexN zs n ≥ 0) = decide (n ∈ zs) := by
  unfold indexN
  by_cases h : n ∈ zs <;> simp [h]
end Go.Proofs.YtkbpchdncljlbaaGreatDoor
end
