/- Contracts of the program's test whether a configuration comes again, moved.
Contracts on a machine with two automata, continued: the abstraction of a configuration. -/
import Derived.Test.YtacpchapgklcgaaGreatDoorQ38
import Derived.Test.YtacpchapgklcgaaGreatDoorQ18
import Derived.Test.YtacpchapgklcgaaGreatDoorQ37
import Derived.Test.YtacpchapgklcgaaGreatDoorQ20
import Derived.Deep.RegionHeld3
section
set_option linter.unusedSimpArgs false
set_option linter.unusedVariables false
namespace Go.Proofs.YtacpchapgklcgaaGreatDoor
open Go Go.RowKit Go.Proofs
set_option maxHeartbeats 400000
theorem sameBeg_no {a b : List Int} {k : Int} {i : Nat} (hi : (i : Int) < k) (hne : a.getD i 0 ≠ b.getD i 0) : sameBeg a b k = false := by
  cases h : sameBeg a b k with
  | false => rfl
  | true => exact absurd (sameBeg_get h hi) hne
theorem sameBeg_yes {a b : List Int} {k : Int} (h : ∀ i : Nat, (i : Int) < k → a.getD i 0 = b.getD i 0) : sameBeg a b k = true := by
  simp only [sameBeg, List.all_eq_true, List.mem_range, beq_iff_eq]
  intro i hi
  exact h i (by omega)
/-- A slice without its first element. -/
def beyV (v : Value) (n : Nat) : Value :=
  match v with
  | .slice A _ c => if n = 0 then .slice A 0 c else if c = 1 then .slice A 0 0 else .slice (A.map fun x => x.add 1) (n - 1) (c - 1)
  | v => v
theorem beyV_ints {w : World} {v : Value} {xs : List Int} (h : Ints w v xs) : Ints w (beyV v xs.length) (xs.drop 1) := by
  obtain ⟨A, c, rfl, h2, h2'⟩ := id h.form
  by_cases h0 : xs.length = 0
  · have hx : xs = [] := by simpa using h0
    subst hx
    simp only [beyV, List.length_nil, if_true, List.drop_nil]
    exact ⟨_, c, rfl, h2, h2', rfl, fun hh => absurd hh (by simp)⟩
  · obtain ⟨b, off, rfl, hc⟩ := h.at (k := 0) (by omega)
    have hd := h.drop 1 (by omega)
    by_cases hcc : c = 1
    · have hx : xs.drop 1 = [] := List.drop_eq_nil_of_le (by omega)
      rw [hx]
      simp only [beyV, h0, hcc, if_true, if_false]
      exact ⟨_, 0, rfl, Nat.le_refl _, by omega, rfl, fun hh => absurd hh (by simp)⟩
    · simp only [beyV, h0, hcc, if_false]
      exact hd
/-- A call that answers v, in every world that a quiet region may come to. -/
abbrev QCall (f : FuncId) (args : Array Value) (W : World) (v : Value) : Prop := ∀ (d : Nat) (os : Array Obj), Calls Tryz.prog f args (Sort.grow (redrawn W d) os) fun e w'' => e = .returned v ∧ ∃ p : Regrown, w'' = Sort.grow (redrawn W p.d) p.os
end Go.Proofs.YtacpchapgklcgaaGreatDoor
end
section
set_option linter.unusedSimpArgs false
set_option linter.unusedVariables false
set_option linter.unusedSectionVars false
set_option maxHeartbeats 4000000
namespace Go.Proofs.YtacpchapgklcgaaGreatDoor
open Go Go.RowKit Go.Proofs
theorem beyV_flat {w : World} {v : Value} {xs : List Int} (hi : Ints w v xs) (h : Flat v) : Flat (beyV v xs.length) := by
  obtain ⟨A, c, rfl, g1, g2⟩ := hi.form
  rcases h with e | ⟨b, off, k, c', e⟩
  · injection e with e1 e2 e3
    subst e1 e3
    left
    simp only [beyV, e2, if_true]
  · injection e with e1 e2 e3
    subst e1
    right
    by_cases h0 : xs.length = 0
    · exact ⟨b, off, 0, c, by simp only [beyV, h0, if_true]⟩
    · by_cases h1 : c = 1
      · exact ⟨b, off, 0, 0, by simp only [beyV, h0, h1, if_true, if_false]⟩
      · exact ⟨b, off + 1, xs.length - 1, c - 1, by simp [beyV, h0, h1, Addr.add]⟩
/-- An outline as a value. -/
def outV (a : Outl) : Value := .agg #[.int .i64 a.1, .int .i64 a.2.1, .int .i64 a.2.2.1, .int .i64 a.2.2.2]
theorem KSgen {W w8 : World} {g : Nat} {t1 t2 : TypeId} {a0 a1 a2 a3 a4 a5 a6 k0 k1 k2 : Value} (bA : Blk W g t1 #[a0, a1, a2, a3, a4, a5, a6]) (bC : Blk W (g + 1) t2 #[k0, k1, k2]) (hE : Ext W w8) (x y z t : Value) :
    ((((w8.setCell ⟨g + 1 + 1, 0, none⟩ x).setCell ⟨g + 1 + 1, 1, none⟩ y).setCell ⟨g + 1 + 1, 2, none⟩ z).setCell ⟨g + 1 + 1, 3, none⟩ t).cell? ⟨g, 3, none⟩ = some a3 ∧ ((((w8.setCell ⟨g + 1 + 1, 0, none⟩ x).setCell ⟨g + 1 + 1, 1, none⟩ y).setCell ⟨g + 1 + 1, 2, none⟩ z).setCell ⟨g + 1 + 1, 3, none⟩ t).cell? ⟨g, 4, none⟩ = some a4 ∧
    ((((w8.setCell ⟨g + 1 + 1, 0, none⟩ x).setCell ⟨g + 1 + 1, 1, none⟩ y).setCell ⟨g + 1 + 1, 2, none⟩ z).setCell ⟨g + 1 + 1, 3, none⟩ t).cell? ⟨g, 5, none⟩ = some a5 ∧ ((((w8.setCell ⟨g + 1 + 1, 0, none⟩ x).setCell ⟨g + 1 + 1, 1, none⟩ y).setCell ⟨g + 1 + 1, 2, none⟩ z).setCell ⟨g + 1 + 1, 3, none⟩ t).cell? ⟨g, 6, none⟩ = some a6 ∧
    ((((w8.setCell ⟨g + 1 + 1, 0, none⟩ x).setCell ⟨g + 1 + 1, 1, none⟩ y).setCell ⟨g + 1 + 1, 2, none⟩ z).setCell ⟨g + 1 + 1, 3, none⟩ t).cell? ⟨g + 1, 0, none⟩ = some k0 ∧ ((((w8.setCell ⟨g + 1 + 1, 0, none⟩ x).setCell ⟨g + 1 + 1, 1, none⟩ y).setCell ⟨g + 1 + 1, 2, none⟩ z).setCell ⟨g + 1 + 1, 3, none⟩ t).cell? ⟨g + 1, 1, none⟩ = some k1 ∧
    ((((w8.setCell ⟨g + 1 + 1, 0, none⟩ x).setCell ⟨g + 1 + 1, 1, none⟩ y).setCell ⟨g + 1 + 1, 2, none⟩ z).setCell ⟨g + 1 + 1, 3, none⟩ t).cell? ⟨g + 1, 2, none⟩ = some k2 := by
  have na : g ≠ g + 1 + 1 := by omega
  have nc : g + 1 ≠ g + 1 + 1 := by omega
  have hA := ((((bA.ext hE).far (p := ⟨g + 1 + 1, 0, none⟩) na x).far (p := ⟨g + 1 + 1, 1, none⟩) na y).far (p := ⟨g + 1 + 1, 2, none⟩) na z).far (p := ⟨g + 1 + 1, 3, none⟩) na t
  have hC := ((((bC.ext hE).far (p := ⟨g + 1 + 1, 0, none⟩) nc x).far (p := ⟨g + 1 + 1, 1, none⟩) nc y).far (p := ⟨g + 1 + 1, 2, none⟩) nc z).far (p := ⟨g + 1 + 1, 3, none⟩) nc t
  exact ⟨hA.cell 3, hA.cell 4, hA.cell 5, hA.cell 6, hC.cell 0, hC.cell 1, hC.cell 2⟩
end Go.Proofs.YtacpchapgklcgaaGreatDoor
end
