/- Contracts of the program's test whether a configuration comes again, moved. -/
import Derived.Test.YtkdigfgodjjiaaaGreatShA
import Derived.Test.YtkdigfgodjjiaaaGreatConf
import Derived.Test.YtkdigfgodjjiaaaGreatTrim
set_option linter.unusedSimpArgs false
set_option linter.unusedVariables false
namespace Go.Proofs.YtkdigfgodjjiaaaGreat
open Go Go.RowKit Go.Proofs
set_option maxHeartbeats 400000
theorem sameBeg_no {a b : List Int} {k : Int} {i : Nat} (hi : (i : Int) < k) (hne : a.getD i 0 ≠ b.getD i 0) : sameBeg a b k = false := by
  cases h : sameBeg a b k with
  | false => rfl
  | true => exact absurd (sameBeg_get h hi) hne
theorem sameBeg_yes {a b : List Int} {k : Int} (h : ∀ i : Nat, (i : Int) < k → a.getD i 0 = b.getD i 0) : sameBeg a b k = true := by
  simp only [sameBeg, List.all_eq_true, List.mem_range, beq_iff_eq]
  intro i hi
  exact h i (by omega)
/-- A slice without its first element. -/
def beyV (v : Value) (n : Nat) : Value :=
  match v with
  | .slice A _ c => if n = 0 then .slice A 0 c else if c = 1 then .slice A 0 0 else .slice (A.map fun x => x.add 1) (n - 1) (c - 1)
  | v => v
theorem beyond_c (v : Value) (xs : List Int) (w : World) (h : Ints w v xs) :
    Calls Tryz.prog 55 #[v] w fun e w' => e = .returned (beyV v xs.length) ∧ w = w' := by
  obtain ⟨A, c, rfl, h2, h2'⟩ := id h.form
  by_cases h0 : xs.length = 0
  · have hm0 : min (1 : Int) 0 = 0 := by decide
    by_cases hc : c = 0
    · have HV : Hid (beyV (.slice A xs.length c) xs.length = .slice A 0 0) := Lib.hid (by simp [beyV, h0, hc])
      rw [h0, hc] at *
      clear h
      go_enter Tryz.func55, Tryz.ntmps55
      go_wp2
      go_ret
      exact ⟨by rw [HV.out]; rfl, rfl⟩
    · have HV : Hid (beyV (.slice A xs.length c) xs.length = .slice A 0 c) := Lib.hid (by simp [beyV, h0])
      have hc0 : (0 : Int) ≤ (c : Int) := by omega
      rw [h0] at *
      clear h
      go_enter Tryz.func55, Tryz.ntmps55
      go_wp2
      go_ret
      exact ⟨by rw [HV.out]; rfl, rfl⟩
  · obtain ⟨b, off, rfl, hb⟩ := h.at (k := 0) (by omega)
    have hc1 : (1 : Int) ≤ (c : Int) := by omega
    have hl1 : (1 : Int) ≤ (xs.length : Int) := by omega
    have hmin : min (1 : Int) (xs.length : Int) = 1 := by omega
    clear hb
    by_cases hcc : c = 1
    · subst hcc
      have hl : xs.length = 1 := by omega
      have HV : Hid (beyV (.slice (some ⟨b, off, none⟩) xs.length 1) xs.length = .slice (some ⟨b, off, none⟩) 0 0) := Lib.hid (by rw [hl]; rfl)
      rw [hl] at *
      clear h
      go_enter Tryz.func55, Tryz.ntmps55
      go_wp2
      go_ret
      exact ⟨by rw [HV.out]; rfl, rfl⟩
    · have HV : Hid (beyV (.slice (some ⟨b, off, none⟩) xs.length c) xs.length = .slice (some ⟨b, off + 1, none⟩) (xs.length - 1) (c - 1)) := Lib.hid (by simp [beyV, h0, hcc, Addr.add])
      generalize xs.length = n at *
      clear h
      go_enter Tryz.func55, Tryz.ntmps55
      go_wp2
      go_ret
      exact ⟨by rw [HV.out]; rfl, rfl⟩
theorem beyV_ints {w : World} {v : Value} {xs : List Int} (h : Ints w v xs) : Ints w (beyV v xs.length) (xs.drop 1) := by
  obtain ⟨A, c, rfl, h2, h2'⟩ := id h.form
  by_cases h0 : xs.length = 0
  · have hx : xs = [] := by simpa using h0
    subst hx
    simp only [beyV, List.length_nil, if_true, List.drop_nil]
    exact ⟨_, c, rfl, h2, h2', rfl, fun hh => absurd hh (by simp)⟩
  · obtain ⟨b, off, rfl, hc⟩ := h.at (k := 0) (by omega)
    have hd := h.drop 1 (by omega)
    by_cases hcc : c = 1
    · have hx : xs.drop 1 = [] := List.drop_eq_nil_of_le (by omega)
      rw [hx]
      simp only [beyV, h0, hcc, if_true, if_false]
      exact ⟨_, 0, rfl, Nat.le_refl _, by omega, rfl, fun hh => absurd hh (by simp)⟩
    · simp only [beyV, h0, hcc, if_false]
      exact hd
/-- A call that answers v, in every world that a quiet region may come to. -/
abbrev QCall (f : FuncId) (args : Array Value) (W : World) (v : Value) : Prop := ∀ (d : Nat) (os : Array Obj), Calls Tryz.prog f args (Sort.grow (redrawn W d) os) fun e w'' => e = .returned v ∧ ∃ p : Regrown, w'' = Sort.grow (redrawn W p.d) p.os
theorem symbolAt0_c (v : Value) (zs : List Int) (w : World) (h : Ints w v zs) :
    Calls Tryz.prog 54 #[v, .int .i64 0] w fun e w' => e = .returned (.int .i64 (hdD zs)) ∧ w = w' := by
  have := symbolAt_c v zs 0 w h
  simpa [hdD] using this
end Go.Proofs.YtkdigfgodjjiaaaGreat
