/- Contracts: equal configurations; whether a formula tape stands for a configuration.
Plain words on the program's test of shifts.
Contracts of the program's test whether a configuration comes again, moved. -/
import Derived.Test.YtapjofbjedpmgaaGreatC27
import Derived.Test.YtapjofbjedpmgaaGreatC05
import Derived.Test.YtapjofbjedpmgaaGreatC04
import Derived.Test.YtapjofbjedpmgaaGreatC08
import Derived.BigQuiet
import Derived.Test.YtapjofbjedpmgaaGreatC06
section
set_option linter.unusedSimpArgs false
set_option linter.unusedVariables false
namespace Go.Proofs.YtapjofbjedpmgaaGreat
open Go Go.RowKit Go.Proofs
set_option maxHeartbeats 400000
def cfgEq (c d : ConfD) : Bool := decide (c.q = d.q) && lEq c.l d.l && lEq c.r d.r
/-- Whether a formula tape stands for a configuration. -/
def startB (f : FoD) (cs : List Int) (c : ConfD) : Bool := (cs.all fun z => inB z 1 64) && (decide ((roomR (foCfg f.q (tapeO f cs) (headO f cs))).2 = 0) && cfgEq (roomR (foCfg f.q (tapeO f cs) (headO f cs))).1 c)
end Go.Proofs.YtapjofbjedpmgaaGreat
end
section
set_option linter.unusedSimpArgs false
set_option linter.unusedVariables false
namespace Go.Proofs.YtapjofbjedpmgaaGreat
open Go Go.RowKit Go.Proofs
theorem blank_good {m : MachD} (hm : machOk m = true) : IGood m blankC := by
  obtain ⟨⟨_, _, _, _⟩, _, _⟩ := machOk_five hm
  exact ⟨Int.le_refl _, by simp only [blankC]; omega, fun z hz => by simp [blankC] at hz, fun z hz => by simp [blankC] at hz⟩
end Go.Proofs.YtapjofbjedpmgaaGreat
end
section
set_option linter.unusedSimpArgs false
set_option linter.unusedVariables false
namespace Go.Proofs.YtapjofbjedpmgaaGreat
open Go Go.RowKit Go.Proofs
set_option maxHeartbeats 400000
/-- A slice without its first element. -/
def beyV (v : Value) (n : Nat) : Value :=
  match v with
  | .slice A _ c => if n = 0 then .slice A 0 c else if c = 1 then .slice A 0 0 else .slice (A.map fun x => x.add 1) (n - 1) (c - 1)
  | v => v
theorem beyond_c (v : Value) (xs : List Int) (w : World) (h : Ints w v xs) :
    Calls Tryz.prog 39 #[v] w fun e w' => e = .returned (beyV v xs.length) ∧ w = w' := by
  obtain ⟨A, c, rfl, h2, h2'⟩ := id h.form
  by_cases h0 : xs.length = 0
  · have hm0 : min (1 : Int) 0 = 0 := by decide
    by_cases hc : c = 0
    · have HV : Hid (beyV (.slice A xs.length c) xs.length = .slice A 0 0) := Lib.hid (by simp [beyV, h0, hc])
      rw [h0, hc] at *
      clear h
      go_enter Tryz.func39, Tryz.ntmps39
      go_wp2
      go_ret
      exact ⟨by rw [HV.out]; rfl, rfl⟩
    · have HV : Hid (beyV (.slice A xs.length c) xs.length = .slice A 0 c) := Lib.hid (by simp [beyV, h0])
      have hc0 : (0 : Int) ≤ (c : Int) := by omega
      rw [h0] at *
      clear h
      go_enter Tryz.func39, Tryz.ntmps39
      go_wp2
      go_ret
      exact ⟨by rw [HV.out]; rfl, rfl⟩
  · obtain ⟨b, off, rfl, hb⟩ := h.at (k := 0) (by omega)
    have hc1 : (1 : Int) ≤ (c : Int) := by omega
    have hl1 : (1 : Int) ≤ (xs.length : Int) := by omega
    have hmin : min (1 : Int) (xs.length : Int) = 1 := by omega
    clear hb
    by_cases hcc : c = 1
    · subst hcc
      have hl : xs.length = 1 := by omega
      have HV : Hid (beyV (.slice (some ⟨b, off, none⟩) xs.length 1) xs.length = .slice (some ⟨b, off, none⟩) 0 0) := Lib.hid (by rw [hl]; rfl)
      rw [hl] at *
      clear h
      go_enter Tryz.func39, Tryz.ntmps39
      go_wp2
      go_ret
      exact ⟨by rw [HV.out]; rfl, rfl⟩
    · have HV : Hid (beyV (.slice (some ⟨b, off, none⟩) xs.length c) xs.length = .slice (some ⟨b, off + 1, none⟩) (xs.length - 1) (c - 1)) := Lib.hid (by simp [beyV, h0, hcc, Addr.add])
      generalize xs.length = n at *
      clear h
      go_enter Tryz.func39, Tryz.ntmps39
      go_wp2
      go_ret
      exact ⟨by rw [HV.out]; rfl, rfl⟩
theorem beyV_ints {w : World} {v : Value} {xs : List Int} (h : Ints w v xs) : Ints w (beyV v xs.length) (xs.drop 1) := by
  obtain ⟨A, c, rfl, h2, h2'⟩ := id h.form
  by_cases h0 : xs.length = 0
  · have hx : xs = [] := by simpa using h0
    subst hx
    simp only [beyV, List.length_nil, if_true, List.drop_nil]
    exact ⟨_, c, rfl, h2, h2', rfl, fun hh => absurd hh (by simp)⟩
  · obtain ⟨b, off, rfl, hc⟩ := h.at (k := 0) (by omega)
    have hd := h.drop 1 (by omega)
    by_cases hcc : c = 1
    · have hx : xs.drop 1 = [] := List.drop_eq_nil_of_le (by omega)
      rw [hx]
      simp only [beyV, h0, hcc, if_true, if_false]
      exact ⟨_, 0, rfl, Nat.le_refl _, by omega, rfl, fun hh => absurd hh (by simp)⟩
    · simp only [beyV, h0, hcc, if_false]
      exact hd
end Go.Proofs.YtapjofbjedpmgaaGreat
end
