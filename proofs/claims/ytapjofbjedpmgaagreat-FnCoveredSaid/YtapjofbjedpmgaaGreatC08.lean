/- Contracts of the reference's step of a machine.
Plain words on configurations of a machine: one that is valid, and the reference's step of it.
Contracts of the program's small functions on lists of numbers. Lists are short. -/
import Derived.Test.YtapjofbjedpmgaaGreatC06
import Derived.Test.YtapjofbjedpmgaaGreatC07
import Derived.Deep.RegionHeld3
import Derived.Deep.RegionLaw
import Derived.Test.YtapjofbjedpmgaaGreatC05
import Derived.Maps.AppendAt
section
namespace Go.Proofs.YtapjofbjedpmgaaGreat
open Go Go.RowKit Go.Proofs
set_option maxHeartbeats 400000
def ConfV (w : World) (v : Value) (c : ConfR) : Prop := ∃ lv rv bl br, v = .agg #[.int .i64 c.q, lv, rv] ∧ OwnInts bl w lv c.l ∧ OwnInts br w rv c.r
theorem ConfV.ext {w w' : World} {v : Value} {c : ConfR} (h : ConfV w v c) (he : Ext w w') : ConfV w' v c := by
  obtain ⟨lv, rv, bl, br, hv, h1, h2⟩ := h
  exact ⟨lv, rv, bl, br, hv, h1.ext he, h2.ext he⟩
end Go.Proofs.YtapjofbjedpmgaaGreat
end
section
set_option linter.unusedSimpArgs false
set_option linter.unusedVariables false
namespace Go.Proofs.YtapjofbjedpmgaaGreat
open Go Go.RowKit Go.Proofs
theorem conf_good {m : MachD} {c : ConfD} (h : confB m c = true) : IGood m c ∧ (c.l.length ≤ 200 ∧ c.r.length ≤ 200) ∧ tidyL c.l ∧ tidyL c.r := by
  simp only [confB, sideOk, inB, Bool.and_eq_true, Bool.or_eq_true, decide_eq_true_eq, List.all_eq_true, beq_iff_eq, bne_iff_ne, ne_eq] at h
  obtain ⟨⟨hq, ⟨hl1, hl2⟩, hl3⟩, ⟨hr1, hr2⟩, hr3⟩ := h
  refine ⟨⟨by omega, by omega, fun z hz => by have := hl2 z hz; omega, fun z hz => by have := hr2 z hz; omega⟩, ⟨by omega, by omega⟩, ?_, ?_⟩
  · rcases hl3 with h | h
    · exact .inl (List.length_eq_zero_iff.1 (by omega))
    · exact .inr h
  · rcases hr3 with h | h
    · exact .inl (List.length_eq_zero_iff.1 (by omega))
    · exact .inr h
theorem conf_back {m : MachD} {c : ConfD} (hg : IGood m c) (hf : c.l.length ≤ 200 ∧ c.r.length ≤ 200) (ht : tidyL c.l ∧ tidyL c.r) : confB m c = true := by
  have side : ∀ xs : List Int, xs.length ≤ 200 → (∀ z ∈ xs, 0 ≤ z ∧ z < m.sy) → tidyL xs → sideOk xs m.sy 200 = true := fun xs h1 h2 h3 => by
    simp only [sideOk, inB, Bool.and_eq_true, Bool.or_eq_true, decide_eq_true_eq, List.all_eq_true, beq_iff_eq, bne_iff_ne, ne_eq]
    refine ⟨⟨by omega, fun z hz => by have := h2 z hz; omega⟩, ?_⟩
    rcases h3 with h3 | h3
    · left; rw [h3]; rfl
    · exact .inr h3
  simp only [confB, Bool.and_eq_true]
  refine ⟨⟨?_, side _ hf.1 hg.l ht.1⟩, side _ hf.2 hg.r ht.2⟩
  have h0 := hg.q0
  have h1 := hg.q1
  simp only [inB, Bool.and_eq_true, decide_eq_true_eq]
  omega
/-- The reference's words on a configuration. -/
def cR (c : ConfD) : ConfR := ⟨c.q, c.l, c.r⟩
end Go.Proofs.YtapjofbjedpmgaaGreat
end
section
set_option linter.unusedSimpArgs false
set_option linter.unusedVariables false
namespace Go.Proofs.YtapjofbjedpmgaaGreat
open Go Go.RowKit Go.Proofs
set_option maxHeartbeats 400000
theorem symbolAt_c (v : Value) (zs : List Int) (k : Nat) (w : World) (h : Ints w v zs) :
    Calls Tryz.prog 103 #[v, .int .i64 k] w fun e w' => e = .returned (.int .i64 (zs.getD k 0)) ∧ w = w' := by
  obtain ⟨A, c, rfl, h2, h2'⟩ := h.form
  by_cases hlt : k < zs.length
  · obtain ⟨b, off, rfl, hc⟩ := h.at hlt
    have c0 := hc k hlt
    have HR : Hid (zs.getD k 0 = zs[k]) := by unfold Hid; rw [List.getD_eq_getElem?_getD, List.getElem?_eq_getElem hlt]; rfl
    generalize zs[k] = z at *
    clear hc
    go_enter Tryz.func103, Tryz.ntmps103
    go_wp2
    go_ret
    exact ⟨by rw [HR.out]; rfl, rfl⟩
  · have HR : Hid (zs.getD k 0 = 0) := by unfold Hid; rw [List.getD_eq_getElem?_getD, List.getElem?_eq_none (by omega)]; rfl
    go_enter Tryz.func103, Tryz.ntmps103
    go_wp2
    go_ret
    exact ⟨by rw [HR.out]; rfl, rfl⟩
end Go.Proofs.YtapjofbjedpmgaaGreat
end
