/- Plain words for the cells of a formula tape, and the contract of formulaAt.
Contract: the configuration of a formula tape.
Contract: the reference's judgement of a formula tape whose lists are in order: whether the head is. -/
import Derived.Test.YtapjofbjedpmgaaGreatC22
import Derived.Test.YtapjofbjedpmgaaGreatC03
import Derived.Test.YtapjofbjedpmgaaGreatC14
import Derived.Test.YtapjofbjedpmgaaGreatC17
import Derived.Test.YtapjofbjedpmgaaGreatC04
import Derived.Maps.AppendAt
import Derived.Laws.AppendOwnNone
import Derived.Test.YtapjofbjedpmgaaGreatC09
import Derived.Deep.DeepCutAuto
import Derived.Test.YtapjofbjedpmgaaGreatC20
section
set_option linter.unusedSimpArgs false
set_option linter.unusedVariables false
namespace Go.Proofs.YtapjofbjedpmgaaGreat
open Go Go.RowKit Go.Proofs
set_option maxHeartbeats 400000
theorem foOk_parts {m : MachD} {f : FoD} (h : foOk m f = true) : (1 ≤ f.rs.length ∧ f.rs.length ≤ 3) ∧ f.ws.length = f.rs.length + 1 ∧ f.os.length = f.rs.length ∧ (∀ x ∈ f.ws, x.length ≤ 100) ∧ (∀ r ∈ f.rs, 1 ≤ r.length ∧ r.length ≤ 20) ∧ (∀ o ∈ f.os, -1000 ≤ o ∧ o ≤ 1000) ∧ atOk f = true := by
  unfold foOk at h
  simp only [Bool.and_eq_true, decide_eq_true_eq, List.all_eq_true] at h
  obtain ⟨⟨⟨⟨⟨⟨⟨⟨_, a⟩, b⟩, c⟩, d⟩, e⟩, o⟩, _⟩, t⟩ := h
  refine ⟨by have := inB_iff.1 a; omega, b, c, fun x hx => ?_, fun r hr => ?_, fun z hz => by have := inB_iff.1 (o z hz); omega, t⟩
  · have := d x hx
    simp only [wordIn, Bool.and_eq_true, decide_eq_true_eq] at this
    exact this.1
  · have := e r hr
    simp only [repIn, wordIn, Bool.and_eq_true, decide_eq_true_eq] at this
    exact ⟨this.1, this.2.1⟩
theorem foOk_hd {m : MachD} {f : FoD} (h : foOk m f = true) : 0 ≤ f.hd ∧ f.hd ≤ (f.rs.length : Int) := by
  unfold foOk at h
  simp only [Bool.and_eq_true, decide_eq_true_eq, List.all_eq_true] at h
  obtain ⟨⟨_, h⟩, _⟩ := h
  exact inB_iff.1 h
end Go.Proofs.YtapjofbjedpmgaaGreat
end
section
set_option linter.unusedSimpArgs false
set_option linter.unusedVariables false
namespace Go.Proofs.YtapjofbjedpmgaaGreat
open Go Go.RowKit Go.Proofs
set_option maxHeartbeats 400000
def roomR (r : ConfD) : ConfD × Int := if (decide (r.l.length ≤ 200) && decide (r.r.length ≤ 200)) = true then (r, 0) else (blankC, 5)
end Go.Proofs.YtapjofbjedpmgaaGreat
end
section
set_option linter.unusedSimpArgs false
set_option linter.unusedVariables false
namespace Go.Proofs.YtapjofbjedpmgaaGreat
open Go Go.RowKit Go.Proofs
set_option maxHeartbeats 400000
/-- All but the head's place is in order. -/
structure FoGd (m : MachD) (f : FoD) : Prop where
  q : 0 ≤ f.q ∧ f.q < m.st
  rn : 1 ≤ f.rs.length ∧ f.rs.length ≤ 3
  ws : f.ws.length = f.rs.length + 1
  os : f.os.length = f.rs.length
  wl : ∀ x ∈ f.ws, x.length ≤ 100 ∧ ∀ z ∈ x, 0 ≤ z ∧ z < m.sy
  rl : ∀ x ∈ f.rs, 1 ≤ x.length ∧ x.length ≤ 20 ∧ ∀ z ∈ x, 0 ≤ z ∧ z < m.sy
  ol : ∀ o ∈ f.os, -1000 ≤ o ∧ o ≤ 1000
  hd : 0 ≤ f.hd ∧ f.hd ≤ f.rs.length
theorem foOk_of {m : MachD} {f : FoD} (h : FoGd m f) (ha : atOk f = true) : foOk m f = true := by
  unfold foOk
  simp only [Bool.and_eq_true, decide_eq_true_eq, List.all_eq_true]
  refine ⟨⟨⟨⟨⟨⟨⟨⟨inB_iff.2 (by have := h.q; omega), inB_iff.2 (by have := h.rn; omega)⟩, h.ws⟩, h.os⟩, fun x hx => ?_⟩, fun x hx => ?_⟩, fun z hz => inB_iff.2 (h.ol z hz)⟩, inB_iff.2 h.hd⟩, ha⟩
  · simp only [wordIn, Bool.and_eq_true, decide_eq_true_eq, List.all_eq_true]
    exact ⟨(h.wl x hx).1, fun z hz => inB_iff.2 (by have := (h.wl x hx).2 z hz; omega)⟩
  · simp only [repIn, wordIn, Bool.and_eq_true, decide_eq_true_eq, List.all_eq_true]
    exact ⟨(h.rl x hx).1, (h.rl x hx).2.1, fun z hz => inB_iff.2 (by have := (h.rl x hx).2.2 z hz; omega)⟩
end Go.Proofs.YtapjofbjedpmgaaGreat
end
