/- Contract of the program's run of a machine by its runner. The machine is valid and the configuration is one of its.
Contract of the program's RunMachine.
The program's check of a shift accepts one. -/
import Derived.Test.YtapjofbjedpmgaaGreatC33
import Derived.Deep.RegionHeld3
import Derived.Test.YtapjofbjedpmgaaGreatC03
import Derived.Test.YtapjofbjedpmgaaGreatC16
section
set_option linter.unusedSimpArgs false
set_option linter.unusedVariables false
namespace Go.Proofs.YtapjofbjedpmgaaGreat
open Go Go.RowKit Go.Proofs Go.Shelf
attribute [local go_sem] Oper.semAt_some
set_option maxHeartbeats 400000
section
variable {w0 : World} {b k : Nat} {m : MachD} {c : ConfD} {mv : Value} {N B : Nat}
theorem FourR.turn {W W' : World} {a e n : Int} {s : Bool} (h : FourR W k a s e n) {row : Option Nat} (hg : W.grownBy W' row) (hr : ∀ r, row = some r → ∃ o : Obj, W.heap[r]? = some o ∧ o.isCells = false) : FourR W' k a s e n := by
  refine ⟨h.b0.kept hg (fun e => ?_), h.b1.kept hg (fun e => ?_), h.b2.kept hg (fun e => ?_), h.b3.kept hg (fun e => ?_)⟩
  · exact not_cells (o := .cells #[] 0) h.b0 (hr _ e.symm)
  · exact not_cells (o := .cells #[] 0) h.b1 (hr _ e.symm)
  · exact not_cells (o := .cells #[] 0) h.b2 (hr _ e.symm)
  · exact not_cells (o := .cells #[] 0) h.b3 (hr _ e.symm)
end
end Go.Proofs.YtapjofbjedpmgaaGreat
end
section
set_option linter.unusedSimpArgs false
set_option linter.unusedVariables false
namespace Go.Proofs.YtapjofbjedpmgaaGreat
open Go Go.RowKit Go.Proofs
set_option maxHeartbeats 400000
theorem conf_run {m : MachD} {c : ConfD} (h : confB m c = true) : IGood m c ∧ fitI c = true := by
  simp only [confB, sideOk, inB, Bool.and_eq_true, decide_eq_true_eq, List.all_eq_true] at h
  obtain ⟨⟨hq, ⟨hl1, hl2⟩, _⟩, ⟨hr1, hr2⟩, _⟩ := h
  refine ⟨⟨by omega, by omega, fun z hz => by have := hl2 z hz; omega, fun z hz => by have := hr2 z hz; omega⟩, ?_⟩
  simp [fitI]
  omega
/-- What a run of a machine gives: the configuration, the steps, whether it halts, a code. -/
def RunVal (w w' : World) (x : ConfD) (n : Int) (s : Bool) (k : Int) (e : Ending) : Prop :=
  ∃ lv rv, e = .returned (.tuple #[.agg #[.int .i64 x.q, lv, rv], .int .i64 n, .bool s, .int .i64 k]) ∧ OwnInts w.heap.size w' lv x.l ∧ OwnInts w.heap.size w' rv x.r ∧ (∀ g, lv.ownBlock = some g → rv.ownBlock ≠ some g)
theorem RunVal.blank {w w1 : World} {n k : Int} {s : Bool} {b : Nat} (x y z : Value) : RunVal w (((w1.setCell ⟨b, 0, none⟩ x).setCell ⟨b, 1, none⟩ y).setCell ⟨b, 2, none⟩ z) blankC n s k (.returned (.tuple #[.agg #[.int .i64 0, .slice none 0 0, .slice none 0 0], .int .i64 n, .bool s, .int .i64 k])) :=
  ⟨_, _, rfl, World.ownsRow_nil .., World.ownsRow_nil .., fun g hg => by simp [Value.ownBlock] at hg⟩
theorem Ext.three {w w1 : World} {b : Nat} (h : Ext w w1) (hb : w.heap.size ≤ b) (x y z : Value) : Ext w (((w1.setCell ⟨b, 0, none⟩ x).setCell ⟨b, 1, none⟩ y).setCell ⟨b, 2, none⟩ z) :=
  ((h.setCell hb _).setCell hb _).setCell hb _
end Go.Proofs.YtapjofbjedpmgaaGreat
end
section
set_option linter.unusedSimpArgs false
set_option linter.unusedVariables false
namespace Go.Proofs.YtapjofbjedpmgaaGreat
open Go Go.RowKit Go.Proofs
set_option maxHeartbeats 400000
theorem EndAt.exact {m : MachD} {c : ConfD} {N i : Nat} (h : EndAt m c N i) (hr : RunsTo m c N) : i = N := by
  rcases h.stop with e | e
  · exact e
  · by_cases hlt : i < N
    · exact absurd e (hr.no i hlt)
    · have := h.le; omega
end Go.Proofs.YtapjofbjedpmgaaGreat
end
