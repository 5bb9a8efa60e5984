/- Contract of the step of the program's runner of a machine. The machine is valid and the configuration is one of its, with at most 200 cells on each side.
Contracts of the program's makers of a runner and of its configuration. -/
import Derived.Test.YtcebkjiafjmjfaaGreatDoorP17
import Derived.Deep.RegionHeld3
section
set_option linter.unusedSimpArgs false
set_option linter.unusedVariables false
namespace Go.Proofs.YtcebkjiafjmjfaaGreatDoor
open Go Go.RowKit Go.Proofs
set_option maxHeartbeats 400000
theorem own_form {base : Nat} {w : World} {v : Value} {xs : List Int} (h : OwnInts base w v xs.reverse) : ∃ A c, v = .slice A xs.length c ∧ xs.length ≤ c ∧ c ≤ 9223372036854775807 := by
  obtain ⟨A, c, e, h1, h2⟩ := h.ints.form
  rw [List.length_reverse] at e h1
  exact ⟨A, c, e, h1, h2⟩
theorem blk_pushed {w w' : World} {v u : Value} {base g : Nat} {t : TypeId} {cs : Array Value} {xs : List Int} (h : Blk w g t cs) (ho : OwnInts base w v xs) (ht : t ≠ 2) (hp : Pushed w w' v u) : Blk w' g t cs :=
  (hp.same g h.lt (fun e => blk_ne_row h ho ht e.symm)).trans h
end Go.Proofs.YtcebkjiafjmjfaaGreatDoor
end
section
set_option linter.unusedSimpArgs false
set_option linter.unusedVariables false
namespace Go.Proofs.YtcebkjiafjmjfaaGreatDoor
open Go Go.RowKit Go.Proofs
set_option maxHeartbeats 400000
/-- A configuration that has been made. -/
def CfgRes (w : World) (c : ConfD) (e : Ending) (w' : World) : Prop :=
  ∃ lv rv, e = .returned (.agg #[.int .i64 c.q, lv, rv]) ∧ OwnInts w.heap.size w' lv c.l ∧ OwnInts w.heap.size w' rv c.r ∧ (∀ g, lv.ownBlock = some g → rv.ownBlock ≠ some g) ∧ Ext w w'
end Go.Proofs.YtcebkjiafjmjfaaGreatDoor
end
