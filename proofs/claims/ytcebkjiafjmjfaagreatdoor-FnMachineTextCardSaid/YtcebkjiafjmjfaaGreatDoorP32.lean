/- The contract of the laws' r8Good where it holds.
The contract of the reference's blank configuration. -/
import Derived.Test.YtcebkjiafjmjfaaGreatDoorP31
import Derived.BigQuiet
section
set_option linter.unusedSimpArgs false
set_option linter.unusedVariables false
namespace Go.Proofs.YtcebkjiafjmjfaaGreatDoor
open Go Go.RowKit Go.Proofs
set_option maxHeartbeats 400000
end Go.Proofs.YtcebkjiafjmjfaaGreatDoor
end
section
set_option linter.unusedSimpArgs false
set_option linter.unusedVariables false
namespace Go.Proofs.YtcebkjiafjmjfaaGreatDoor
open Go Go.RowKit Go.Proofs
set_option maxHeartbeats 400000
theorem l25Blank_c (w : World) :
    Calls Tryz.prog 18 #[] w fun e w' => ∃ u v, e = .returned (.agg #[.int .i64 0, u, v]) ∧ OwnInts w.heap.size w' u [] ∧ OwnInts w.heap.size w' v [] ∧ Ext w w' := by
  go_enter Tryz.func18, Tryz.ntmps18
  go_wp2
  refine bodyPost_ret (v := .agg #[.int .i64 0, .slice (some ⟨w.heap.size + 1, 0, none⟩) 0 0, .slice (some ⟨w.heap.size + 1 + 1, 0, none⟩) 0 0]) (by simp [results, Tryz.results18, go_sem]) rfl ⟨_, _, rfl, ?_, ?_, ?_⟩
  · exact ⟨by simp [ivs], .inr ⟨w.heap.size + 1, 0, #[], rfl, by omega, (Blk.new _ (w.heap.size + 1) _ _ (by simp)).alloc _, by simp, by unfold maxLen; omega, rfl, by simp [ivs]⟩⟩
  · exact ⟨by simp [ivs], .inr ⟨w.heap.size + 1 + 1, 0, #[], rfl, by omega, Blk.new _ (w.heap.size + 1 + 1) _ _ (by simp), by simp, by unfold maxLen; omega, rfl, by simp [ivs]⟩⟩
  · exact ((Ext.alloc _ _).trans (Ext.alloc _ _)).trans (Ext.alloc _ _)
end Go.Proofs.YtcebkjiafjmjfaaGreatDoor
end
