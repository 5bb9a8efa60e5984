/- What a door seat's rows share: the listed tables of the library, and the world that the program's own text lays.
Contract of the reference's question about a number of steps.
Contract: the code for the arguments of texts. -/
import Derived.Test.YthhjbmlkncdigaaGreatDoorB02
import Derived.Test.YthhjbmlkncdigaaGreatDoorB04
import Derived.Test.YthhjbmlkncdigaaGreatDoorTie
import Derived.Lib.LaidTab
section
namespace Go.Proofs.YthhjbmlkncdigaaGreatDoor
open Go Go.RowKit Go.ChangeShapes Go.WideShapes Go.ChangeAt
theorem ownKn : ownKnob Tryz.prog.godebug = none := by kernel_rfl
theorem laidOutP : laidOutB Tryz.prog = true := by kernel_rfl
abbrev laid3 : List (String × DataW Unit) := Rows.fnExactBinaryTextsRow.laid
theorem door_met (os : Os) (args : Array Value) : laidMetH Tryz.prog laid3 ((World.doorLaid Tryz.prog 24 os).forCall (fun _ _ => 0) ⟨#[], args, []⟩).memory :=
  laidMetH_of_parts3 (fuel := 8) (laidMet_of_run' 8 (by kernel_rfl) (by kernel_rfl)) (by kernel_rfl) (by kernel_rfl)
set_option maxRecDepth 100000 in
theorem tab_of_laid {W : World} (h : laidMetH Tryz.prog laid3 W) : Tab W := by
  rw [MakeChecks.laidMetH_plain _ _ _ (by kernel_rfl)] at h
  obtain ⟨ps, ⟨g0, t0, cs0, f0, p0, q0, hg0, ht0, hv0, hd0, ⟨g1, t1, cs1, f1, p1, q1, hg1, ht1, hv1, hd1, ⟨g2, t2, cs2, f2, p2, q2, hg2, ht2, hv2, hd2, _, _⟩, _⟩, _⟩, _, _⟩ := h
  obtain rfl := Option.some.inj ((show Tryz.prog.globalNamed "internal/strconv.uint64pow10" = some 0 by kernel_rfl).symm.trans hg2)
  obtain rfl := Option.some.inj ((show (Tryz.prog.globals[0]?).map (·.type) = some 187 by kernel_rfl).symm.trans ht2)
  show World.var? Tryz.prog W "internal/strconv.uint64pow10" = _
  rw [hv2, ← Lib.cells_of_tab Tryz.underlying187 Tryz.underlying179 (by kernel_rfl) (by kernel_rfl) (zs := Lib.pow10Tab) hd2]
end Go.Proofs.YthhjbmlkncdigaaGreatDoor
end
section
set_option linter.unusedSimpArgs false
set_option linter.unusedVariables false
namespace Go.Proofs.YthhjbmlkncdigaaGreatDoor
open Go Go.RowKit Go.Proofs
set_option maxHeartbeats 400000
theorem l19Steps_c (n : Int) (w : World) : Calls Tryz.prog 44 #[.int .i64 n] w fun e w' => e = .returned (.bool (inB n 0 599)) ∧ w = w' := by
  have hI := l00In_c n 0 599 w
  generalize inB n 0 599 = b at *
  go_enter Tryz.func44, Tryz.ntmps44
  go_wp2_with fail
  refine hI.mono ?_
  rintro e w' ⟨rfl, rfl⟩
  go_wp2
  go_ret
  exact ⟨rfl, rfl⟩
end Go.Proofs.YthhjbmlkncdigaaGreatDoor
end
section
set_option linter.unusedSimpArgs false
set_option linter.unusedVariables false
namespace Go.Proofs.YthhjbmlkncdigaaGreatDoor
open Go Go.RowKit Go.Proofs
set_option maxHeartbeats 400000
def codeT (a b : Bool) : Int := if a then (if b then 0 else 2) else 1
theorem textsCode_c (a : Bool) (n : Int) (w : World) :
    Calls Tryz.prog 28 #[.bool a, .int .i64 n] w fun e w' => e = .returned (.int .i64 (codeT a (inB n 0 599))) ∧ w = w' := by
  have hW := within_c n 0 599 w
  generalize inB n 0 599 = b at *
  obtain ⟨k, hk⟩ : ∃ k, codeT a b = k := ⟨_, rfl⟩
  rw [hk]
  have HK := Lib.hid hk
  clear hk
  cases a with
  | false =>
    go_enter Tryz.func28, Tryz.ntmps28
    go_wp2
    go_ret
    exact ⟨by rw [← HK.out]; rfl, rfl⟩
  | true =>
    cases b with
    | false =>
      go_enter Tryz.func28, Tryz.ntmps28
      go_wp2_with fail
      refine hW.mono ?_
      rintro e w' ⟨rfl, rfl⟩
      go_wp2
      go_ret
      exact ⟨by rw [← HK.out]; rfl, rfl⟩
    | true =>
      go_enter Tryz.func28, Tryz.ntmps28
      go_wp2_with fail
      refine hW.mono ?_
      rintro e w' ⟨rfl, rfl⟩
      go_wp2
      go_ret
      exact ⟨by rw [← HK.out]; rfl, rfl⟩
end Go.Proofs.YthhjbmlkncdigaaGreatDoor
end
