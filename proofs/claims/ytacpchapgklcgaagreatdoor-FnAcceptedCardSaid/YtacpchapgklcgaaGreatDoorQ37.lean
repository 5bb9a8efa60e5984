/- Contracts on automata, continued: the state behind a word of a valid automaton.
Contracts on a machine with two automata: it is valid. -/
import Derived.Test.YtacpchapgklcgaaGreatDoorQ36
section
set_option linter.unusedSimpArgs false
set_option linter.unusedVariables false
set_option linter.unusedSectionVars false
set_option maxHeartbeats 4000000
namespace Go.Proofs.YtacpchapgklcgaaGreatDoor
open Go Go.RowKit Go.Proofs
end Go.Proofs.YtacpchapgklcgaaGreatDoor
end
section
set_option linter.unusedSimpArgs false
set_option linter.unusedVariables false
set_option linter.unusedSectionVars false
set_option maxHeartbeats 4000000
namespace Go.Proofs.YtacpchapgklcgaaGreatDoor
open Go Go.RowKit Go.Proofs
/-- A value that holds a machine with two automata. -/
def Autos (w : World) (v : Value) (m : MachD) (L R : DfaD) : Prop := ∃ rv lv tv, v = .agg #[.int .i64 m.sy, .int .i64 m.st, rv, .int .i64 L.st, lv, .int .i64 R.st, tv] ∧ Rules w rv m.rules ∧ Ints w lv L.nx ∧ Ints w tv R.nx
theorem Autos.ext {w w' : World} {v : Value} {m : MachD} {L R : DfaD} (h : Autos w v m L R) (he : Ext w w') : Autos w' v m L R := by
  obtain ⟨rv, lv, tv, e, h1, h2, h3⟩ := h
  exact ⟨rv, lv, tv, e, h1.ext he, h2.ext he, h3.ext he⟩
theorem valid_autos_c (v : Value) (m : MachD) (L R : DfaD) (w : World) (h : Autos w v m L R) (hm : machOk m = true) (hL : dfaOk L m.sy = true) (hR : dfaOk R m.sy = true) :
    Calls Tryz.prog 28 #[v] w fun e w' => e = .returned (.bool true) ∧ Ext w w' := by
  obtain ⟨rv, lv, tv, rfl, h1, h2, h3⟩ := h
  obtain ⟨W, hW⟩ : ∃ W, W = w.alloc (.cells #[.int .i64 m.sy, .int .i64 m.st, rv, .int .i64 L.st, lv, .int .i64 R.st, tv] 66) := ⟨_, rfl⟩
  have hX : Ext w W := by rw [hW]; exact Ext.alloc _ _
  have bA : Blk W w.heap.size 66 #[.int .i64 m.sy, .int .i64 m.st, rv, .int .i64 L.st, lv, .int .i64 R.st, tv] := by rw [hW]; exact Blk.new _ _ _ _ rfl
  have c0 := bA.cell 0
  have c1 := bA.cell 1
  have c2 := bA.cell 2
  have c3 := bA.cell 3
  have c4 := bA.cell 4
  have c5 := bA.cell 5
  have c6 := bA.cell 6
  simp only [List.getElem?_toArray, List.getElem?_cons_zero, List.getElem?_cons_succ] at c0 c1 c2 c3 c4 c5 c6
  go_enter Tryz.func28, Tryz.ntmps28
  go_wp2_with fail
  rw [← hW]
  clear hW
  refine (ValidMachine_c _ m W ⟨_, rfl, h1.ext hX⟩).mono ?_
  rintro e w2 ⟨rfl, hx2⟩
  have d0 := hx2.cell c0
  have d3 := hx2.cell c3
  have d4 := hx2.cell c4
  have d5 := hx2.cell c5
  have d6 := hx2.cell c6
  clear c0 c1 c2 c3 c4 c5 c6
  rw [hm]
  go_wp2_with fail
  refine (ValidDfa_c _ L m.sy w2 ⟨_, rfl, (h2.ext hX).ext hx2⟩ hL).mono ?_
  rintro e w3 ⟨rfl, hx3⟩
  have c0 := hx3.cell d0
  have c5 := hx3.cell d5
  have c6 := hx3.cell d6
  clear d0 d3 d4 d5 d6
  go_wp2_with fail
  refine (ValidDfa_c _ R m.sy w3 ⟨_, rfl, ((h3.ext hX).ext hx2).ext hx3⟩ hR).mono ?_
  rintro e w4 ⟨rfl, hx4⟩
  go_wp2
  go_ret
  exact ⟨rfl, ((hX.trans hx2).trans hx3).trans hx4⟩
end Go.Proofs.YtacpchapgklcgaaGreatDoor
end
