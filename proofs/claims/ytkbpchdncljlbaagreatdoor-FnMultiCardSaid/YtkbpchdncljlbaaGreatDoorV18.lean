/- Contract of the reference's building of the machine on one half of the tape. The machine is valid and has fewer than 6 symbols.
Contracts of both machines on one half of the tape: the program's and the reference's. The machine is valid.
Contracts of the program's decoding of a tape that is folded on one half. The tape is short. -/
import Derived.Test.YtkbpchdncljlbaaGreatDoorV17
import Derived.Test.YtkbpchdncljlbaaGreatDoorV15
import Derived.Test.YtkbpchdncljlbaaGreatDoorV12
import Derived.Test.YtkbpchdncljlbaaGreatDoorV14
import Derived.StillTailTactics
import Derived.Deep.RegionLaw
import Derived.Deep.RegionHeld3
import Derived.Deep.AppendLies
import Derived.Maps.AppendAt
section
set_option linter.unusedSimpArgs false
set_option linter.unusedVariables false
namespace Go.Proofs.YtkbpchdncljlbaaGreatDoor
open Go Go.RowKit Go.Proofs
set_option maxHeartbeats 400000
end Go.Proofs.YtkbpchdncljlbaaGreatDoor
end
section
set_option linter.unusedSimpArgs false
set_option linter.unusedVariables false
namespace Go.Proofs.YtkbpchdncljlbaaGreatDoor
open Go Go.RowKit Go.Proofs
set_option maxHeartbeats 400000
def foldOf (m : MachD) : Option (List FP × List RuleD) := if m.sy = 6 then none else foldB m
end Go.Proofs.YtkbpchdncljlbaaGreatDoor
end
section
set_option linter.unusedSimpArgs false
set_option linter.unusedVariables false
namespace Go.Proofs.YtkbpchdncljlbaaGreatDoor
open Go Go.RowKit Go.Proofs Go.Maps
set_option maxHeartbeats 400000
theorem pl_evenI (k : Nat) (h : ((k : Int) % 2 == 0) = true) : plZ k = -((k : Int) / 2) := by
  simp only [beq_iff_eq] at h
  unfold plZ
  rw [if_pos (by omega)]
theorem pl_oddI (k : Nat) (h : ((k : Int) % 2 == 0) = false) : plZ k = ((k : Int) - 1) / 2 := by
  simp only [beq_eq_false_iff_ne] at h
  unfold plZ
  rw [if_neg (by omega)]
theorem intKey (z : Int) (h : small z) : ∃ l, keyOf Tryz.prog 3 (.int .i64 z) = some l := ⟨_, keyOf_int_mk Tryz.underlying3 (small_wf h)⟩
/-- The symbols that stand in the map behind k rounds. -/
def symT (zs : List Int) (k : Nat) (z : Int) : Option Int := if idxZ z < k then some (zs.getD (idxZ z) 0) else none
theorem symT_one (zs : List Int) : symT zs 1 = fun _ => none := by
  funext z
  have := idx_pos z
  unfold symT
  rw [if_neg (by omega)]
theorem symT_succ (zs : List Int) (k : Nat) (h : 1 ≤ k) : (fun z => if z = plZ k then some (zs.getD k 0) else symT zs k z) = symT zs (k + 1) := by
  funext z
  unfold symT
  by_cases hz : z = plZ k
  · rw [if_pos hz, hz, idx_pl k h, if_pos (by omega)]
  · have hne : idxZ z ≠ k := fun e => hz (by rw [← e, pl_idx])
    rw [if_neg hz]
    by_cases hlt : idxZ z < k
    · rw [if_pos hlt, if_pos (by omega)]
    · rw [if_neg hlt, if_neg (by omega)]
theorem symT_all (zs : List Int) (z : Int) : (symT zs zs.length z).getD 0 = symZ (zs.drop 1) z := by
  have := idx_pos z
  unfold symT symZ
  rw [List.getD_eq_getElem?_getD, List.getD_eq_getElem?_getD, List.getElem?_drop, show 1 + (idxZ z - 1) = idxZ z by omega]
  by_cases h : idxZ z < zs.length
  · rw [if_pos h, List.getElem?_eq_getElem h]; rfl
  · rw [if_neg h, List.getElem?_eq_none (by omega)]
/-- A configuration and a code, as the program's functions give them. -/
def ConfRes (w : World) (r : ConfD × Int) (e : Ending) (w' : World) : Prop :=
  ∃ lv rv, e = .returned (.tuple #[.agg #[.int .i64 r.1.q, lv, rv], .int .i64 r.2]) ∧ OwnInts w.heap.size w' lv r.1.l ∧ OwnInts w.heap.size w' rv r.1.r ∧ (∀ g, lv.ownBlock = some g → rv.ownBlock ≠ some g) ∧ Ext w w'
theorem ownLtO {base : Nat} {w : World} {e : TypeId} {size n : Nat} {v : Value} {xs : List Value} (h : w.ownsRow base e size v n xs) : ∀ g, v.ownBlock = some g → g < w.heap.size := fun g hg => (h.lt g hg).2
end Go.Proofs.YtkbpchdncljlbaaGreatDoor
end
