/- The iterator over the steps of the program's runner has its contract. The machine is valid and the configuration is one of its.
Contract of the program's run of a machine by its runner. The machine is valid and the configuration is one of its. -/
import Derived.Test.YtcebkjiafjmjfaaGreatDoorP18
import Derived.Test.YtcebkjiafjmjfaaGreatDoorP11
import Derived.Shelf.Abstract
import Derived.Shelf.RegionOpen
import Derived.WalkKit
import Derived.OwnWalkIn
import Derived.TacticsInMore
import Derived.LoopNIn
import Derived.LoopIn
section
set_option linter.unusedSimpArgs false
set_option linter.unusedVariables false
namespace Go.Proofs.YtcebkjiafjmjfaaGreatDoor
open Go Go.RowKit Go.Proofs Go.Shelf
attribute [local go_sem] Oper.semAt_some
set_option maxHeartbeats 400000
abbrev encR (x : Int × Bool) : Array Value := #[.int .i64 x.1, .bool x.2]
/-- The run ends behind i steps. -/
structure EndAt (m : MachD) (c : ConfD) (N i : Nat) : Prop where
  runs : RunsTo m c i
  le : i ≤ N
  stop : i = N ∨ lookI m (cfgI m c i) = noR
/-- There is no room behind i steps. -/
structure FullAt (m : MachD) (c : ConfD) (N i : Nat) : Prop where
  pos : 0 < i
  runs : RunsTo m c (i - 1)
  le : i ≤ N
  no : ¬ lookI m (cfgI m c (i - 1)) = noR
  full : fitI (cfgI m c i) = false
section
variable (w0 : World) (b bq bp : Nat) (m : MachD) (c : ConfD) (mv : Value) (N : Nat)
end
theorem fit_both {c : ConfD} (h : fitI c = true) : c.l.length ≤ 200 ∧ c.r.length ≤ 200 := by
  simpa [fitI] using h
end Go.Proofs.YtcebkjiafjmjfaaGreatDoor
end
section
set_option linter.unusedSimpArgs false
set_option linter.unusedVariables false
namespace Go.Proofs.YtcebkjiafjmjfaaGreatDoor
open Go Go.RowKit Go.Proofs Go.Shelf
attribute [local go_sem] Oper.semAt_some
set_option maxHeartbeats 400000
section
variable {w0 w w' A B : World} {b bq bp : Nat} {m : MachD} {c d d' : ConfD} {mv lv rv lv' rv' : Value} {N : Nat}
theorem not_cells {k : Nat} {o : Obj} {t : TypeId} {cs : Array Value} (h : Blk A k t cs) (ho : ∃ o, A.heap[k]? = some o ∧ o.isCells = false) : False := by
  obtain ⟨o, h1, h2⟩ := ho
  rw [h] at h1
  cases h1
  cases h2
theorem own_not_cells {base k : Nat} {e : TypeId} {size n : Nat} {v : Value} {xs : List Value} (h : A.ownsRow base e size v n xs) (hv : v.ownBlock = some k) (ho : ∃ o, A.heap[k]? = some o ∧ o.isCells = false) : False := by
  rcases h.2 with ⟨rfl, _⟩ | ⟨g, cap, cur, rfl, _, hg, _⟩
  · simp [Value.ownBlock] at hv
  · simp [Value.ownBlock] at hv
    subst hv
    obtain ⟨o, h1, h2⟩ := ho
    rw [hg] at h1
    cases h1
    cases h2
end
/-- What lies apart from a runner. -/
structure Apt (b k : Nat) (lv rv : Value) : Prop where
  nb : k ≠ b
  nl : lv.ownBlock ≠ some k
  nr : rv.ownBlock ≠ some k
theorem Apt.moved {b k : Nat} {A B : World} {lv rv lv' rv' : Value} (h : Apt b k lv rv) (hm : Moved b A B lv rv lv' rv') (hk : k < A.heap.size) : Apt b k lv' rv' ∧ B.heap[k]? = A.heap[k]? := by
  refine ⟨⟨h.nb, fun e => ?_, fun e => ?_⟩, hm.same k hk h.nb h.nl h.nr⟩
  · rcases hm.newl _ e with e | e | e
    · exact h.nl e
    · exact h.nr e
    · omega
  · rcases hm.newr _ e with e | e | e
    · exact h.nl e
    · exact h.nr e
    · omega
def lastN (pre : List (Int × Bool)) : Int := (pre.getLast?.map (·.1)).getD 0
theorem lastN_snoc (pre : List (Int × Bool)) (x : Int × Bool) : lastN (pre ++ [x]) = x.1 := by simp [lastN]
/-- The four boxes of a run: three results, and the number of steps. -/
structure FourR (W : World) (k : Nat) (a : Int) (s : Bool) (e n : Int) : Prop where
  b0 : Blk W k 2 #[.int .i64 a]
  b1 : Blk W (k + 1) 4 #[.bool s]
  b2 : Blk W (k + 2) 2 #[.int .i64 e]
  b3 : Blk W (k + 3) 2 #[.int .i64 n]
theorem FourR.same {W W' : World} {k : Nat} {a e n : Int} {s : Bool} (h : FourR W k a s e n) (h0 : ∀ i, i < 4 → W'.heap[k + i]? = W.heap[k + i]?) : FourR W' k a s e n :=
  ⟨(h0 0 (by omega)).trans h.b0, (h0 1 (by omega)).trans h.b1, (h0 2 (by omega)).trans h.b2, (h0 3 (by omega)).trans h.b3⟩
theorem FourR.lt {W : World} {k : Nat} {a e n : Int} {s : Bool} (h : FourR W k a s e n) : k + 3 < W.heap.size := h.b3.lt
/-- What holds when a round has left the loop. -/
def IxRun (w0 : World) (k : Nat) (cd : Code) (pre : List (Int × Bool)) (W : World) : Prop :=
  cd = .ret ∧ (∃ p x, pre = p ++ [x] ∧ x.2 = false) ∧ (∃ n, FourR W k 0 false 5 n) ∧ Ext w0 W
end Go.Proofs.YtcebkjiafjmjfaaGreatDoor
end
