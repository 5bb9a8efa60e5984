/- The memory of the program's tracker beside that of its runner.
Contract of the program's tracker where it sees a configuration.
Contract of the program's runner upon the blank tape. -/
import Derived.Test.YtapjofbjedpmgaaGreatC30
import Derived.Test.YtapjofbjedpmgaaGreatC31
import Derived.Deep.RegionLaw
import Derived.Deep.AppendLies
import Derived.Maps.AppendAt
section
set_option linter.unusedSimpArgs false
set_option linter.unusedVariables false
namespace Go.Proofs.YtapjofbjedpmgaaGreat
open Go Go.RowKit Go.Proofs
set_option maxHeartbeats 400000
/-- A record, with the configuration that it holds. -/
structure RecV where
  n : Nat
  side : Int
  c : ConfD
  lv : Value
  rv : Value
def encC (x : RecV) : List Value := [.int .i64 x.n, .int .i64 x.side, .int .i64 x.c.q, x.lv, x.rv]
/-- The runner stays, where only the tracker's blocks and new ones are touched. -/
theorem RunAt.keep {w0 W W' : World} {b : Nat} {m : MachD} {c : ConfD} {mv lv rv : Value} (h : RunAt w0 W b m c mv lv rv) (he : Ext w0 W') (hb : W'.heap[b]? = W.heap[b]?)
    (hl : ∀ g, lv.ownBlock = some g → W'.heap[g]? = W.heap[g]?) (hr : ∀ g, rv.ownBlock = some g → W'.heap[g]? = W.heap[g]?) : RunAt w0 W' b m c mv lv rv :=
  ⟨hb.trans h.blk, h.rules0, he, own_same h.l hl, own_same h.r hr, h.ap, h.low⟩
section
variable {w0 W W' : World} {b x : Nat} {m : MachD} {c : ConfD} {mv lv rv pv qv v : Value} {P : List Int} {rs : List RecV} {lo hi : Int}
end
end Go.Proofs.YtapjofbjedpmgaaGreat
end
section
set_option linter.unusedSimpArgs false
set_option linter.unusedVariables false
namespace Go.Proofs.YtapjofbjedpmgaaGreat
open Go Go.RowKit Go.Proofs
set_option maxHeartbeats 400000
/-- What the tracker holds behind a configuration with the head at z. -/
def SeenQ (c : ConfD) (z : Int) (n : Nat) (rs rs' : List RecV) (lo hi lo' hi' : Int) : Prop :=
  (hi < z ∧ (∃ lv rv, rs' = rs ++ [⟨n, 1, c, lv, rv⟩]) ∧ lo' = lo ∧ hi' = z) ∨ (¬ hi < z ∧ z < lo ∧ (∃ lv rv, rs' = rs ++ [⟨n, -1, c, lv, rv⟩]) ∧ lo' = z ∧ hi' = hi) ∨ (¬ hi < z ∧ ¬ z < lo ∧ rs' = rs ∧ lo' = lo ∧ hi' = hi)
end Go.Proofs.YtapjofbjedpmgaaGreat
end
section
set_option linter.unusedSimpArgs false
set_option linter.unusedVariables false
namespace Go.Proofs.YtapjofbjedpmgaaGreat
open Go Go.RowKit Go.Proofs
set_option maxHeartbeats 400000
theorem RunAt.under {w0 w w' : World} {b : Nat} {m : MachD} {c : ConfD} {mv lv rv : Value} (h : RunAt w w' b m c mv lv rv) (hr : Rules w0 mv m.rules) (he : Ext w0 w) : RunAt w0 w' b m c mv lv rv :=
  ⟨h.blk, hr, he.trans h.ext0, ownsRow_base h.l he.size, ownsRow_base h.r he.size, h.ap, Nat.le_trans he.size h.low⟩
end Go.Proofs.YtapjofbjedpmgaaGreat
end
