/- Plain words on runs: positions of the head, the tape around it, and runs that come again moved by some cells.
Contract of the program's step of a configuration with several tapes.
Words for what the reference's calls on configurations come to, and for a configuration in a block that has been made. -/
import Derived.Test.YtapjofbjedpmgaaGreatC01
import Derived.Test.YtapjofbjedpmgaaGreatC02
import Derived.Test.YtapjofbjedpmgaaGreatC03
import Derived.Test.YtapjofbjedpmgaaGreatC04
import Derived.Test.YtapjofbjedpmgaaGreatC05
import Derived.Test.YtapjofbjedpmgaaGreatC06
import Derived.Test.YtapjofbjedpmgaaGreatC07
import Derived.Test.YtapjofbjedpmgaaGreatC08
import Derived.Test.YtapjofbjedpmgaaGreatC09
import Derived.Test.YtapjofbjedpmgaaGreatC10
import Derived.Test.YtapjofbjedpmgaaGreatC11
import Derived.Test.YtapjofbjedpmgaaGreatC12
import Derived.Test.YtapjofbjedpmgaaGreatC13
import Derived.Test.YtapjofbjedpmgaaGreatC14
import Derived.Test.YtapjofbjedpmgaaGreatC15
import Derived.Test.YtapjofbjedpmgaaGreatC16
import Derived.Test.YtapjofbjedpmgaaGreatC17
import Derived.Test.YtapjofbjedpmgaaGreatC18
import Derived.Test.YtapjofbjedpmgaaGreatC19
import Derived.Test.YtapjofbjedpmgaaGreatC20
import Derived.Test.YtapjofbjedpmgaaGreatC21
import Derived.Test.YtapjofbjedpmgaaGreatC22
import Derived.Test.YtapjofbjedpmgaaGreatC23
import Derived.Test.YtapjofbjedpmgaaGreatC24
import Derived.Test.YtapjofbjedpmgaaGreatC25
import Derived.Test.YtapjofbjedpmgaaGreatC26
import Derived.Test.YtapjofbjedpmgaaGreatC27
import Derived.Test.YtapjofbjedpmgaaGreatC28
import Derived.Test.YtapjofbjedpmgaaGreatC29
import Derived.Test.YtapjofbjedpmgaaGreatC30
import Derived.Test.YtapjofbjedpmgaaGreatC31
import Derived.Test.YtapjofbjedpmgaaGreatC32
import Derived.Test.YtapjofbjedpmgaaGreatC33
import Derived.Test.YtapjofbjedpmgaaGreatC34
import Derived.Test.YtapjofbjedpmgaaGreatC35
import Derived.Test.YtapjofbjedpmgaaGreatC36
import Derived.Test.YtapjofbjedpmgaaGreatC37
import Derived.Test.YtapjofbjedpmgaaGreatC38
import Derived.Test.YtapjofbjedpmgaaGreatC39
import Derived.Test.YtapjofbjedpmgaaGreatC40
import Derived.Test.YtapjofbjedpmgaaGreatC41
import Derived.Test.YtapjofbjedpmgaaGreatC42
import Derived.Test.YtapjofbjedpmgaaGreatC43
import Derived.Test.YtapjofbjedpmgaaGreatC44
import Derived.Test.YtapjofbjedpmgaaGreatC45
import Derived.Test.YtapjofbjedpmgaaGreatC46
import Derived.Test.YtapjofbjedpmgaaGreatC47
import Derived.Test.YtapjofbjedpmgaaGreatC48
section
set_option linter.unusedSimpArgs false
set_option linter.unusedVariables false
namespace Go.Proofs.YtapjofbjedpmgaaGreat
open Go Go.RowKit Go.Proofs
section
variable {m : MachD} (hm : machOk m = true) {c0 : ConfD} (hc0 : IGood m c0) {a b : Nat} {d : Int} {D : Int → Prop}
include hm hc0
end
theorem len_cfg (m : MachD) (c : ConfD) (n : Nat) : (cfgI m c n).l.length ≤ c.l.length + n ∧ (cfgI m c n).r.length ≤ c.r.length + n + 1 := by
  induction n with
  | zero => exact ⟨by simp [cfgI], by simp [cfgI]⟩
  | succ n ih =>
    have e : cfgI m c (n + 1) = stepI (lookI m (cfgI m c n)) (cfgI m c n) := rfl
    rw [e]
    generalize lookI m (cfgI m c n) = ru
    generalize cfgI m c n = x at *
    unfold stepI
    split
    · have := pushL_len ru.w x.l
      refine ⟨by simp only; omega, by simp; omega⟩
    · have h1 := pushL_len ru.w (x.r.drop 1)
      have h2 := pushL_len (hdD x.l) (pushL ru.w (x.r.drop 1))
      simp only [List.length_drop] at h1
      refine ⟨by simp; omega, by simp only; omega⟩
end Go.Proofs.YtapjofbjedpmgaaGreat
end
section
set_option linter.unusedVariables false
set_option linter.unusedSimpArgs false
namespace Go.Proofs.YtapjofbjedpmgaaGreat
open Go Go.RowKit Go.Proofs Go.Maps
set_option maxHeartbeats 400000
/-- The blocks K are as they were. -/
def Kp (K : Nat → Prop) (w w' : World) : Prop := ∀ k, K k → w'.heap[k]? = w.heap[k]?
section
variable {w0 w w' : World} {K : Nat → Prop} {bc gT cap : Nat} {cs cs' : Array Value} {c : MConfD}
end
end Go.Proofs.YtapjofbjedpmgaaGreat
end
section
set_option linter.unusedSimpArgs false
set_option linter.unusedVariables false
namespace Go.Proofs.YtapjofbjedpmgaaGreat
open Go Go.RowKit Go.Proofs
/-- A configuration in a block that has been made: its state and its sides. -/
def CutK (w0 : World) (q : Int) (l r : List Int) (s : Value) (w : World) : Prop := ∃ g lv rv bl br, s = .pointer (some ⟨g, 0, none⟩) ∧ Blk w g 29 #[.int .i64 q, lv, rv] ∧ Ext w0 w ∧ w0.heap.size ≤ g ∧ OwnInts bl w lv l ∧ OwnInts br w rv r ∧ w0.heap.size ≤ bl ∧ w0.heap.size ≤ br
theorem CutK.late {w0 wC : World} {q : Int} {l r : List Int} {lv rv : Value} {bl br : Nat} (hx : Ext w0 wC) (h1 : OwnInts bl wC lv l) (h2 : OwnInts br wC rv r) (b1 : w0.heap.size ≤ bl) (b2 : w0.heap.size ≤ br) :
    CutK w0 q l r (.pointer (some ⟨wC.heap.size, 0, none⟩)) (wC.alloc (.cells #[.int .i64 q, lv, rv] 29)) :=
  ⟨_, lv, rv, bl, br, rfl, Blk.new _ _ _ _ rfl, hx.trans (Ext.alloc _ _), hx.size, h1.ext (Ext.alloc _ _), h2.ext (Ext.alloc _ _), b1, b2⟩
theorem CutK.early {w0 wC : World} {q : Int} {l r : List Int} {lv rv : Value} {bl br g : Nat} (hx : Ext w0 wC) (h1 : OwnInts bl wC lv l) (h2 : OwnInts br wC rv r) (b1 : w0.heap.size ≤ bl) (b2 : w0.heap.size ≤ br) (hb : Blk wC g 29 #[.int .i64 0, .slice none 0 0, .slice none 0 0]) (hg : w0.heap.size ≤ g) :
    CutK w0 q l r (.pointer (some ⟨g, 0, none⟩)) (((wC.setCell ⟨g, 0, none⟩ (.int .i64 q)).setCell ⟨g, 1, none⟩ lv).setCell ⟨g, 2, none⟩ rv) := by
  have n1 : ∀ k, lv.ownBlock = some k → k ≠ g := fun k hk e => by
    subst e
    exact blk_ne_row hb h1 (by decide) hk.symm
  have n2 : ∀ k, rv.ownBlock = some k → k ≠ g := fun k hk e => by
    subst e
    exact blk_ne_row hb h2 (by decide) hk.symm
  exact ⟨g, lv, rv, bl, br, rfl, ((hb.set_ 0 _).set_ 1 _).set_ 2 _, ((hx.setCell hg _).setCell hg _).setCell hg _, hg, ints_far (ints_far (ints_far h1 n1 _) n1 _) n1 _, ints_far (ints_far (ints_far h2 n2 _) n2 _) n2 _, b1, b2⟩
end Go.Proofs.YtapjofbjedpmgaaGreat
end
