/- Contracts of the reference's moves of the machine on one half of the tape. The place and the symbol are the machine's.
Contracts of the reference's maker of the machine on one half of the tape. The machine is valid and has fewer than 6 symbols.
Contract of the program's machine on one half of the tape. The machine is valid and has fewer than 6 symbols. -/
import Derived.Test.YtkbpchdncljlbaaGreatDoorV16
import Derived.Deep.RegionHeld3
import Derived.Deep.RegionLaw
import Derived.StillTailTactics
import Derived.Test.YtkbpchdncljlbaaGreatDoorV04
import Derived.Deep.AppendLies
section
set_option linter.unusedSimpArgs false
set_option linter.unusedVariables false
namespace Go.Proofs.YtkbpchdncljlbaaGreatDoor
open Go Go.RowKit Go.Proofs
set_option maxHeartbeats 4000000
def encL (p : FP) : List Int := if p.k ≤ 1 then [p.k, p.q, p.h] else [p.k, p.q]
theorem encL_inj {st : Int} {x y : FP} (hx : POk st x) (hy : POk st y) (h : encL x = encL y) : x = y := by
  obtain ⟨k, q, h'⟩ := x
  obtain ⟨k2, q2, h2⟩ := y
  have a := hx.hk
  have b := hy.hk
  simp only [encL] at h a b
  split at h <;> split at h <;> simp at h
  · simp [h]
  · simp [h, a (by omega), b (by omega)]
/-- What a move comes to. -/
def MoveRes (w : World) (a : ActG FP) (e : Ending) (w' : World) : Prop :=
  ((a.no = true ∧ e = .returned (.agg #[.bool false, .int .i64 0, .int .i64 0, .slice none 0 0])) ∨
    (a.no = false ∧ ∃ A c, e = .returned (.agg #[.bool true, .int .i64 a.w, .int .i64 a.m, .slice A (encL a.p).length c]) ∧ OwnInts w.heap.size w' (.slice A (encL a.p).length c) (encL a.p))) ∧ Ext w w'
theorem own_of_blk {w : World} {g base : Nat} {zs : List Int} (h : Blk w g 2 (ivs zs).toArray) (hb : base ≤ g) (hn : zs.length ≤ 1000) : OwnInts base w (.slice (some ⟨g, 0, none⟩) zs.length zs.length) zs := by
  refine ⟨by simp, .inr ⟨g, zs.length, (ivs zs).toArray, rfl, hb, h, Nat.le_refl _, by unfold maxLen; omega, by simp, by simp only [Nat.mul_one]; exact List.take_of_length_le (by simp)⟩⟩
theorem move_done {w V w1 : World} {a m : Int} {g : Nat} {zs : List Int} (hv : Ext w V) (hx : Ext V w1) (hg : Blk V g 2 (ivs zs).toArray) (hlt : w.heap.size < g) (hn : zs.length ≤ 1000) (p : FP) (hp : encL p = zs) :
    MoveRes w ⟨a, m, p, false⟩ (.returned (.agg #[.bool true, .int .i64 a, .int .i64 m, .slice (some ⟨g, 0, none⟩) zs.length zs.length])) ((((w1.setCell ⟨w.heap.size, 0, none⟩ (.bool true)).setCell ⟨w.heap.size, 1, none⟩ (.int .i64 a)).setCell ⟨w.heap.size, 2, none⟩ (.int .i64 m)).setCell ⟨w.heap.size, 3, none⟩ (.slice (some ⟨g, 0, none⟩) zs.length zs.length)) := by
  subst hp
  have o1 := own_of_blk (base := w.heap.size) (hg.ext hx) (by omega) hn
  have hne : ∀ k, (Value.slice (some ⟨g, 0, none⟩) (encL p).length (encL p).length).ownBlock = some k → k ≠ w.heap.size := fun k hk => by simp [Value.ownBlock] at hk; omega
  exact ⟨.inr ⟨rfl, _, _, rfl, ownsRow_far (ownsRow_far (ownsRow_far (ownsRow_far o1 hne _) hne _) hne _) hne _⟩, (((Ext.setCell (Ext.trans hv hx) (Nat.le_refl _) _).setCell (Nat.le_refl _) _).setCell (Nat.le_refl _) _).setCell (Nat.le_refl _) _⟩
end Go.Proofs.YtkbpchdncljlbaaGreatDoor
end
section
set_option linter.unusedSimpArgs false
set_option linter.unusedVariables false
namespace Go.Proofs.YtkbpchdncljlbaaGreatDoor
open Go Go.RowKit Go.Proofs
set_option maxHeartbeats 4000000
section
variable {base : Nat} {w w' : World} {bk b : Nat} {sy st : Int} {rs : List RuleD} {ps : List FP} {rv pv v' : Value} {vs : List Value}
end
def findN (ps : List FP) (x : FP) : Int := if x ∈ ps then (ps.idxOf x : Nat) else -1
end Go.Proofs.YtkbpchdncljlbaaGreatDoor
end
section
set_option linter.unusedSimpArgs false
set_option linter.unusedVariables false
namespace Go.Proofs.YtkbpchdncljlbaaGreatDoor
open Go Go.RowKit Go.Proofs Go.Maps
set_option maxHeartbeats 400000
def fp0 : FP := ⟨0, 0, 0⟩
def foldB (m : MachD) : Option (List FP × List RuleD) := bld (actF m) fp0 (m.sy + 1).toNat
theorem fvs_get (ps : List FP) (i : Nat) {p : FP} (h : ps[i]? = some p) : (fvs ps)[i * 3]? = some (.int .i64 p.k) ∧ (fvs ps)[i * 3 + 1]? = some (.int .i64 p.q) ∧ (fvs ps)[i * 3 + 2]? = some (.int .i64 p.h) := by
  induction ps generalizing i with
  | nil => simp at h
  | cons r ps ih =>
    cases i with
    | zero => simp at h; subst h; simp [fvs]
    | succ i =>
      have := ih i (by simpa using h)
      have e : (i + 1) * 3 = i * 3 + 3 := by omega
      have e1 : (i + 1) * 3 + 1 = (i * 3 + 1) + 3 := by omega
      have e2 : (i + 1) * 3 + 2 = (i * 3 + 2) + 3 := by omega
      simp only [fvs, List.flatMap_cons] at this ⊢
      rw [e1, e2, e]
      simpa using this
end Go.Proofs.YtkbpchdncljlbaaGreatDoor
end
