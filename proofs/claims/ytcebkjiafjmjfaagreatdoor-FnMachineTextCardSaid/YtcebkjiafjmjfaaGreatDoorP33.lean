/- Contract of the program's run of a machine by its runner. The machine is valid and the configuration is one of its.
Contract of the program's RunMachine. -/
import Derived.Test.YtcebkjiafjmjfaaGreatDoorP19
import Derived.Deep.RegionHeld3
section
set_option linter.unusedSimpArgs false
set_option linter.unusedVariables false
namespace Go.Proofs.YtcebkjiafjmjfaaGreatDoor
open Go Go.RowKit Go.Proofs Go.Shelf
attribute [local go_sem] Oper.semAt_some
set_option maxHeartbeats 400000
section
variable {w0 : World} {b k : Nat} {m : MachD} {c : ConfD} {mv : Value} {N B : Nat}
theorem FourR.turn {W W' : World} {a e n : Int} {s : Bool} (h : FourR W k a s e n) {row : Option Nat} (hg : W.grownBy W' row) (hr : ∀ r, row = some r → ∃ o : Obj, W.heap[r]? = some o ∧ o.isCells = false) : FourR W' k a s e n := by
  refine ⟨h.b0.kept hg (fun e => ?_), h.b1.kept hg (fun e => ?_), h.b2.kept hg (fun e => ?_), h.b3.kept hg (fun e => ?_)⟩
  · exact not_cells (o := .cells #[] 0) h.b0 (hr _ e.symm)
  · exact not_cells (o := .cells #[] 0) h.b1 (hr _ e.symm)
  · exact not_cells (o := .cells #[] 0) h.b2 (hr _ e.symm)
  · exact not_cells (o := .cells #[] 0) h.b3 (hr _ e.symm)
theorem ixRun_own (h0 : w0.heap.size ≤ B) (cd : Code) : OwnFrom B (IxRun w0 k cd) := by
  rintro s W W' row ⟨h1, h2, ⟨n, hF⟩, hE⟩ hg hr
  exact ⟨h1, h2, ⟨n, hF.turn hg (fun r e => (hr r e).2)⟩, hE.grown hg (fun r e => Nat.le_trans h0 (hr r e).1)⟩
end
theorem FourR.set0 {W : World} {k : Nat} {a e n : Int} {s : Bool} (h : FourR W k a s e n) (x : Int) : FourR (W.setCell ⟨k, 0, none⟩ (.int .i64 x)) k x s e n :=
  ⟨h.b0.set_ 0 _, h.b1.far (by simp) _, h.b2.far (by simp) _, h.b3.far (by simp) _⟩
theorem FourR.set1 {W : World} {k : Nat} {a e n : Int} {s : Bool} (h : FourR W k a s e n) (x : Bool) : FourR (W.setCell ⟨k + 1, 0, none⟩ (.bool x)) k a x e n :=
  ⟨h.b0.far (by simp) _, h.b1.set_ 0 _, h.b2.far (by simp) _, h.b3.far (by simp) _⟩
theorem FourR.set2 {W : World} {k : Nat} {a e n : Int} {s : Bool} (h : FourR W k a s e n) (x : Int) : FourR (W.setCell ⟨k + 1 + 1, 0, none⟩ (.int .i64 x)) k a s x n :=
  ⟨h.b0.far (by show k ≠ k + 1 + 1; omega) _, h.b1.far (by simp) _, h.b2.set_ 0 _, h.b3.far (by simp) _⟩
theorem FourR.set3 {W : World} {k : Nat} {a e n : Int} {s : Bool} (h : FourR W k a s e n) (x : Int) : FourR (W.setCell ⟨k + 1 + 1 + 1, 0, none⟩ (.int .i64 x)) k a s e x :=
  ⟨h.b0.far (by show k ≠ k + 1 + 1 + 1; omega) _, h.b1.far (by show k + 1 ≠ k + 1 + 1 + 1; omega) _, h.b2.far (by simp) _, h.b3.set_ 0 _⟩
end Go.Proofs.YtcebkjiafjmjfaaGreatDoor
end
section
set_option linter.unusedSimpArgs false
set_option linter.unusedVariables false
namespace Go.Proofs.YtcebkjiafjmjfaaGreatDoor
open Go Go.RowKit Go.Proofs
set_option maxHeartbeats 400000
theorem conf_run {m : MachD} {c : ConfD} (h : confB m c = true) : IGood m c ∧ fitI c = true := by
  simp only [confB, sideOk, inB, Bool.and_eq_true, decide_eq_true_eq, List.all_eq_true] at h
  obtain ⟨⟨hq, ⟨hl1, hl2⟩, _⟩, ⟨hr1, hr2⟩, _⟩ := h
  refine ⟨⟨by omega, by omega, fun z hz => by have := hl2 z hz; omega, fun z hz => by have := hr2 z hz; omega⟩, ?_⟩
  simp [fitI]
  omega
/-- What a run of a machine gives: the configuration, the steps, whether it halts, a code. -/
def RunVal (w w' : World) (x : ConfD) (n : Int) (s : Bool) (k : Int) (e : Ending) : Prop :=
  ∃ lv rv, e = .returned (.tuple #[.agg #[.int .i64 x.q, lv, rv], .int .i64 n, .bool s, .int .i64 k]) ∧ OwnInts w.heap.size w' lv x.l ∧ OwnInts w.heap.size w' rv x.r ∧ (∀ g, lv.ownBlock = some g → rv.ownBlock ≠ some g)
def RunRes (w : World) (m : MachD) (c : ConfD) (n : Int) (e : Ending) (w' : World) : Prop :=
  Ext w w' ∧
    ((((machOk m && confB m c) = false) ∧ RunVal w w' blankC 0 false 1 e) ∨
     (((machOk m && confB m c) = true) ∧ inB n 1 20000 = false ∧ RunVal w w' blankC 0 false 2 e) ∨
     (((machOk m && confB m c) = true) ∧ inB n 1 20000 = true ∧ ∃ i, FullAt m c n.toNat i ∧ RunVal w w' blankC 0 false 5 e) ∨
     (((machOk m && confB m c) = true) ∧ inB n 1 20000 = true ∧ ∃ i : Nat, EndAt m c n.toNat i ∧ RunVal w w' (cfgI m c i) i (decide (lookI m (cfgI m c i) = noR)) 0 e))
theorem RunVal.blank {w w1 : World} {n k : Int} {s : Bool} {b : Nat} (x y z : Value) : RunVal w (((w1.setCell ⟨b, 0, none⟩ x).setCell ⟨b, 1, none⟩ y).setCell ⟨b, 2, none⟩ z) blankC n s k (.returned (.tuple #[.agg #[.int .i64 0, .slice none 0 0, .slice none 0 0], .int .i64 n, .bool s, .int .i64 k])) :=
  ⟨_, _, rfl, World.ownsRow_nil .., World.ownsRow_nil .., fun g hg => by simp [Value.ownBlock] at hg⟩
theorem Ext.three {w w1 : World} {b : Nat} (h : Ext w w1) (hb : w.heap.size ≤ b) (x y z : Value) : Ext w (((w1.setCell ⟨b, 0, none⟩ x).setCell ⟨b, 1, none⟩ y).setCell ⟨b, 2, none⟩ z) :=
  ((h.setCell hb _).setCell hb _).setCell hb _
end Go.Proofs.YtcebkjiafjmjfaaGreatDoor
end
