/- Contracts of the laws' and the reference's small functions on lists that number anew: r8Same, r8Moved, l05First, SortList, isOrder.
The contract of the program's renumbered, at its two uses (an order of the states; an order of the symbols). Written by mkrend.py.
The contract of the law's order of numbers: it is a permutation of the numbers below n. -/
import Derived.Test.YtapjofbjedpmgaaGreatC11
import Derived.Test.YtapjofbjedpmgaaGreatC03
import Derived.Maps.AppendAt
import Derived.Sort.OwnSortedInts
import Derived.Test.YtapjofbjedpmgaaGreatC06
import Derived.Lib.SliceRun
import Derived.Test.YtapjofbjedpmgaaGreatC05
import Derived.StillTailTactics
import Derived.Deep.RegionLaw
section
set_option linter.unusedSimpArgs false
set_option linter.unusedVariables false
namespace Go.Proofs.YtapjofbjedpmgaaGreat
open Go Go.RowKit Go.Proofs
set_option maxHeartbeats 400000
/-- The numbers below n in order. -/
def upL (n : Nat) : List Int := (List.range n).map fun (i : Nat) => (i : Int)
theorem upL_len (n : Nat) : (upL n).length = n := by simp [upL]
end Go.Proofs.YtapjofbjedpmgaaGreat
end
section
set_option linter.unusedSimpArgs false
set_option linter.unusedVariables false
namespace Go.Proofs.YtapjofbjedpmgaaGreat
open Go Go.RowKit Go.Proofs
set_option maxHeartbeats 400000
structure RenSt (w : World) (g go : Nat) (m : MachD) (rv uv : Value) (rs : List RuleD) (W : World) : Prop where
  ext : Ext w W
  mac : Blk W g 26 #[.int .i64 m.sy, .int .i64 m.st, rv]
  res : Blk W (g + 1) 26 #[.int .i64 0, .int .i64 0, .slice none 0 0]
  out : Blk W go 26 #[.int .i64 m.sy, .int .i64 m.st, uv]
  own : OwnRules g W uv rs
theorem RenSt.grow {w : World} {g go : Nat} {m : MachD} {rv uv : Value} {rs : List RuleD} {W W' : World} (h : RenSt w g go m rv uv rs W) (he : Ext W W') : RenSt w g go m rv uv rs W' :=
  ⟨h.ext.trans he, h.mac.ext he, h.res.ext he, h.out.ext he, OwnRules.ext h.own he⟩
theorem RenSt.field {w : World} {g go gr c N : Nat} {m : MachD} {rv : Value} {rs qs : List RuleD} {W : World} (hN : rs.length = N) (h : RenSt w g go m rv (.slice (some ⟨gr, 0, none⟩) N c) rs W) (hg : w.heap.size = g) (j : Nat) (u : Value) (hq : (rvs rs).set j u = rvs qs) (hl : qs.length = N) :
    RenSt w g go m rv (.slice (some ⟨gr, 0, none⟩) N c) qs (W.setCell ⟨gr, j, none⟩ u) := by
  subst hN
  have hlt := h.own.lt gr rfl
  have n1 := own_far_blk h.own h.mac (by decide) gr rfl
  have n2 := own_far_blk h.own h.res (by decide) gr rfl
  have n3 := own_far_blk h.own h.out (by decide) gr rfl
  refine ⟨h.ext.setCell (by simp; omega) _, h.mac.far (by simpa using fun e => n1 e.symm) _, h.res.far (by simpa using fun e => n2 e.symm) _, h.out.far (by simpa using fun e => n3 e.symm) _, ?_⟩
  have := (World.ownsRow.stored h.own j u).1
  rw [hq] at this
  unfold OwnRules
  rw [hl]
  exact this
theorem RenSt.rule {w : World} {g go gr c N : Nat} {m : MachD} {rv : Value} {rs : List RuleD} {W : World} (hN : rs.length = N) (h : RenSt w g go m rv (.slice (some ⟨gr, 0, none⟩) N c) rs W) (hg : w.heap.size = g) (k : Nat) (hk : k < N) (x y z : Int) :
    RenSt w g go m rv (.slice (some ⟨gr, 0, none⟩) N c) (rs.set k ⟨x, y, z⟩) (((W.setCell ⟨gr, k * 3, none⟩ (.int .i64 x)).setCell ⟨gr, k * 3 + 1, none⟩ (.int .i64 y)).setCell ⟨gr, k * 3 + 2, none⟩ (.int .i64 z)) := by
  have s1 := RenSt.field hN h hg (k * 3) (.int .i64 x) (rvs_set0 rs k x (by omega)) (by simpa using hN)
  have l1 : (rs.set k ⟨x, rs[k].m, rs[k].n⟩).length = N := by simpa using hN
  have s2 := RenSt.field l1 s1 hg (k * 3 + 1) (.int .i64 y) (rvs_set1 _ k y (by omega)) (by simpa using hN)
  have l2 : ((rs.set k ⟨x, rs[k].m, rs[k].n⟩).set k ⟨((rs.set k ⟨x, rs[k].m, rs[k].n⟩)[k]'(by omega)).w, y, ((rs.set k ⟨x, rs[k].m, rs[k].n⟩)[k]'(by omega)).n⟩).length = N := by simpa using hN
  have s3 := RenSt.field l2 s2 hg (k * 3 + 2) (.int .i64 z) (rvs_set2 _ k z (by omega)) (by simpa using hN)
  simpa [List.set_set] using s3
theorem RenSt.far {w : World} {g go gr c N b : Nat} {m : MachD} {rv : Value} {rs : List RuleD} {W : World} (h : RenSt w g go m rv (.slice (some ⟨gr, 0, none⟩) N c) rs W) (hg : w.heap.size = g) (h1 : g + 1 < b) (h2 : go ≠ b) (h3 : gr ≠ b) (i : Nat) (u : Value) :
    RenSt w g go m rv (.slice (some ⟨gr, 0, none⟩) N c) rs (W.setCell ⟨b, i, none⟩ u) :=
  ⟨h.ext.setCell (by simp; omega) _, h.mac.far (by simp; omega) _, h.res.far (by simp; omega) _, h.out.far (by simpa using h2) _,
    ownsRow_far h.own (fun k hk => by simp [Value.ownBlock] at hk; subst hk; simpa using h3) _⟩
end Go.Proofs.YtapjofbjedpmgaaGreat
end
section
set_option linter.unusedSimpArgs false
set_option linter.unusedVariables false
namespace Go.Proofs.YtapjofbjedpmgaaGreat
open Go Go.RowKit Go.Proofs
set_option maxHeartbeats 400000
structure OrdSt (w : World) (b gu n cu d : Nat) (zs : List Int) (W : World) : Prop where
  ext : Ext w W
  src : Src w.heap.size W b d
  own : W.ownsRow w.heap.size 2 1 (.slice (some ⟨gu, 0, none⟩) n cu) n (ivs zs)
  perm : List.Perm zs (upL n)
theorem OrdSt.len {w : World} {b gu n cu d : Nat} {zs : List Int} {W : World} (h : OrdSt w b gu n cu d zs W) : zs.length = n := by rw [h.perm.length_eq, upL_len]
end Go.Proofs.YtapjofbjedpmgaaGreat
end
