/- Contracts of the program's copy of a machine and of the closures that number anew.
The contract of the program's renumbered, at its two uses (an order of the states; an order of the symbols). Written by mkrend.py. -/
import Derived.Test.YtcebkjiafjmjfaaGreatDoorP28
import Derived.Lib.SliceRun
import Derived.Test.YtcebkjiafjmjfaaGreatDoorP16
import Derived.StillTailTactics
import Derived.Deep.RegionLaw
section
set_option linter.unusedSimpArgs false
set_option linter.unusedVariables false
namespace Go.Proofs.YtcebkjiafjmjfaaGreatDoor
open Go Go.RowKit Go.Proofs
set_option maxHeartbeats 400000
theorem rvs_one (rs : List RuleD) : ∀ u ∈ rvs rs, u.oneCell' = true := by
  intro u hu
  simp only [rvs, List.mem_flatMap] at hu
  obtain ⟨r, _, hu⟩ := hu
  simp at hu
  rcases hu with rfl | rfl | rfl <;> rfl
end Go.Proofs.YtcebkjiafjmjfaaGreatDoor
end
section
set_option linter.unusedSimpArgs false
set_option linter.unusedVariables false
namespace Go.Proofs.YtcebkjiafjmjfaaGreatDoor
open Go Go.RowKit Go.Proofs
set_option maxHeartbeats 400000
theorem wrap64_small {z : Int} (h0 : 0 ≤ z) (h1 : z ≤ 4611686018427387904) : wrap64 z = z := by
  unfold wrap64; omega
/-- A rule under other numbers. -/
def renR (S Y : Int → Int) (r : RuleD) : RuleD := if isR r then ⟨Y r.w, r.m, S r.n⟩ else r
def renAt (m : MachD) (S Y : Int → Int) (k : Nat) : Nat := (S ((k : Int) / m.sy) * m.sy + Y ((k : Int) % m.sy)).toNat
def renTo (m : MachD) (S Y : Int → Int) : Nat → List RuleD
  | 0 => m.rules
  | k + 1 => (renTo m S Y k).set (renAt m S Y k) (renR S Y (m.rules.getD k noR))
/-- A machine under other numbers. -/
def renM (m : MachD) (S Y : Int → Int) : MachD := ⟨m.sy, m.st, renTo m S Y m.rules.length⟩
theorem renTo_len (m : MachD) (S Y : Int → Int) (k : Nat) : (renTo m S Y k).length = m.rules.length := by
  induction k with
  | zero => rfl
  | succ k ih => simp [renTo, ih]
structure RenSt (w : World) (g go : Nat) (m : MachD) (rv uv : Value) (rs : List RuleD) (W : World) : Prop where
  ext : Ext w W
  mac : Blk W g 26 #[.int .i64 m.sy, .int .i64 m.st, rv]
  res : Blk W (g + 1) 26 #[.int .i64 0, .int .i64 0, .slice none 0 0]
  out : Blk W go 26 #[.int .i64 m.sy, .int .i64 m.st, uv]
  own : OwnRules g W uv rs
theorem RenSt.grow {w : World} {g go : Nat} {m : MachD} {rv uv : Value} {rs : List RuleD} {W W' : World} (h : RenSt w g go m rv uv rs W) (he : Ext W W') : RenSt w g go m rv uv rs W' :=
  ⟨h.ext.trans he, h.mac.ext he, h.res.ext he, h.out.ext he, OwnRules.ext h.own he⟩
theorem RenSt.field {w : World} {g go gr c N : Nat} {m : MachD} {rv : Value} {rs qs : List RuleD} {W : World} (hN : rs.length = N) (h : RenSt w g go m rv (.slice (some ⟨gr, 0, none⟩) N c) rs W) (hg : w.heap.size = g) (j : Nat) (u : Value) (hq : (rvs rs).set j u = rvs qs) (hl : qs.length = N) :
    RenSt w g go m rv (.slice (some ⟨gr, 0, none⟩) N c) qs (W.setCell ⟨gr, j, none⟩ u) := by
  subst hN
  have hlt := h.own.lt gr rfl
  have n1 := own_far_blk h.own h.mac (by decide) gr rfl
  have n2 := own_far_blk h.own h.res (by decide) gr rfl
  have n3 := own_far_blk h.own h.out (by decide) gr rfl
  refine ⟨h.ext.setCell (by simp; omega) _, h.mac.far (by simpa using fun e => n1 e.symm) _, h.res.far (by simpa using fun e => n2 e.symm) _, h.out.far (by simpa using fun e => n3 e.symm) _, ?_⟩
  have := (World.ownsRow.stored h.own j u).1
  rw [hq] at this
  unfold OwnRules
  rw [hl]
  exact this
theorem RenSt.rule {w : World} {g go gr c N : Nat} {m : MachD} {rv : Value} {rs : List RuleD} {W : World} (hN : rs.length = N) (h : RenSt w g go m rv (.slice (some ⟨gr, 0, none⟩) N c) rs W) (hg : w.heap.size = g) (k : Nat) (hk : k < N) (x y z : Int) :
    RenSt w g go m rv (.slice (some ⟨gr, 0, none⟩) N c) (rs.set k ⟨x, y, z⟩) (((W.setCell ⟨gr, k * 3, none⟩ (.int .i64 x)).setCell ⟨gr, k * 3 + 1, none⟩ (.int .i64 y)).setCell ⟨gr, k * 3 + 2, none⟩ (.int .i64 z)) := by
  have s1 := RenSt.field hN h hg (k * 3) (.int .i64 x) (rvs_set0 rs k x (by omega)) (by simpa using hN)
  have l1 : (rs.set k ⟨x, rs[k].m, rs[k].n⟩).length = N := by simpa using hN
  have s2 := RenSt.field l1 s1 hg (k * 3 + 1) (.int .i64 y) (rvs_set1 _ k y (by omega)) (by simpa using hN)
  have l2 : ((rs.set k ⟨x, rs[k].m, rs[k].n⟩).set k ⟨((rs.set k ⟨x, rs[k].m, rs[k].n⟩)[k]'(by omega)).w, y, ((rs.set k ⟨x, rs[k].m, rs[k].n⟩)[k]'(by omega)).n⟩).length = N := by simpa using hN
  have s3 := RenSt.field l2 s2 hg (k * 3 + 2) (.int .i64 z) (rvs_set2 _ k z (by omega)) (by simpa using hN)
  simpa [List.set_set] using s3
theorem RenSt.far {w : World} {g go gr c N b : Nat} {m : MachD} {rv : Value} {rs : List RuleD} {W : World} (h : RenSt w g go m rv (.slice (some ⟨gr, 0, none⟩) N c) rs W) (hg : w.heap.size = g) (h1 : g + 1 < b) (h2 : go ≠ b) (h3 : gr ≠ b) (i : Nat) (u : Value) :
    RenSt w g go m rv (.slice (some ⟨gr, 0, none⟩) N c) rs (W.setCell ⟨b, i, none⟩ u) :=
  ⟨h.ext.setCell (by simp; omega) _, h.mac.far (by simp; omega) _, h.res.far (by simp; omega) _, h.out.far (by simpa using h2) _,
    ownsRow_far h.own (fun k hk => by simp [Value.ownBlock] at hk; subst hk; simpa using h3) _⟩
theorem isR_no {r : RuleD} (h : isR r = true) : ¬ r = noR := by
  intro e
  subst e
  simp [isR, rEq] at h
theorem ruleRange {m : MachD} {x y z : Int} (h : ruleOk m.sy m.st ⟨x, y, z⟩ = true) (hr : isR ⟨x, y, z⟩ = true) : (0 ≤ x ∧ x < m.sy) ∧ (0 ≤ z ∧ z < m.st) := by
  have hn := isR_no hr
  simp only [ruleOk, hn, decide_false, Bool.false_or, Bool.and_eq_true, inB, decide_eq_true_eq] at h
  omega
theorem renAt_lt {m : MachD} {S Y : Int → Int} {k : Nat} (hm : machOk m = true) (hk : k < m.rules.length) (hS : ∀ z, 0 ≤ z → z < m.st → 0 ≤ S z ∧ S z < m.st) (hY : ∀ z, 0 ≤ z → z < m.sy → 0 ≤ Y z ∧ Y z < m.sy) :
    (0 ≤ (k : Int) / m.sy ∧ (k : Int) / m.sy < m.st) ∧ (0 ≤ (k : Int) % m.sy ∧ (k : Int) % m.sy < m.sy) ∧ 0 ≤ S ((k : Int) / m.sy) * m.sy ∧ S ((k : Int) / m.sy) * m.sy + Y ((k : Int) % m.sy) < m.rules.length := by
  obtain ⟨⟨s1, s2, s3, s4⟩, hl, _⟩ := machOk_five hm
  have a1 : (k : Int) / m.sy < m.st := Int.ediv_lt_of_lt_mul (by omega) (by rw [Int.mul_comm]; omega)
  have a0 : 0 ≤ (k : Int) / m.sy := Int.ediv_nonneg (by omega) (by omega)
  have b0 := Int.emod_nonneg (k : Int) (show m.sy ≠ 0 by omega)
  have b1 := Int.emod_lt_of_pos (k : Int) (show 0 < m.sy by omega)
  obtain ⟨c0, c1⟩ := hS _ a0 a1
  obtain ⟨d0, d1⟩ := hY _ b0 b1
  have e1 := Int.mul_nonneg c0 (show 0 ≤ m.sy by omega)
  have e2 : S ((k : Int) / m.sy) * m.sy + m.sy ≤ m.st * m.sy := by
    have := Int.mul_le_mul_of_nonneg_right (show S ((k : Int) / m.sy) + 1 ≤ m.st from c1) (show 0 ≤ m.sy by omega)
    rw [Int.add_mul, Int.one_mul] at this
    exact this
  rw [Int.mul_comm] at hl
  exact ⟨⟨a0, a1⟩, ⟨b0, b1⟩, e1, by omega⟩
end Go.Proofs.YtcebkjiafjmjfaaGreatDoor
end
