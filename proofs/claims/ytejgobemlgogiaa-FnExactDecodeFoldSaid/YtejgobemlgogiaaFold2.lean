/- Contracts of the program's actions of the machine on one half of the tape, continued. The place and the symbol are the machine's. -/
import Derived.Test.YtejgobemlgogiaaFold1
set_option linter.unusedSimpArgs false
set_option linter.unusedVariables false
namespace Go.Proofs.Ytejgobemlgogiaa
open Go Go.RowKit Go.Proofs
set_option maxHeartbeats 4000000
set_option maxRecDepth 20000 in
theorem foldKeep_c (mv k h v : Int) (p : FP) (bv bp : Nat) (w : World) (hv : w.cell? ⟨bv, 0, none⟩ = some (.int .i64 v)) (hp : w.cell? ⟨bp, 1, none⟩ = some (.int .i64 p.q)) :
    Calls Try.prog 67 #[.int .i64 mv, .int .i64 k, .int .i64 h, .pointer (some ⟨bv, 0, none⟩), .pointer (some ⟨bp, 0, none⟩)] w fun e w' => e = .returned (ActV (keepD v p mv k h)) ∧ Ext w w' := by
  have hx := Ext.alloc w (.cells #[.int .i64 0, .int .i64 0, .int .i64 0, .int .i64 0, .int .i64 0, .bool false] 91)
  have hv := hx.cell hv
  have hp := hx.cell hp
  go_enter Try.func67, Try.ntmps67
  go_wp2
  refine bodyPost_ret (v := ActV (keepD v p mv k h)) (by simp [results, Try.results67, go_sem, ActV, keepD]) rfl ?_
  have hw1 : w.heap.size ≤ w.heap.size := Nat.le_refl _
  exact ⟨rfl, by repeat (first | with_reducible exact Ext.alloc _ _ | refine Ext.setCell ?_ hw1 _)⟩
structure FoldArgs (m : MachD) (p : FP) (v : Int) : Prop where
  ok : machOk m = true
  p : POk m.st p
  v0 : 0 ≤ v
  v1 : v ≤ m.sy
set_option maxRecDepth 20000 in
theorem foldAction_c (mv : Value) (m : MachD) (p : FP) (v : Int) (w : World) (hm : Mach w mv m) (ha : FoldArgs m p v) :
    Calls Try.prog 49 #[mv, p.v, .int .i64 v] w fun e w' => e = .returned (ActV (actF m p v)) ∧ Ext w w' := by
  obtain ⟨rv, rfl, hr⟩ := hm
  obtain ⟨A, c, rfl, h5, h5'⟩ := hr.form
  obtain ⟨s1, s2, s3, s4, hl⟩ := machOk_all ha.ok
  have hp := ha.p
  obtain ⟨v0, v1⟩ : 0 ≤ v ∧ v ≤ m.sy := ⟨ha.v0, ha.v1⟩
  obtain ⟨k, q, h⟩ := p
  have q0 := hp.q0
  have q1 := hp.q1
  simp only at q0 q1
  have hl6 : m.rules.length ≤ 6000 := by have := (mul_bounds s1 s2 s3 s4).2; omega
  have HIX : Hid (v ≠ m.sy → ∃ j : Nat, q * m.sy + v = j ∧ j < m.rules.length) := by
    unfold Hid
    intro hne
    exact ruleIx s1 s2 hl q0 q1 v0 (by omega)
  obtain ⟨W, hW⟩ : ∃ W, W = (((w.alloc (.cells #[.int .i64 m.sy, .int .i64 m.st, .slice A m.rules.length c] 35)).alloc (.cells #[.int .i64 k, .int .i64 q, .int .i64 h] 89)).alloc (.cells #[.int .i64 v] 2)).alloc (.cells #[.int .i64 0, .int .i64 0, .int .i64 0, .int .i64 0, .int .i64 0, .bool false] 91) := ⟨_, rfl⟩
  have hXW : Ext w W := by rw [hW]; exact (((Ext.alloc _ _).trans (Ext.alloc _ _)).trans (Ext.alloc _ _)).trans (Ext.alloc _ _)
  have bM : Blk W w.heap.size 35 #[.int .i64 m.sy, .int .i64 m.st, .slice A m.rules.length c] := by rw [hW]; exact ((((Blk.new _ _ _ _ rfl).alloc _).alloc _).alloc _)
  have bP : Blk W (w.heap.size + 1) 89 #[.int .i64 k, .int .i64 q, .int .i64 h] := by rw [hW]; exact (((Blk.new _ _ _ _ (by simp)).alloc _).alloc _)
  have bV : Blk W (w.heap.size + 1 + 1) 2 #[.int .i64 v] := by rw [hW]; exact ((Blk.new _ _ _ _ (by simp)).alloc _)
  have bZ : Blk W (w.heap.size + 1 + 1 + 1) 91 #[.int .i64 0, .int .i64 0, .int .i64 0, .int .i64 0, .int .i64 0, .bool false] := by rw [hW]; exact Blk.new _ _ _ _ (by simp)
  have hMr : Mach W (.agg #[.int .i64 m.sy, .int .i64 m.st, .slice A m.rules.length c]) m := ⟨_, rfl, hr.ext hXW⟩
  have hw1 : w.heap.size ≤ w.heap.size + 1 + 1 + 1 := by omega
  have p0 := bP.cell 0
  have p1 := bP.cell 1
  have p2 := bP.cell 2
  have y0 := bV.cell 0
  have m0 := bM.cell 0
  have m1 := bM.cell 1
  have m2 := bM.cell 2
  simp only [List.getElem?_toArray, List.getElem?_cons_zero, List.getElem?_cons_succ] at p0 p1 p2 y0 m0 m1 m2
  have z0 := bZ.cell
  have z1 := bZ.frozen
  simp only [FP.v]
  go_enter Try.func49, Try.ntmps49
  by_cases hne : v = m.sy
  · have hvb : (v == m.sy) = true := by simp [hne]
    rcases hp.kinds with e | e | e | e | e | e <;> simp only at e <;> subst e
    · have HE : Hid (actF m ⟨0, q, h⟩ v = noA) := by unfold Hid; simp [actF, hne]
      clear hne
      go_wp2
      refine bodyPost_ret (v := ActV noA) (by simp [results, Try.results49, go_sem, ActV, noA]) rfl ?_
      exact ⟨by rw [HE.out], (((Ext.alloc _ _).trans (Ext.alloc _ _)).trans (Ext.alloc _ _)).trans (Ext.alloc _ _)⟩
    · have HE : Hid (actF m ⟨1, q, h⟩ v = noA) := by unfold Hid; simp [actF, hne]
      clear hne
      go_wp2
      refine bodyPost_ret (v := ActV noA) (by simp [results, Try.results49, go_sem, ActV, noA]) rfl ?_
      exact ⟨by rw [HE.out], (((Ext.alloc _ _).trans (Ext.alloc _ _)).trans (Ext.alloc _ _)).trans (Ext.alloc _ _)⟩
    · have HE : Hid (actF m ⟨2, q, h⟩ v = keepD v ⟨2, q, h⟩ 1 3 0) := by unfold Hid; simp [actF, hne]
      clear hne
      go_wp2_with fail
      rw [← hW]
      clear hW
      refine (foldKeep_c (1) 3 (0) v ⟨2, q, h⟩ _ _ _ y0 p1).mono ?_
      rintro e w1 ⟨rfl, hx1⟩
      have z0 := (bZ.ext hx1).cell
      have z1 := (bZ.ext hx1).frozen
      have hX := hXW.trans hx1
      simp only [ActV, keepD]
      go_wp2
      refine bodyPost_ret (v := ActV (keepD v ⟨2, q, h⟩ (1) 3 (0))) (by simp [results, Try.results49, go_sem, z0, ActV, keepD, noA]) rfl ?_
      exact ⟨by rw [HE.out], by repeat (first | with_reducible exact hX | refine Ext.setCell ?_ hw1 _)⟩
    · have HE : Hid (actF m ⟨3, q, h⟩ v = noA) := by unfold Hid; simp [actF, hne]
      clear hne
      go_wp2
      refine bodyPost_ret (v := ActV noA) (by simp [results, Try.results49, go_sem, ActV, noA]) rfl ?_
      exact ⟨by rw [HE.out], (((Ext.alloc _ _).trans (Ext.alloc _ _)).trans (Ext.alloc _ _)).trans (Ext.alloc _ _)⟩
    · have HE : Hid (actF m ⟨4, q, h⟩ v = noA) := by unfold Hid; simp [actF, hne]
      clear hne
      go_wp2
      refine bodyPost_ret (v := ActV noA) (by simp [results, Try.results49, go_sem, ActV, noA]) rfl ?_
      exact ⟨by rw [HE.out], (((Ext.alloc _ _).trans (Ext.alloc _ _)).trans (Ext.alloc _ _)).trans (Ext.alloc _ _)⟩
    · have HE : Hid (actF m ⟨5, q, h⟩ v = keepD v ⟨5, q, h⟩ 1 0 0) := by unfold Hid; simp [actF, hne]
      clear hne
      go_wp2_with fail
      rw [← hW]
      clear hW
      refine (foldKeep_c (1) 0 (0) v ⟨5, q, h⟩ _ _ _ y0 p1).mono ?_
      rintro e w1 ⟨rfl, hx1⟩
      have z0 := (bZ.ext hx1).cell
      have z1 := (bZ.ext hx1).frozen
      have hX := hXW.trans hx1
      simp only [ActV, keepD]
      go_wp2
      refine bodyPost_ret (v := ActV (keepD v ⟨5, q, h⟩ (1) 0 (0))) (by simp [results, Try.results49, go_sem, z0, ActV, keepD, noA]) rfl ?_
      exact ⟨by rw [HE.out], by repeat (first | with_reducible exact hX | refine Ext.setCell ?_ hw1 _)⟩
  · have hvb : (v == m.sy) = false := by simp [hne]
    rcases hp.kinds with e | e | e | e | e | e <;> simp only at e <;> subst e
    · have HE : Hid (actF m ⟨0, q, h⟩ v = foldMainD m q h v) := by unfold Hid; simp [actF, hne]
      obtain ⟨j, hj1, hj2⟩ := HIX.out hne
      go_wp2_with fail
      rw [← hW]
      clear hW
      refine (foldMain_c _ m q (h) v j _ hMr hj1 hj2 hl6 s1 s2 q0 (by omega) v0 (by omega)).mono ?_
      rintro e w1 ⟨rfl, hx1⟩
      have z0 := (bZ.ext hx1).cell
      have z1 := (bZ.ext hx1).frozen
      have hX := hXW.trans hx1
      generalize foldMainD m q (h) v = a at *
      simp only [ActV]
      go_wp2
      refine bodyPost_ret (v := ActV (a)) (by simp [results, Try.results49, go_sem, z0, ActV, keepD, noA]) rfl ?_
      exact ⟨by rw [HE.out], by repeat (first | with_reducible exact hX | refine Ext.setCell ?_ hw1 _)⟩
    · have HE : Hid (actF m ⟨1, q, h⟩ v = keepD v ⟨1, q, h⟩ 1 0 h) := by unfold Hid; simp [actF, hne]
      go_wp2_with fail
      rw [← hW]
      clear hW
      refine (foldKeep_c (1) 0 (h) v ⟨1, q, h⟩ _ _ _ y0 p1).mono ?_
      rintro e w1 ⟨rfl, hx1⟩
      have z0 := (bZ.ext hx1).cell
      have z1 := (bZ.ext hx1).frozen
      have hX := hXW.trans hx1
      simp only [ActV, keepD]
      go_wp2
      refine bodyPost_ret (v := ActV (keepD v ⟨1, q, h⟩ (1) 0 (h))) (by simp [results, Try.results49, go_sem, z0, ActV, keepD, noA]) rfl ?_
      exact ⟨by rw [HE.out], by repeat (first | with_reducible exact hX | refine Ext.setCell ?_ hw1 _)⟩
    · have HE : Hid (actF m ⟨2, q, h⟩ v = keepD v ⟨2, q, h⟩ (-1) 0 0) := by unfold Hid; simp [actF, hne]
      go_wp2_with fail
      rw [← hW]
      clear hW
      refine (foldKeep_c (-1) 0 (0) v ⟨2, q, h⟩ _ _ _ y0 p1).mono ?_
      rintro e w1 ⟨rfl, hx1⟩
      have z0 := (bZ.ext hx1).cell
      have z1 := (bZ.ext hx1).frozen
      have hX := hXW.trans hx1
      simp only [ActV, keepD]
      go_wp2
      refine bodyPost_ret (v := ActV (keepD v ⟨2, q, h⟩ (-1) 0 (0))) (by simp [results, Try.results49, go_sem, z0, ActV, keepD, noA]) rfl ?_
      exact ⟨by rw [HE.out], by repeat (first | with_reducible exact hX | refine Ext.setCell ?_ hw1 _)⟩
    · have HE : Hid (actF m ⟨3, q, h⟩ v = keepD v ⟨3, q, h⟩ 1 0 1) := by unfold Hid; simp [actF, hne]
      go_wp2_with fail
      rw [← hW]
      clear hW
      refine (foldKeep_c (1) 0 (1) v ⟨3, q, h⟩ _ _ _ y0 p1).mono ?_
      rintro e w1 ⟨rfl, hx1⟩
      have z0 := (bZ.ext hx1).cell
      have z1 := (bZ.ext hx1).frozen
      have hX := hXW.trans hx1
      simp only [ActV, keepD]
      go_wp2
      refine bodyPost_ret (v := ActV (keepD v ⟨3, q, h⟩ (1) 0 (1))) (by simp [results, Try.results49, go_sem, z0, ActV, keepD, noA]) rfl ?_
      exact ⟨by rw [HE.out], by repeat (first | with_reducible exact hX | refine Ext.setCell ?_ hw1 _)⟩
    · have HE : Hid (actF m ⟨4, q, h⟩ v = keepD v ⟨4, q, h⟩ (-1) 5 0) := by unfold Hid; simp [actF, hne]
      go_wp2_with fail
      rw [← hW]
      clear hW
      refine (foldKeep_c (-1) 5 (0) v ⟨4, q, h⟩ _ _ _ y0 p1).mono ?_
      rintro e w1 ⟨rfl, hx1⟩
      have z0 := (bZ.ext hx1).cell
      have z1 := (bZ.ext hx1).frozen
      have hX := hXW.trans hx1
      simp only [ActV, keepD]
      go_wp2
      refine bodyPost_ret (v := ActV (keepD v ⟨4, q, h⟩ (-1) 5 (0))) (by simp [results, Try.results49, go_sem, z0, ActV, keepD, noA]) rfl ?_
      exact ⟨by rw [HE.out], by repeat (first | with_reducible exact hX | refine Ext.setCell ?_ hw1 _)⟩
    · have HE : Hid (actF m ⟨5, q, h⟩ v = foldMainD m q 1 v) := by unfold Hid; simp [actF, hne]
      obtain ⟨j, hj1, hj2⟩ := HIX.out hne
      go_wp2_with fail
      rw [← hW]
      clear hW
      refine (foldMain_c _ m q (1) v j _ hMr hj1 hj2 hl6 s1 s2 q0 (by omega) v0 (by omega)).mono ?_
      rintro e w1 ⟨rfl, hx1⟩
      have z0 := (bZ.ext hx1).cell
      have z1 := (bZ.ext hx1).frozen
      have hX := hXW.trans hx1
      generalize foldMainD m q (1) v = a at *
      simp only [ActV]
      go_wp2
      refine bodyPost_ret (v := ActV (a)) (by simp [results, Try.results49, go_sem, z0, ActV, keepD, noA]) rfl ?_
      exact ⟨by rw [HE.out], by repeat (first | with_reducible exact hX | refine Ext.setCell ?_ hw1 _)⟩
end Go.Proofs.Ytejgobemlgogiaa
