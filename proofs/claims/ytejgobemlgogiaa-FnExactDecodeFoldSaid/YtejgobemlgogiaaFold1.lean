/- Contracts of the program's actions of the machine on one half of the tape. The place and the symbol are the machine's. -/
import Derived.Test.YtejgobemlgogiaaFoldP
set_option linter.unusedSimpArgs false
set_option linter.unusedVariables false
namespace Go.Proofs.Ytejgobemlgogiaa
open Go Go.RowKit Go.Proofs
set_option maxHeartbeats 400000
set_option maxRecDepth 20000 in
set_option maxHeartbeats 4000000 in
theorem foldMain_c (mv : Value) (m : MachD) (q h v : Int) (k : Nat) (w : World) (hm : Mach w mv m) (hk : q * m.sy + v = k) (hl : k < m.rules.length) (_h6 : m.rules.length ≤ 6000) (s1 : 2 ≤ m.sy) (s2 : m.sy ≤ 6) (q0 : 0 ≤ q) (q1 : q ≤ 1000) (v0 : 0 ≤ v) (v1 : v ≤ 6) :
    Calls Try.prog 68 #[mv, .int .i64 q, .int .i64 h, .int .i64 v] w fun e w' => e = .returned (ActV (foldMainD m q h v)) ∧ Ext w w' := by
  obtain ⟨rv, rfl, hr⟩ := hm
  obtain ⟨A, c, rfl, h5, h5'⟩ := hr.form
  have e0 : m.rules.getD (q * m.sy + v).toNat noR = m.rules[k] := by
    rw [hk, List.getD_eq_getElem?_getD, Int.toNat_natCast, List.getElem?_eq_getElem hl]; rfl
  have hq : 0 ≤ q * m.sy ∧ q * m.sy ≤ 6000 := ⟨Int.mul_nonneg q0 (by omega), by have := Int.mul_le_mul q1 s2 (by omega) (by omega); omega⟩
  obtain ⟨b, off, rfl, hc⟩ := hr.at hl
  obtain ⟨c0, c1, c2⟩ := hc k hl
  have HD : Hid (foldMainD m q h v = if m.rules[k] = noR then noA else if (m.rules[k].m == 1) == (h == 0) then ⟨m.rules[k].w, 1, ⟨1, m.rules[k].n, h⟩, false⟩
    else if h == 0 then ⟨m.rules[k].w, -1, ⟨2, m.rules[k].n, 0⟩, false⟩ else ⟨m.rules[k].w, -1, ⟨4, m.rules[k].n, 0⟩, false⟩) := by
    unfold Hid foldMainD; rw [e0]
  generalize hrk : m.rules[k] = r at *
  obtain ⟨rw_, rm, rn⟩ := r
  simp only at c0 c1 c2 HD
  clear hrk e0 hc
  have hx := (Ext.alloc w (.cells #[.int .i64 m.sy, .int .i64 m.st, .slice (some ⟨b, off, none⟩) m.rules.length c] 35)).trans (Ext.alloc _ (.cells #[.int .i64 0, .int .i64 0, .int .i64 0, .int .i64 0, .int .i64 0, .bool false] 91))
  have c0 := hx.cell c0
  have c1 := hx.cell c1
  have c2 := hx.cell c2
  obtain ⟨W, hW⟩ : ∃ W, W = ((w.alloc (.cells #[.int .i64 m.sy, .int .i64 m.st, .slice (some ⟨b, off, none⟩) m.rules.length c] 35)).alloc (.cells #[.int .i64 0, .int .i64 0, .int .i64 0, .int .i64 0, .int .i64 0, .bool false] 91)).alloc (.cells #[.int .i64 rw_, .int .i64 rm, .int .i64 rn] 77) := ⟨_, rfl⟩
  have hXW : Ext w W := by rw [hW]; exact hx.trans (Ext.alloc _ _)
  have bZ : Blk W (w.heap.size + 1) 91 #[.int .i64 0, .int .i64 0, .int .i64 0, .int .i64 0, .int .i64 0, .bool false] := by rw [hW]; exact (Blk.new _ _ _ _ (by simp)).alloc _
  have bR : Blk W (w.heap.size + 2) 77 #[.int .i64 rw_, .int .i64 rm, .int .i64 rn] := by rw [hW]; exact Blk.new _ _ _ _ (by simp)
  go_enter Try.func68, Try.ntmps68
  go_wp2_with fail
  rw [← hW]
  clear hW c0 c1 c2
  refine (isRule_c _ _ _ _).mono ?_
  rintro e w1 ⟨rfl, hx1⟩
  have hX := hXW.trans hx1
  have z0 := (bZ.ext hx1).cell
  have z1 := (bZ.ext hx1).frozen
  have r0 := (bR.ext hx1).cell 0
  have r1 := (bR.ext hx1).cell 1
  have r2 := (bR.ext hx1).cell 2
  simp only [List.getElem?_toArray, List.getElem?_cons_zero, List.getElem?_cons_succ] at r0 r1 r2
  have hw1 : w.heap.size ≤ w.heap.size + 1 := by omega
  by_cases hn : (⟨rw_, rm, rn⟩ : RuleD) = noR
  · have hi : isR ⟨rw_, rm, rn⟩ = false := by simp [isR, rEq, hn]
    have HE : Hid (foldMainD m q h v = noA) := by unfold Hid; rw [HD.out, if_pos hn]
    rw [hi]
    clear hn hi HD
    go_wp2
    refine bodyPost_ret (v := ActV noA) (by simp [results, Try.results68, go_sem, z0, ActV, noA]) rfl ?_
    exact ⟨by rw [HE.out], by repeat (first | with_reducible exact hX | refine Ext.setCell ?_ hw1 _)⟩
  have hi : isR ⟨rw_, rm, rn⟩ = true := by simp [isR, rEq, hn]
  rw [hi]
  cases b1 : (rm == 1) with
  | true =>
    cases b2 : (h == 0) with
    | true =>
      have HE : Hid (foldMainD m q h v = ⟨rw_, 1, ⟨1, rn, h⟩, false⟩) := by unfold Hid; rw [HD.out, if_neg hn]; simp [b1, b2]
      clear hn hi HD
      go_wp2
      refine bodyPost_ret (v := ActV ⟨rw_, 1, ⟨1, rn, h⟩, false⟩) (by simp [results, Try.results68, go_sem, z0, ActV]) rfl ?_
      exact ⟨by rw [HE.out], by repeat (first | with_reducible exact hX | refine Ext.setCell ?_ hw1 _)⟩
    | false =>
      have HE : Hid (foldMainD m q h v = ⟨rw_, -1, ⟨4, rn, 0⟩, false⟩) := by unfold Hid; rw [HD.out, if_neg hn]; simp [b1, b2]
      clear hn hi HD
      go_wp2
      refine bodyPost_ret (v := ActV ⟨rw_, -1, ⟨4, rn, 0⟩, false⟩) (by simp [results, Try.results68, go_sem, z0, ActV]) rfl ?_
      exact ⟨by rw [HE.out], by repeat (first | with_reducible exact hX | refine Ext.setCell ?_ hw1 _)⟩
  | false =>
    cases b2 : (h == 0) with
    | true =>
      have HE : Hid (foldMainD m q h v = ⟨rw_, -1, ⟨2, rn, 0⟩, false⟩) := by unfold Hid; rw [HD.out, if_neg hn]; simp [b1, b2]
      clear hn hi HD
      go_wp2
      refine bodyPost_ret (v := ActV ⟨rw_, -1, ⟨2, rn, 0⟩, false⟩) (by simp [results, Try.results68, go_sem, z0, ActV]) rfl ?_
      exact ⟨by rw [HE.out], by repeat (first | with_reducible exact hX | refine Ext.setCell ?_ hw1 _)⟩
    | false =>
      have HE : Hid (foldMainD m q h v = ⟨rw_, 1, ⟨1, rn, h⟩, false⟩) := by unfold Hid; rw [HD.out, if_neg hn]; simp [b1, b2]
      clear hn hi HD
      go_wp2
      refine bodyPost_ret (v := ActV ⟨rw_, 1, ⟨1, rn, h⟩, false⟩) (by simp [results, Try.results68, go_sem, z0, ActV]) rfl ?_
      exact ⟨by rw [HE.out], by repeat (first | with_reducible exact hX | refine Ext.setCell ?_ hw1 _)⟩
end Go.Proofs.Ytejgobemlgogiaa
