/- Contract of the program's machine on one half of the tape. The machine is valid. -/
import Derived.Test.YtejgobemlgogiaaFold2
import Derived.Test.YtejgobemlgogiaaFold3
set_option linter.unusedSimpArgs false
set_option linter.unusedVariables false
namespace Go.Proofs.Ytejgobemlgogiaa
open Go Go.RowKit Go.Proofs Go.Maps
set_option maxHeartbeats 400000
set_option maxRecDepth 20000 in
theorem folded1_c (b : Nat) (rv : Value) (m : MachD) (p : FP) (v : Int) (w : World) (hb : Blk w b 35 #[.int .i64 m.sy, .int .i64 m.st, rv]) (hr : Rules w rv m.rules) (ha : FoldArgs m p v) :
    Calls Try.prog 48 #[p.v, .int .i64 v, .pointer (some ⟨b, 0, none⟩)] w fun e w' => e = .returned (ActV (actF m p v)) ∧ Ext w w' := by
  obtain ⟨A, c, rfl, h5, h5'⟩ := hr.form
  obtain ⟨W, hW⟩ : ∃ W, W = (w.alloc (.cells #[.int .i64 p.k, .int .i64 p.q, .int .i64 p.h] 89)).alloc (.cells #[.int .i64 0, .int .i64 0, .int .i64 0, .int .i64 0, .int .i64 0, .bool false] 91) := ⟨_, rfl⟩
  have hXW : Ext w W := by rw [hW]; exact (Ext.alloc _ _).trans (Ext.alloc _ _)
  have bZ : Blk W (w.heap.size + 1) 91 #[.int .i64 0, .int .i64 0, .int .i64 0, .int .i64 0, .int .i64 0, .bool false] := by rw [hW]; exact Blk.new _ _ _ _ (by simp)
  have bM := hb.ext hXW
  rw [hW] at bM
  have m0 := bM.cell 0
  have m1 := bM.cell 1
  have m2 := bM.cell 2
  simp only [List.getElem?_toArray, List.getElem?_cons_zero, List.getElem?_cons_succ] at m0 m1 m2
  have hw1 : w.heap.size ≤ w.heap.size + 1 := by omega
  have hMr : Mach W (.agg #[.int .i64 m.sy, .int .i64 m.st, .slice A m.rules.length c]) m := ⟨_, rfl, hr.ext hXW⟩
  simp only [FP.v]
  go_enter Try.func48, Try.ntmps48
  go_wp2_with fail
  rw [← hW]
  refine (foldAction_c _ m p v _ hMr ha).mono ?_
  rintro e w1 ⟨rfl, hx1⟩
  have z0 := (bZ.ext hx1).cell
  have z1 := (bZ.ext hx1).frozen
  have hX := hXW.trans hx1
  obtain ⟨a, hA⟩ : ∃ a, actF m p v = a := ⟨_, rfl⟩
  rw [hA]
  simp only [ActV]
  go_wp2
  refine bodyPost_ret (v := ActV a) (by simp [results, Try.results48, go_sem, z0, ActV]) rfl ?_
  exact ⟨by rw [hA], by repeat (first | with_reducible exact hX | refine Ext.setCell ?_ hw1 _)⟩
theorem actF_ok {m : MachD} (hm : machOk m = true) {p : FP} {v : Int} (hp : POk m.st p) (v0 : 0 ≤ v) (v1 : v ≤ m.sy) (hn : (actF m p v).no = false) : POk m.st (actF m p v).p := by
  obtain ⟨s1, s2, s3, s4, hl⟩ := machOk_all hm
  obtain ⟨k, q, h⟩ := p
  obtain ⟨k0, k5, q0, q1, h01, hk⟩ := hp
  simp only at k0 k5 q0 q1 h01 hk
  have main : ∀ h', (h' = 0 ∨ h' = 1) → v ≠ m.sy → (foldMainD m q h' v).no = false → POk m.st (foldMainD m q h' v).p := by
    intro h' hh hne hno
    obtain ⟨j, hj1, hj2⟩ := ruleIx s1 s2 hl q0 q1 v0 (by omega : v < m.sy)
    have e0 : m.rules.getD (q * m.sy + v).toNat noR = m.rules[j] := by
      rw [hj1, List.getD_eq_getElem?_getD, Int.toNat_natCast, List.getElem?_eq_getElem hj2]; rfl
    have hr : ruleOk m.sy m.st m.rules[j] = true := by
      have : m.rules.all (ruleOk m.sy m.st) = true := by simp only [machOk, Bool.and_eq_true] at hm; exact hm.2
      exact List.all_eq_true.1 this _ (List.getElem_mem hj2)
    unfold foldMainD at hno ⊢
    rw [e0] at hno ⊢
    generalize m.rules[j] = r at *
    by_cases hn : r = noR
    · rw [if_pos hn] at hno; simp [noA] at hno
    · rw [if_neg hn] at hno ⊢
      have hrn : 0 ≤ r.n ∧ r.n ≤ m.st - 1 := by
        simp only [ruleOk, decide_eq_false hn, Bool.false_or, Bool.and_eq_true] at hr
        exact inB_iff.1 hr.2
      split
      · exact ⟨by simp, by simp, hrn.1, by simp; omega, hh, by simp⟩
      · split
        · exact ⟨by simp, by simp, hrn.1, by simp; omega, .inl rfl, fun _ => rfl⟩
        · exact ⟨by simp, by simp, hrn.1, by simp; omega, .inl rfl, fun _ => rfl⟩
  have hkk : k = 0 ∨ k = 1 ∨ k = 2 ∨ k = 3 ∨ k = 4 ∨ k = 5 := by omega
  by_cases hne : v = m.sy
  · rcases hkk with e | e | e | e | e | e <;> subst e <;> simp [actF, hne, noA, keepD] at hn ⊢
    all_goals exact ⟨by simp, by simp, q0, q1, by simp, by simp⟩
  · rcases hkk with e | e | e | e | e | e <;> subst e <;> simp [actF, hne, keepD] at hn ⊢
    · exact main h h01 hne hn
    · exact ⟨by simp, by simp, q0, q1, h01, by simp⟩
    · exact ⟨by simp, by simp, q0, q1, by simp, by simp⟩
    · exact ⟨by simp, by simp, q0, q1, by simp, by simp⟩
    · exact ⟨by simp, by simp, q0, q1, by simp, by simp⟩
    · exact main 1 (.inr rfl) hne hn
theorem POk.small {m : MachD} (hm : machOk m = true) {p : FP} (hp : POk m.st p) : small p.k ∧ small p.q ∧ small p.h := by
  obtain ⟨s1, s2, s3, s4, hl⟩ := machOk_all hm
  obtain ⟨k0, k5, q0, q1, h01, hk⟩ := hp
  unfold Go.Proofs.Ytejgobemlgogiaa.small
  omega
end Go.Proofs.Ytejgobemlgogiaa
