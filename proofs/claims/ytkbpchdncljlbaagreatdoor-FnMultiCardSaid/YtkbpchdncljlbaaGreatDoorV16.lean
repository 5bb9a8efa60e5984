/- Contracts of the program's actions of the machine on one half of the tape, continued. The place and the symbol are the machine's.
Contract of the program's numbers of places, of the machine on one half of the tape. Fewer than 100000 places have a number.
Contract of the program's machine on one half of the tape. The machine is valid. -/
import Derived.Test.YtkbpchdncljlbaaGreatDoorV15
import Derived.Test.YtkbpchdncljlbaaGreatDoorV14
import Derived.StillTailTactics
import Derived.Deep.RegionLaw
import Derived.Deep.AppendLies
import Derived.Maps.AppendAt
section
set_option linter.unusedSimpArgs false
set_option linter.unusedVariables false
namespace Go.Proofs.YtkbpchdncljlbaaGreatDoor
open Go Go.RowKit Go.Proofs
set_option maxHeartbeats 4000000
structure FoldArgs (m : MachD) (p : FP) (v : Int) : Prop where
  ok : machOk m = true
  p : POk m.st p
  v0 : 0 ≤ v
  v1 : v ≤ m.sy
end Go.Proofs.YtkbpchdncljlbaaGreatDoor
end
section
namespace Go.Proofs.YtkbpchdncljlbaaGreatDoor
open Go Go.RowKit Go.Proofs Go.Maps
set_option maxHeartbeats 400000
theorem laidOutF : laidOutB Tryz.prog = true := by kernel_rfl
def small (z : Int) : Prop := -1000000 ≤ z ∧ z ≤ 1000000
theorem small_wf {z : Int} (h : small z) : (Lit.int .i64 z).wf = true := by
  obtain ⟨_, _⟩ := h
  simp [Lit.wf, IntKind.min, IntKind.max, IntKind.signed, IntKind.bits]
  omega
def fvs (ps : List FP) : List Value := ps.flatMap fun p => [.int .i64 p.k, .int .i64 p.q, .int .i64 p.h]
theorem fvs_snoc (ps : List FP) (x : FP) : fvs (ps ++ [x]) = fvs ps ++ [.int .i64 x.k, .int .i64 x.q, .int .i64 x.h] := by simp [fvs]
theorem fvs_length (ps : List FP) : (fvs ps).length = ps.length * 3 := by
  induction ps with
  | nil => rfl
  | cons a l ih => simp [fvs] at ih ⊢; omega
end Go.Proofs.YtkbpchdncljlbaaGreatDoor
end
section
set_option linter.unusedSimpArgs false
set_option linter.unusedVariables false
namespace Go.Proofs.YtkbpchdncljlbaaGreatDoor
open Go Go.RowKit Go.Proofs Go.Maps
set_option maxHeartbeats 400000
theorem actF_ok {m : MachD} (hm : machOk m = true) {p : FP} {v : Int} (hp : POk m.st p) (v0 : 0 ≤ v) (v1 : v ≤ m.sy) (hn : (actF m p v).no = false) : POk m.st (actF m p v).p := by
  obtain ⟨s1, s2, s3, s4, hl⟩ := machOk_all hm
  obtain ⟨k, q, h⟩ := p
  obtain ⟨k0, k5, q0, q1, h01, hk⟩ := hp
  simp only at k0 k5 q0 q1 h01 hk
  have main : ∀ h', (h' = 0 ∨ h' = 1) → v ≠ m.sy → (foldMainD m q h' v).no = false → POk m.st (foldMainD m q h' v).p := by
    intro h' hh hne hno
    obtain ⟨j, hj1, hj2⟩ := ruleIx s1 s2 hl q0 q1 v0 (by omega : v < m.sy)
    have e0 : m.rules.getD (q * m.sy + v).toNat noR = m.rules[j] := by
      rw [hj1, List.getD_eq_getElem?_getD, Int.toNat_natCast, List.getElem?_eq_getElem hj2]; rfl
    have hr : ruleOk m.sy m.st m.rules[j] = true := by
      have : m.rules.all (ruleOk m.sy m.st) = true := by simp only [machOk, Bool.and_eq_true] at hm; exact hm.2
      exact List.all_eq_true.1 this _ (List.getElem_mem hj2)
    unfold foldMainD at hno ⊢
    rw [e0] at hno ⊢
    generalize m.rules[j] = r at *
    by_cases hn : r = noR
    · rw [if_pos hn] at hno; simp [noA] at hno
    · rw [if_neg hn] at hno ⊢
      have hrn : 0 ≤ r.n ∧ r.n ≤ m.st - 1 := by
        simp only [ruleOk, decide_eq_false hn, Bool.false_or, Bool.and_eq_true] at hr
        exact inB_iff.1 hr.2
      split
      · exact ⟨by simp, by simp, hrn.1, by simp; omega, hh, by simp⟩
      · split
        · exact ⟨by simp, by simp, hrn.1, by simp; omega, .inl rfl, fun _ => rfl⟩
        · exact ⟨by simp, by simp, hrn.1, by simp; omega, .inl rfl, fun _ => rfl⟩
  have hkk : k = 0 ∨ k = 1 ∨ k = 2 ∨ k = 3 ∨ k = 4 ∨ k = 5 := by omega
  by_cases hne : v = m.sy
  · rcases hkk with e | e | e | e | e | e <;> subst e <;> simp [actF, hne, noA, keepD] at hn ⊢
    all_goals exact ⟨by simp, by simp, q0, q1, by simp, by simp⟩
  · rcases hkk with e | e | e | e | e | e <;> subst e <;> simp [actF, hne, keepD] at hn ⊢
    · exact main h h01 hne hn
    · exact ⟨by simp, by simp, q0, q1, h01, by simp⟩
    · exact ⟨by simp, by simp, q0, q1, by simp, by simp⟩
    · exact ⟨by simp, by simp, q0, q1, by simp, by simp⟩
    · exact ⟨by simp, by simp, q0, q1, by simp, by simp⟩
    · exact main 1 (.inr rfl) hne hn
theorem POk.small {m : MachD} (hm : machOk m = true) {p : FP} (hp : POk m.st p) : small p.k ∧ small p.q ∧ small p.h := by
  obtain ⟨s1, s2, s3, s4, hl⟩ := machOk_all hm
  obtain ⟨k0, k5, q0, q1, h01, hk⟩ := hp
  unfold Go.Proofs.YtkbpchdncljlbaaGreatDoor.small
  omega
end Go.Proofs.YtkbpchdncljlbaaGreatDoor
end
