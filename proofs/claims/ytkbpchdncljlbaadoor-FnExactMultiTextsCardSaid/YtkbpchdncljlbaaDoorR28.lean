/- Contract of the program's machine on one half of the tape. The machine is valid.
Contracts of the reference's moves of the machine on one half of the tape. The place and the symbol are the machine's.
Contracts of the reference's maker of the machine on one half of the tape. The machine is valid and has fewer than 6 symbols. -/
import Derived.Test.YtkbpchdncljlbaaDoorR27
import Derived.Deep.RegionHeld3
import Derived.Deep.RegionLaw
import Derived.StillTailTactics
import Derived.Test.YtkbpchdncljlbaaDoorR04
import Derived.Deep.AppendLies
section
set_option linter.unusedSimpArgs false
set_option linter.unusedVariables false
namespace Go.Proofs.YtkbpchdncljlbaaDoor
open Go Go.RowKit Go.Proofs Go.Maps
set_option maxHeartbeats 400000
theorem actF_ok {m : MachD} (hm : machOk m = true) {p : FP} {v : Int} (hp : POk m.st p) (v0 : 0 ≤ v) (v1 : v ≤ m.sy) (hn : (actF m p v).no = false) : POk m.st (actF m p v).p := by
  obtain ⟨s1, s2, s3, s4, hl⟩ := machOk_all hm
  obtain ⟨k, q, h⟩ := p
  obtain ⟨k0, k5, q0, q1, h01, hk⟩ := hp
  simp only at k0 k5 q0 q1 h01 hk
  have main : ∀ h', (h' = 0 ∨ h' = 1) → v ≠ m.sy → (foldMainD m q h' v).no = false → POk m.st (foldMainD m q h' v).p := by
    intro h' hh hne hno
    obtain ⟨j, hj1, hj2⟩ := ruleIx s1 s2 hl q0 q1 v0 (by omega : v < m.sy)
    have e0 : m.rules.getD (q * m.sy + v).toNat noR = m.rules[j] := by
      rw [hj1, List.getD_eq_getElem?_getD, Int.toNat_natCast, List.getElem?_eq_getElem hj2]; rfl
    have hr : ruleOk m.sy m.st m.rules[j] = true := by
      have : m.rules.all (ruleOk m.sy m.st) = true := by simp only [machOk, Bool.and_eq_true] at hm; exact hm.2
      exact List.all_eq_true.1 this _ (List.getElem_mem hj2)
    unfold foldMainD at hno ⊢
    rw [e0] at hno ⊢
    generalize m.rules[j] = r at *
    by_cases hn : r = noR
    · rw [if_pos hn] at hno; simp [noA] at hno
    · rw [if_neg hn] at hno ⊢
      have hrn : 0 ≤ r.n ∧ r.n ≤ m.st - 1 := by
        simp only [ruleOk, decide_eq_false hn, Bool.false_or, Bool.and_eq_true] at hr
        exact inB_iff.1 hr.2
      split
      · exact ⟨by simp, by simp, hrn.1, by simp; omega, hh, by simp⟩
      · split
        · exact ⟨by simp, by simp, hrn.1, by simp; omega, .inl rfl, fun _ => rfl⟩
        · exact ⟨by simp, by simp, hrn.1, by simp; omega, .inl rfl, fun _ => rfl⟩
  have hkk : k = 0 ∨ k = 1 ∨ k = 2 ∨ k = 3 ∨ k = 4 ∨ k = 5 := by omega
  by_cases hne : v = m.sy
  · rcases hkk with e | e | e | e | e | e <;> subst e <;> simp [actF, hne, noA, keepD] at hn ⊢
    all_goals exact ⟨by simp, by simp, q0, q1, by simp, by simp⟩
  · rcases hkk with e | e | e | e | e | e <;> subst e <;> simp [actF, hne, keepD] at hn ⊢
    · exact main h h01 hne hn
    · exact ⟨by simp, by simp, q0, q1, h01, by simp⟩
    · exact ⟨by simp, by simp, q0, q1, by simp, by simp⟩
    · exact ⟨by simp, by simp, q0, q1, by simp, by simp⟩
    · exact ⟨by simp, by simp, q0, q1, by simp, by simp⟩
    · exact main 1 (.inr rfl) hne hn
theorem POk.small {m : MachD} (hm : machOk m = true) {p : FP} (hp : POk m.st p) : small p.k ∧ small p.q ∧ small p.h := by
  obtain ⟨s1, s2, s3, s4, hl⟩ := machOk_all hm
  obtain ⟨k0, k5, q0, q1, h01, hk⟩ := hp
  unfold Go.Proofs.YtkbpchdncljlbaaDoor.small
  omega
end Go.Proofs.YtkbpchdncljlbaaDoor
end
section
set_option linter.unusedSimpArgs false
set_option linter.unusedVariables false
namespace Go.Proofs.YtkbpchdncljlbaaDoor
open Go Go.RowKit Go.Proofs
set_option maxHeartbeats 4000000
def encL (p : FP) : List Int := if p.k ≤ 1 then [p.k, p.q, p.h] else [p.k, p.q]
theorem encL_inj {st : Int} {x y : FP} (hx : POk st x) (hy : POk st y) (h : encL x = encL y) : x = y := by
  obtain ⟨k, q, h'⟩ := x
  obtain ⟨k2, q2, h2⟩ := y
  have a := hx.hk
  have b := hy.hk
  simp only [encL] at h a b
  split at h <;> split at h <;> simp at h
  · simp [h]
  · simp [h, a (by omega), b (by omega)]
/-- What a move comes to. -/
def MoveRes (w : World) (a : ActG FP) (e : Ending) (w' : World) : Prop :=
  ((a.no = true ∧ e = .returned (.agg #[.bool false, .int .i64 0, .int .i64 0, .slice none 0 0])) ∨
    (a.no = false ∧ ∃ A c, e = .returned (.agg #[.bool true, .int .i64 a.w, .int .i64 a.m, .slice A (encL a.p).length c]) ∧ OwnInts w.heap.size w' (.slice A (encL a.p).length c) (encL a.p))) ∧ Ext w w'
theorem own_of_blk {w : World} {g base : Nat} {zs : List Int} (h : Blk w g 2 (ivs zs).toArray) (hb : base ≤ g) (hn : zs.length ≤ 1000) : OwnInts base w (.slice (some ⟨g, 0, none⟩) zs.length zs.length) zs := by
  refine ⟨by simp, .inr ⟨g, zs.length, (ivs zs).toArray, rfl, hb, h, Nat.le_refl _, by unfold maxLen; omega, by simp, by simp only [Nat.mul_one]; exact List.take_of_length_le (by simp)⟩⟩
theorem move_done {w V w1 : World} {a m : Int} {g : Nat} {zs : List Int} (hv : Ext w V) (hx : Ext V w1) (hg : Blk V g 2 (ivs zs).toArray) (hlt : w.heap.size < g) (hn : zs.length ≤ 1000) (p : FP) (hp : encL p = zs) :
    MoveRes w ⟨a, m, p, false⟩ (.returned (.agg #[.bool true, .int .i64 a, .int .i64 m, .slice (some ⟨g, 0, none⟩) zs.length zs.length])) ((((w1.setCell ⟨w.heap.size, 0, none⟩ (.bool true)).setCell ⟨w.heap.size, 1, none⟩ (.int .i64 a)).setCell ⟨w.heap.size, 2, none⟩ (.int .i64 m)).setCell ⟨w.heap.size, 3, none⟩ (.slice (some ⟨g, 0, none⟩) zs.length zs.length)) := by
  subst hp
  have o1 := own_of_blk (base := w.heap.size) (hg.ext hx) (by omega) hn
  have hne : ∀ k, (Value.slice (some ⟨g, 0, none⟩) (encL p).length (encL p).length).ownBlock = some k → k ≠ w.heap.size := fun k hk => by simp [Value.ownBlock] at hk; omega
  exact ⟨.inr ⟨rfl, _, _, rfl, ownsRow_far (ownsRow_far (ownsRow_far (ownsRow_far o1 hne _) hne _) hne _) hne _⟩, (((Ext.setCell (Ext.trans hv hx) (Nat.le_refl _) _).setCell (Nat.le_refl _) _).setCell (Nat.le_refl _) _).setCell (Nat.le_refl _) _⟩
end Go.Proofs.YtkbpchdncljlbaaDoor
end
section
set_option linter.unusedSimpArgs false
set_option linter.unusedVariables false
namespace Go.Proofs.YtkbpchdncljlbaaDoor
open Go Go.RowKit Go.Proofs
set_option maxHeartbeats 4000000
section
variable {base : Nat} {w w' : World} {bk b : Nat} {sy st : Int} {rs : List RuleD} {ps : List FP} {rv pv v' : Value} {vs : List Value}
end
def findN (ps : List FP) (x : FP) : Int := if x ∈ ps then (ps.idxOf x : Nat) else -1
end Go.Proofs.YtkbpchdncljlbaaDoor
end
