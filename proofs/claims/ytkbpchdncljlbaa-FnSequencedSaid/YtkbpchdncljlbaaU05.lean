/- Contracts of the tests whether rules and machines are valid, the program's and the reference's. No condition but that a rule is looked at for valid numbers of symbols and states.
Contracts of the reference's test whether a machine is valid. No condition.
Contracts of the program's test whether a machine is valid. No condition.
Contracts of the program's test whether a machine is valid, continued. No condition.
Contracts of the program's list of the places without a rule. The machine has at most 6000 rules.
Contracts of the lists of the partial configurations at which a machine halts, the program's and the reference's. The machine is valid.
Contract of the reference's list of the partial configurations at which a machine halts. The machine is valid. -/
import Derived.Test.YtkbpchdncljlbaaU03
import Derived.Deep.RegionHeld3
import Derived.Deep.AppendLies
section
namespace Go.Proofs.Ytkbpchdncljlbaa
open Go Go.RowKit Go.Proofs
set_option maxHeartbeats 400000
def ruleOk (sy st : Int) (r : RuleD) : Bool := decide (r = noR) || (inB r.w 0 (sy - 1) && ((r.m == 1) || (r.m == -1)) && inB r.n 0 (st - 1))
theorem ruleWays (sy st a b c : Int) (h : ¬ (⟨a, b, c⟩ : RuleD) = noR) : (inB a 0 (sy - 1) = false ∧ ruleOk sy st ⟨a, b, c⟩ = false) ∨
    (inB a 0 (sy - 1) = true ∧ (b == 1) = true ∧ (b == -1) = false ∧ inB c 0 (st - 1) = false ∧ ruleOk sy st ⟨a, b, c⟩ = false) ∨ (inB a 0 (sy - 1) = true ∧ (b == 1) = true ∧ (b == -1) = false ∧ inB c 0 (st - 1) = true ∧ ruleOk sy st ⟨a, b, c⟩ = true) ∨
    (inB a 0 (sy - 1) = true ∧ (b == 1) = false ∧ (b == -1) = true ∧ inB c 0 (st - 1) = false ∧ ruleOk sy st ⟨a, b, c⟩ = false) ∨ (inB a 0 (sy - 1) = true ∧ (b == 1) = false ∧ (b == -1) = true ∧ inB c 0 (st - 1) = true ∧ ruleOk sy st ⟨a, b, c⟩ = true) ∨
    (inB a 0 (sy - 1) = true ∧ (b == 1) = false ∧ (b == -1) = false ∧ ruleOk sy st ⟨a, b, c⟩ = false) := by
  unfold ruleOk
  have h' : decide ((⟨a, b, c⟩ : RuleD) = noR) = false := by simpa using h
  rw [h']
  by_cases e1 : b = 1
  · subst e1
    cases inB a 0 (sy - 1) <;> cases inB c 0 (st - 1) <;> simp
  · by_cases e2 : b = -1
    · subst e2
      cases inB a 0 (sy - 1) <;> cases inB c 0 (st - 1) <;> simp
    · have e1' : (b == 1) = false := by simp [e1]
      have e2' : (b == -1) = false := by simp [e2]
      cases inB a 0 (sy - 1) <;> cases inB c 0 (st - 1) <;> simp [e1', e2']
end Go.Proofs.Ytkbpchdncljlbaa
namespace Go.Proofs.Ytkbpchdncljlbaa
open Go Go.RowKit Go.Proofs
set_option maxHeartbeats 400000
def machOk (m : MachD) : Bool := inB m.sy 2 6 && inB m.st 1 1000 && decide ((m.rules.length : Int) = m.sy * m.st) && m.rules.all (ruleOk m.sy m.st)
/-- A machine behind a pointer to its block's head. -/
def MachAt (w : World) (b : Nat) (m : MachD) : Prop := ∃ rv, w.cell? ⟨b, 0, none⟩ = some (.int .i64 m.sy) ∧ w.cell? ⟨b, 1, none⟩ = some (.int .i64 m.st) ∧ w.cell? ⟨b, 2, none⟩ = some rv ∧ Rules w rv m.rules
theorem MachAt.ext {w w' : World} {b : Nat} {m : MachD} (h : MachAt w b m) (he : Ext w w') : MachAt w' b m := by
  obtain ⟨rv, h0, h1, h2, hr⟩ := h
  exact ⟨rv, he.cell h0, he.cell h1, he.cell h2, hr.ext he⟩
theorem mul_bounds {a b : Int} (h1 : 2 ≤ a) (h2 : a ≤ 6) (h3 : 1 ≤ b) (h4 : b ≤ 1000) : 0 ≤ a * b ∧ a * b ≤ 6000 := by
  have e1 : 0 ≤ a * b := Int.mul_nonneg (by omega) (by omega)
  have e2 : a * b ≤ 6 * 1000 := Int.mul_le_mul h2 h4 (by omega) (by omega)
  omega
/-- The first k rules are valid. -/
def okTo (m : MachD) (k : Nat) : Prop := (m.rules.take k).all (ruleOk m.sy m.st) = true
theorem okTo_step {m : MachD} {k : Nat} (h : okTo m k) (hk : k < m.rules.length) (he : ruleOk m.sy m.st m.rules[k] = true) : okTo m (k + 1) := by
  unfold okTo at *
  rw [List.take_succ_eq_append_getElem hk, List.all_append, h]; simp [he]
theorem okTo_end {m : MachD} {k : Nat} (h : okTo m k) (hk : m.rules.length ≤ k) : m.rules.all (ruleOk m.sy m.st) = true := by
  unfold okTo at h
  rwa [List.take_of_length_le hk] at h
theorem all_false {m : MachD} {k : Nat} (hk : k < m.rules.length) (he : ruleOk m.sy m.st m.rules[k] = false) : m.rules.all (ruleOk m.sy m.st) = false := by
  rw [List.all_eq_false]
  exact ⟨m.rules[k], List.getElem_mem hk, by simp [he]⟩
end Go.Proofs.Ytkbpchdncljlbaa
namespace Go.Proofs.Ytkbpchdncljlbaa
open Go Go.RowKit Go.Proofs
set_option maxHeartbeats 400000
end Go.Proofs.Ytkbpchdncljlbaa
namespace Go.Proofs.Ytkbpchdncljlbaa
open Go Go.RowKit Go.Proofs
set_option maxHeartbeats 400000
theorem sizeInt_c (v : Value) (zs : List Int) (w : World) (h : Ints w v zs) : Calls Try.prog 69 #[v] w fun e w' => e = .returned (.int .i64 zs.length) ∧ w = w' := by
  obtain ⟨A, c, rfl, h1, h2⟩ := h.form
  go_enter Try.func69, Try.ntmps69
  go_wp2
  go_ret
  exact ⟨rfl, rfl⟩
end Go.Proofs.Ytkbpchdncljlbaa
end
section
namespace Go.Proofs.Ytkbpchdncljlbaa
open Go Go.RowKit Go.Proofs
set_option maxHeartbeats 400000
theorem intInfo : (Try.prog.info? 2).map (fun i => (i.zero, i.size, i.bytes)) = some (some (.int .i64 0), 1, 8) := by kernel_rfl
def freeTo (rs : List RuleD) (k : Nat) : List Int := (List.range k).filterMap fun (j : Nat) => if rs[j]? = some noR then some (Int.ofNat j) else none
theorem freeTo_yes {rs : List RuleD} {k : Nat} (hk : k < rs.length) (h : rs[k] = noR) : freeTo rs (k + 1) = freeTo rs k ++ [(k : Int)] := by
  simp [freeTo, List.range_succ, hk, h]
theorem freeTo_no {rs : List RuleD} {k : Nat} (hk : k < rs.length) (h : ¬ rs[k] = noR) : freeTo rs (k + 1) = freeTo rs k := by
  simp [freeTo, List.range_succ, hk, h]
theorem freeTo_length (rs : List RuleD) (k : Nat) : (freeTo rs k).length ≤ k := by
  unfold freeTo
  exact Nat.le_trans (List.length_filterMap_le _ _) (by simp)
theorem isR_mk (r : RuleD) : isR ⟨r.w, r.m, r.n⟩ = isR r := rfl
end Go.Proofs.Ytkbpchdncljlbaa
namespace Go.Proofs.Ytkbpchdncljlbaa
open Go Go.RowKit Go.Proofs
set_option maxHeartbeats 400000
/-- The states and symbols of indices. -/
def partsOf (sy : Int) (zs : List Int) : List (Int × Int) := zs.map fun z => (z / sy, z % sy)
theorem freeTo_get (rs : List RuleD) (k j : Nat) (h : j < (freeTo rs k).length) : 0 ≤ (freeTo rs k)[j] ∧ (freeTo rs k)[j] < k := by
  have hm := List.getElem_mem h
  generalize (freeTo rs k)[j] = z at *
  simp only [freeTo, List.mem_filterMap, List.mem_range] at hm
  obtain ⟨i, hi, e⟩ := hm
  split at e
  · injection e with e; subst e; simp; omega
  · cases e
theorem partsOf_take (sy : Int) (zs : List Int) (k : Nat) (h : k < zs.length) : partsOf sy (zs.take (k + 1)) = partsOf sy (zs.take k) ++ [(zs[k] / sy, zs[k] % sy)] := by
  unfold partsOf; rw [List.take_succ_eq_append_getElem h, List.map_append]; rfl
end Go.Proofs.Ytkbpchdncljlbaa
namespace Go.Proofs.Ytkbpchdncljlbaa
open Go Go.RowKit Go.Proofs
set_option maxHeartbeats 400000
theorem partsOf_yes {sy : Int} {rs : List RuleD} {k : Nat} (hk : k < rs.length) (h : rs[k] = noR) : partsOf sy (freeTo rs (k + 1)) = partsOf sy (freeTo rs k) ++ [((k : Int) / sy, (k : Int) % sy)] := by
  rw [freeTo_yes hk h]; simp [partsOf]
end Go.Proofs.Ytkbpchdncljlbaa
end
