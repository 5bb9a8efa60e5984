/- Contracts of the program's list of the places without a rule. The machine has at most 6000 rules.
Contracts of the lists of the partial configurations at which a machine halts, the program's and the reference's. The machine is valid.
Contract of the reference's list of the partial configurations at which a machine halts. The machine is valid. -/
import Derived.Test.YtkdigfgodjjiaaaGreatValid
import Derived.Test.YtkdigfgodjjiaaaGreatLaws
import Derived.Deep.RegionHeld3
import Derived.Deep.AppendLies
namespace Go.Proofs.YtkdigfgodjjiaaaGreat
open Go Go.RowKit Go.Proofs
set_option maxHeartbeats 400000
theorem intInfo : (Tryz.prog.info? 2).map (fun i => (i.zero, i.size, i.bytes)) = some (some (.int .i64 0), 1, 8) := by kernel_rfl
def freeTo (rs : List RuleD) (k : Nat) : List Int := (List.range k).filterMap fun (j : Nat) => if rs[j]? = some noR then some (Int.ofNat j) else none
theorem freeTo_yes {rs : List RuleD} {k : Nat} (hk : k < rs.length) (h : rs[k] = noR) : freeTo rs (k + 1) = freeTo rs k ++ [(k : Int)] := by
  simp [freeTo, List.range_succ, hk, h]
theorem freeTo_no {rs : List RuleD} {k : Nat} (hk : k < rs.length) (h : ¬ rs[k] = noR) : freeTo rs (k + 1) = freeTo rs k := by
  simp [freeTo, List.range_succ, hk, h]
theorem freeTo_length (rs : List RuleD) (k : Nat) : (freeTo rs k).length ≤ k := by
  unfold freeTo
  exact Nat.le_trans (List.length_filterMap_le _ _) (by simp)
theorem isR_mk (r : RuleD) : isR ⟨r.w, r.m, r.n⟩ = isR r := rfl
end Go.Proofs.YtkdigfgodjjiaaaGreat
namespace Go.Proofs.YtkdigfgodjjiaaaGreat
open Go Go.RowKit Go.Proofs
set_option maxHeartbeats 400000
/-- The states and symbols of indices. -/
def partsOf (sy : Int) (zs : List Int) : List (Int × Int) := zs.map fun z => (z / sy, z % sy)
theorem freeTo_get (rs : List RuleD) (k j : Nat) (h : j < (freeTo rs k).length) : 0 ≤ (freeTo rs k)[j] ∧ (freeTo rs k)[j] < k := by
  have hm := List.getElem_mem h
  generalize (freeTo rs k)[j] = z at *
  simp only [freeTo, List.mem_filterMap, List.mem_range] at hm
  obtain ⟨i, hi, e⟩ := hm
  split at e
  · injection e with e; subst e; simp; omega
  · cases e
theorem partsOf_take (sy : Int) (zs : List Int) (k : Nat) (h : k < zs.length) : partsOf sy (zs.take (k + 1)) = partsOf sy (zs.take k) ++ [(zs[k] / sy, zs[k] % sy)] := by
  unfold partsOf; rw [List.take_succ_eq_append_getElem h, List.map_append]; rfl
end Go.Proofs.YtkdigfgodjjiaaaGreat
namespace Go.Proofs.YtkdigfgodjjiaaaGreat
open Go Go.RowKit Go.Proofs
set_option maxHeartbeats 400000
theorem partsOf_yes {sy : Int} {rs : List RuleD} {k : Nat} (hk : k < rs.length) (h : rs[k] = noR) : partsOf sy (freeTo rs (k + 1)) = partsOf sy (freeTo rs k) ++ [((k : Int) / sy, (k : Int) % sy)] := by
  rw [freeTo_yes hk h]; simp [partsOf]
/-- A machine in a block of its own. -/
def MachBlk (w : World) (b : Nat) (m : MachD) (rv : Value) : Prop := Blk w b 26 #[.int .i64 m.sy, .int .i64 m.st, rv]
end Go.Proofs.YtkdigfgodjjiaaaGreat
