/- The arguments of a law on bytes, opened. No condition.
Contracts of the laws' sizes and copies of lists of numbers. Lists are short. -/
import Derived.Test.YtacpchapgklcgaaGreatDoorQ03
import Derived.Test.YtacpchapgklcgaaGreatDoorQ08
import Derived.Test.YtacpchapgklcgaaGreatDoorQ04
section
namespace Go.Proofs.YtacpchapgklcgaaGreatDoor
open Go Go.RowKit Go.ChangeShapes Go.WideShapes Go.Deep Go.Joins
section
variable {H : Type} {enc : TypeId × Value → H} {w : World}
theorem open_bytes {fuel : Nat} {v : Value} {x : DataW H × List MemPlace} (h : DataW.trod enc Tryz.prog w 0 (fun _ => true) true fuel 22 [v] = some x) : ∃ bs, Bytes w v bs := by
  obtain ⟨ls, xs, h1, h2⟩ := open_rows (size := 1) (fun cs (a : Int) => cs = [.int .u8 a] ∧ 0 ≤ a ∧ a ≤ 255) Tryz.underlying22 (by kernel_rfl) (by omega) (fun n cs y hy => by
    obtain ⟨k, e, _, hw⟩ := DataW.trod_int Tryz.underlying5 hy
    exact ⟨k, e, by simpa [Lit.wf, IntKind.min, IntKind.max, IntKind.signed, IntKind.bits] using hw⟩) h
  have e : xs = ls.flatMap fun a => [.int .u8 a] := flat_of_rows (size := 1) (fun a => [.int .u8 a]) (fun _ => rfl) ls xs (by obtain ⟨_, _, _, _, _, q⟩ := h1.form; exact q) (fun i hi => (h2 i hi).1)
  have e2 : xs = bvs ls := by rw [e]; unfold bvs; rw [List.map_eq_flatMap]
  refine ⟨ls, by rw [← e2]; exact h1, fun z hz => ?_⟩
  obtain ⟨i, hi, rfl⟩ := List.getElem_of_mem hz
  exact (h2 i hi).2
set_option maxRecDepth 100000 in
theorem open_bytesT {r : Reach} {b0 : Nat} {v : Value} {d : DataW H} {p : List MemPlace} (hv : Value.okWide Tryz.prog w r b0 22 v) (h : DataW.Trod enc Tryz.prog w 0 (fun _ => true) true 22 v d p) : ∃ bs, Bytes w v bs := by
  obtain ⟨a, l, c, rfl⟩ := okWide_slice Tryz.underlying22 hv
  obtain ⟨n, h⟩ := h
  exact open_bytes h
end
end Go.Proofs.YtacpchapgklcgaaGreatDoor
end
section
namespace Go.Proofs.YtacpchapgklcgaaGreatDoor
open Go Go.RowKit Go.Proofs
set_option maxHeartbeats 400000
/-- What is left of a size. -/
def szF (left : Int) (n : Nat) : Int := if left < n then -1 else left - n
theorem szF_no {left : Int} {n : Nat} (h : left < n) : szF left n = -1 := if_pos h
theorem szF_yes {left : Int} {n : Nat} (h : ¬ left < n) : szF left n = left - n := if_neg h
theorem filled1_step {zs : List Int} {k : Nat} {xs : List Value} (h : xs.take k = ivs (zs.take k)) (hk : k < zs.length) (hx : xs.length = zs.length) : (xs.set k (.int .i64 zs[k])).take (k + 1) = ivs (zs.take (k + 1)) := by
  rw [take_set_snoc xs k _ (by omega), h, List.take_succ_eq_append_getElem hk, ivs_append]
  rfl
theorem filled1_end {zs : List Int} {k : Nat} {xs : List Value} (h : xs.take k = ivs (zs.take k)) (hk : zs.length ≤ k) (hx : xs.length = zs.length) : xs = ivs zs := by
  rwa [List.take_of_length_le (by omega), List.take_of_length_le hk] at h
def Filled1 (zs : List Int) (k : Nat) (xs : List Value) : Prop := xs.take k = ivs (zs.take k)
end Go.Proofs.YtacpchapgklcgaaGreatDoor
end
