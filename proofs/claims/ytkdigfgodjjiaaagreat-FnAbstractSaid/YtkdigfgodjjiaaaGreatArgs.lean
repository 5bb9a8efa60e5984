/- The arguments of the laws of this seat, opened: a machine, numbers. No condition. -/
import Derived.Test.YtkdigfgodjjiaaaGreatLift
import Derived.Test.YtkdigfgodjjiaaaGreatLaws
namespace Go.Proofs.YtkdigfgodjjiaaaGreat
open Go Go.RowKit Go.ChangeShapes Go.WideShapes Go.Deep Go.Joins
section
variable {H : Type} {enc : TypeId × Value → H} {w : World}
theorem flat_of_rows {α : Type} {size : Nat} (c : α → List Value) (hc : ∀ a, (c a).length = size) : ∀ (ls : List α) (xs : List Value), xs.length = ls.length * size → (∀ i, (hi : i < ls.length) → (xs.drop (i * size)).take size = c ls[i]) → xs = ls.flatMap c
  | [], xs, h, _ => by simpa using h
  | a :: ls, xs, h, hh => by
    have h0 := hh 0 (by simp)
    simp only [Nat.zero_mul, List.drop_zero, List.getElem_cons_zero] at h0
    have ht := flat_of_rows c hc ls (xs.drop size) (by simp [h, Nat.succ_mul]) (fun i hi => by
      have := hh (i + 1) (by simpa using hi)
      simp only [List.getElem_cons_succ] at this
      rw [List.drop_drop, ← this]
      congr 2
      rw [Nat.succ_mul]; omega)
    rw [List.flatMap_cons, ← h0, ← ht, List.take_append_drop]
theorem open_ints {t : TypeId} {fuel : Nat} {v : Value} {x : DataW H × List MemPlace} (ht : Tryz.prog.underlying t = some (.slice 2)) (h : DataW.trod enc Tryz.prog w 0 (fun _ => true) true fuel t [v] = some x) : ∃ zs, Ints w v zs := by
  obtain ⟨ls, xs, h1, h2⟩ := open_rows (size := 1) (fun cs (a : Int) => cs = [.int .i64 a]) ht (by kernel_rfl) (by omega) (fun n cs y hy => by
    obtain ⟨k, e, _⟩ := open_i64 Tryz.underlying2 hy
    exact ⟨k, e⟩) h
  refine ⟨ls, ?_⟩
  have e : xs = ls.flatMap fun a => [.int .i64 a] := flat_of_rows (size := 1) (fun a => [.int .i64 a]) (fun _ => rfl) ls xs (by obtain ⟨_, _, _, _, _, q⟩ := h1.form; exact q) h2
  have e2 : xs = ivs ls := by rw [e]; unfold ivs; rw [List.map_eq_flatMap]
  unfold Ints
  rw [← e2]
  exact h1
theorem three_of {cs : List Value} {a b c : Value} (h : cs.length = 3) (h0 : (cs.drop 0).take 1 = [a]) (h1 : (cs.drop 1).take 1 = [b]) (h2 : (cs.drop 2).take 1 = [c]) : cs = [a, b, c] := by
  match cs, h with
  | [x, y, z], _ => simp_all
theorem cellsI64 : Tryz.prog.cellsOf 2 = 1 := by kernel_rfl
set_option maxRecDepth 100000 in
theorem open_num {r : Reach} {b0 : Nat} {v : Value} {d : DataW H} {p : List MemPlace} (hv : Value.okWide Tryz.prog w r b0 2 v) (h : DataW.Trod enc Tryz.prog w 0 (fun _ => true) true 2 v d p) : ∃ n : Int, v = .int .i64 n ∧ -9223372036854775808 ≤ n ∧ n ≤ 9223372036854775807 := by
  obtain ⟨n, e, _, _, hw⟩ := open_int Tryz.underlying2 hv h
  exact ⟨n, e, wf_i64 hw⟩
end
end Go.Proofs.YtkdigfgodjjiaaaGreat
