/- How the arguments of a law are opened: a slice whose elements all read, numbers, structs. No condition. -/
import Derived.Test.YtkdigfgodjjiaaaGreatBase
import Derived.Deep.Slices
import Derived.Lib.SmallJoins
namespace Go.Proofs.YtkdigfgodjjiaaaGreat
open Go Go.RowKit Go.ChangeShapes Go.WideShapes Go.Deep Go.Joins
section
variable {H : Type} {enc : TypeId × Value → H} {P : Program} {w : World} {spare : Nat → Bool} {held : Bool}
theorem addr_at {a : Addr} {n : Nat} {v : Value} (h : w.cell? (a.add n) = some v) (h0 : w.cell? (a.add 0) ≠ none) : w.cell? ⟨a.block, a.off + n, none⟩ = some v ∧ a = ⟨a.block, a.off, none⟩ := by
  obtain ⟨u, hu⟩ := Option.ne_none_iff_exists'.1 h0
  have hs : a.spot = none := by simpa [Addr.add] using World.cell?_spot hu
  obtain ⟨b, o, s⟩ := a
  simp only at hs
  subst hs
  refine ⟨?_, rfl⟩
  by_cases hn : n = 0
  · subst hn; simpa [Addr.add] using h
  · simpa [Addr.add, hn] using h
/-- A slice whose elements all read. -/
theorem open_rows {α : Type} {t e : TypeId} {fuel size : Nat} {v : Value} {x : DataW H × List MemPlace} (f : List Value → α → Prop) (ht : P.underlying t = some (.slice e)) (hC : P.cellsOf e = size) (hs : 0 < size)
    (hel : ∀ n cs y, DataW.trod enc P w 0 spare held n e cs = some y → ∃ a, f cs a) (h : DataW.trod enc P w 0 spare held fuel t [v] = some x) :
    ∃ (ls : List α) (xs : List Value), Row w size v ls.length xs ∧ ∀ i, (hi : i < ls.length) → f ((xs.drop (i * size)).take size) ls[i] := by
  rcases open_slice ht h with ⟨h0, _⟩ | ⟨a, len, cap, m, n, D, Pl, hcs, _, hl, hm, hmm, _, hx⟩
  · injection h0 with h0 _
    subst h0
    exact ⟨[], [], ⟨none, 0, rfl, Nat.le_refl _, by omega, by simp, fun h => by simp at h⟩, fun i hi => by simp at hi⟩
  · injection hcs with hv _
    subst hv
    rw [hC] at hx
    have hle : len ≤ m := by rw [hmm]; split <;> omega
    have key : ∀ k, k ≤ len → ∃ (ls : List α) (xs : List Value), ls.length = k ∧ xs.length = k * size ∧ (∀ j, j < xs.length → w.cell? (a.add j) = xs[j]?) ∧ ∀ i, (hi : i < ls.length) → f ((xs.drop (i * size)).take size) ls[i] := by
      intro k
      induction k with
      | zero => intro _; exact ⟨[], [], rfl, by simp, fun j hj => by simp at hj, fun i hi => by simp at hi⟩
      | succ k ih =>
        intro hk
        obtain ⟨ls, xs, h1, h2, h3, h4⟩ := ih (by omega)
        obtain ⟨cs', c1, c2⟩ := hx k (by omega)
        obtain ⟨_, d1, d2⟩ := World.cells?_some c1
        obtain ⟨b, hb⟩ := hel n cs' _ c2
        refine ⟨ls ++ [b], xs ++ cs', by simp [h1], by simp [h2, d1, Nat.succ_mul], fun j hj => ?_, fun i hi => ?_⟩
        · by_cases c : j < xs.length
          · rw [List.getElem?_append_left c]; exact h3 j c
          · rw [List.getElem?_append_right (by omega)]
            have := d2 (j - xs.length) (by simp at hj; omega)
            rw [add_add] at this
            rw [← this, h2]
            congr 2
            omega
        · by_cases c : i < ls.length
          · rw [List.getElem_append_left c, List.drop_append_of_le_length (by rw [h2]; exact Nat.mul_le_mul_right _ (by omega)), List.take_append_of_le_length (by
              have : i * size + size ≤ k * size := by rw [← Nat.succ_mul]; exact Nat.mul_le_mul_right _ (by omega)
              simp [h2]; omega)]
            exact h4 i c
          · have hie : i = ls.length := by simp at hi; omega
            subst hie
            have e1 : (xs ++ cs').drop (ls.length * size) = cs' := by rw [h1, ← h2, List.drop_left]
            have e2 : (ls ++ [b])[ls.length] = b := by simp
            rw [e1, e2, ← d1, List.take_length]
            exact hb
    obtain ⟨ls, xs, h1, h2, h3, h4⟩ := key len (Nat.le_refl _)
    refine ⟨ls, xs, ⟨some a, cap, by rw [h1], by omega, by simpa [maxLen] using hm, by rw [h2, h1], fun hn => ?_⟩, h4⟩
    have hpos : 0 < xs.length := by rw [h2]; exact Nat.mul_pos (by omega) hs
    have z := h3 0 hpos
    rw [List.getElem?_eq_getElem hpos] at z
    have hz : w.cell? (a.add 0) ≠ none := by rw [z]; simp
    refine ⟨a.block, a.off, by rw [← (addr_at z hz).2], fun j hj => ?_⟩
    have := h3 j hj
    rw [List.getElem?_eq_getElem hj] at this ⊢
    exact (addr_at this hz).1
theorem wf_i64 {n : Int} (hw : (Lit.int .i64 n).wf = true) : -9223372036854775808 ≤ n ∧ n ≤ 9223372036854775807 := by
  simpa [Lit.wf, IntKind.min, IntKind.max, IntKind.signed, IntKind.bits] using hw
theorem open_i64 {t : TypeId} {fuel : Nat} {cs : List Value} {x : DataW H × List MemPlace} (ht : P.underlying t = some (.int .i64)) (h : DataW.trod enc P w 0 spare held fuel t cs = some x) :
    ∃ n : Int, cs = [.int .i64 n] ∧ -9223372036854775808 ≤ n ∧ n ≤ 9223372036854775807 := by
  obtain ⟨k, e1, _, hw⟩ := DataW.trod_int ht h
  exact ⟨k, e1, wf_i64 hw⟩
end
end Go.Proofs.YtkdigfgodjjiaaaGreat
