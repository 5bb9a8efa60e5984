/- Contracts of the marks that the laws lay and look for. The marks stay below 2 to the power of 62. -/
import Derived.Test.YtdkdmcaehinkhaaDoorLaws4
namespace Go.Proofs.YtdkdmcaehinkhaaDoor
open Go Go.RowKit Go.Proofs
set_option maxHeartbeats 400000
/-- n numbers from k on. -/
def nums (k : Int) (n : Nat) : List Int := (List.range n).map fun i => k + (i : Nat)
@[simp] theorem nums_length (k : Int) (n : Nat) : (nums k n).length = n := by simp [nums]
theorem nums_get (k : Int) (n i : Nat) (h : i < n) : (nums k n)[i]'(by simpa using h) = k + i := by simp [nums]
/-- A slice of numbers in memory of the call's own. -/
def OwnInts (base : Nat) (w : World) (v : Value) (zs : List Int) : Prop := w.ownsRow base 2 1 v zs.length (ivs zs)
theorem OwnInts.ints {base : Nat} {w : World} {v : Value} {zs : List Int} (h : OwnInts base w v zs) : Ints w v zs := ownsRow_row h
theorem OwnInts.ext {base : Nat} {w w' : World} {v : Value} {zs : List Int} (h : OwnInts base w v zs) (he : Ext w w') : OwnInts base w' v zs := ownsRow_ext h he
/-- The first i cells hold the numbers from k on. -/
def marked (k : Int) (i : Nat) (xs : List Value) : Prop := xs.take i = ivs (nums k i)
theorem ivs_append (a b : List Int) : ivs (a ++ b) = ivs a ++ ivs b := by simp [ivs]
theorem nums_succ (k : Int) (i : Nat) : nums k (i + 1) = nums k i ++ [k + i] := by simp [nums, List.range_succ]
theorem marked_zero (k : Int) (xs : List Value) : marked k 0 xs := by simp [marked, nums, ivs]
theorem take_set_snoc {α : Type} (xs : List α) (i : Nat) (a : α) (h : i < xs.length) : (xs.set i a).take (i + 1) = xs.take i ++ [a] := by
  apply List.ext_getElem?
  intro j
  rw [List.getElem?_take]
  by_cases h1 : j < i
  · rw [if_pos (by omega), List.getElem?_append_left (by simp; omega), List.getElem?_take, if_pos h1, List.getElem?_set_ne (by omega)]
  · have hl : (xs.take i).length = i := by simp; omega
    rw [List.getElem?_append_right (by omega), hl]
    by_cases e : j = i
    · subst e; rw [if_pos (by omega), List.getElem?_set_self (by omega)]; simp
    · rw [if_neg (by omega), List.getElem?_eq_none (by simp; omega)]
theorem marked_step {k : Int} {i : Nat} {xs : List Value} (h : marked k i xs) (hi : i < xs.length) : marked k (i + 1) (xs.set i (.int .i64 (k + i))) := by
  unfold marked at *
  rw [take_set_snoc _ _ _ hi, h, nums_succ, ivs_append]; rfl
theorem marked_end {k : Int} {i : Nat} {xs : List Value} (h : marked k i xs) (hi : xs.length = i) : xs = ivs (nums k i) := by
  unfold marked at h
  rwa [List.take_of_length_le (by omega)] at h
theorem grownBy_trans {a b c : World} {row : Option Nat} (h : a.grownBy b row) (k : b.grownBy c row) : a.grownBy c row :=
  ⟨k.os.trans h.os, k.tape.trans h.tape, k.output.trans h.output, Nat.le_trans h.size k.size, fun i hi hne => (k.block i (Nat.lt_of_lt_of_le hi h.size) hne).trans (h.block i hi hne)⟩
theorem markInt64S_c (base : Nat) (v : Value) (zs : List Int) (k : Int) (w : World) (h : OwnInts base w v zs) (h0 : 0 ≤ k) (h1 : k + zs.length ≤ 4611686018427387904) :
    Calls Tryd.prog 37 #[v, .int .i64 k] w fun e w' => e = .returned (.int .i64 (k + zs.length)) ∧ OwnInts base w' v (nums k zs.length) ∧ w.grownBy w' v.ownBlock := by
  obtain ⟨A, c, rfl, h2, h2'⟩ := h.ints.form
  go_enter Tryd.func37, Tryd.ntmps37
  go_wp2
  go_loopw [1, 5] (fun q i wr => ∃ j : Nat, j ≤ zs.length ∧ i = .int .i64 j ∧ q = .int .i64 (k + j) ∧ w.grownBy wr (Value.slice A zs.length c).ownBlock ∧ ∃ xs, wr.ownsRow base 2 1 (.slice A zs.length c) zs.length xs ∧ marked k j xs) (fun _ i _ => zs.length - (intOf i).toNat)
  case atStart => exact ⟨0, Nat.zero_le _, rfl, by simp, World.grownBy.refl _ _, _, h, marked_zero _ _⟩
  case round =>
    obtain ⟨j, hj, rfl, rfl, hg, xs, ho, hm⟩ := hrel
    have hl := ho.1
    by_cases hlt : j < zs.length
    · obtain ⟨g, rfl, hb, hgl⟩ := own_at ho (by omega)
      have q0 := ho.cellAt j (by omega)
      have HL := Lib.hid hl
      have hl' : j < xs.length := by omega
      clear hl
      rw [List.getElem?_eq_getElem hl'] at q0
      have f0 := ho.frozenAt j
      go_wp2
      obtain ⟨s1, s2⟩ := ho.stored j (.int .i64 (k + j))
      go_roundw
      case rel => exact ⟨j + 1, by omega, by go_num, by simp; omega, grownBy_trans hg s2, _, s1, marked_step hm hl'⟩
      case measure => simp [intOf]; omega
    · have hje : j = zs.length := by omega
      subst hje
      go_wp2
      go_ret
      refine ⟨rfl, ?_, hg⟩
      have e := marked_end hm (by omega)
      subst e
      show wr.ownsRow base 2 1 _ (nums k zs.length).length _
      rw [nums_length]
      exact ho
theorem heldInt64S_c (v : Value) (zs : List Int) (k : Int) (w : World) (h : Ints w v zs) (h0 : 0 ≤ k) (h1 : k + zs.length ≤ 4611686018427387904) (hz : zs = nums k zs.length) :
    Calls Tryd.prog 38 #[v, .int .i64 k] w fun e w' => e = .returned (.int .i64 (k + zs.length)) ∧ w = w' := by
  obtain ⟨A, c, rfl, h2, h2'⟩ := h.form
  have HZ := Lib.hid hz
  clear hz
  go_enter Tryd.func38, Tryd.ntmps38
  go_wp2
  go_loop [1, 5] (fun q i => ∃ j : Nat, j ≤ zs.length ∧ i = .int .i64 j ∧ q = .int .i64 (k + j)) (fun _ i => zs.length - (intOf i).toNat)
  case atStart => exact ⟨0, Nat.zero_le _, rfl, by simp⟩
  case round =>
    obtain ⟨j, hj, rfl, rfl⟩ := hrel
    by_cases hlt : j < zs.length
    · obtain ⟨b, off, rfl, hc⟩ := h.at hlt
      have c0 := hc j hlt
      have e : zs[j] = k + j := by
        have e1 : (nums k zs.length)[j]? = some (k + j) := by rw [List.getElem?_eq_getElem (by simpa using hlt), nums_get _ _ _ hlt]
        rw [← HZ.out, List.getElem?_eq_getElem hlt] at e1
        exact Option.some.inj e1
      rw [e] at c0
      clear hc e
      go_wp2
      go_round
      case rel => exact ⟨j + 1, by omega, by go_num, by simp; omega⟩
      case measure => simp [intOf]; omega
    · have hje : j = zs.length := by omega
      subst hje
      go_wp2
      go_ret
      exact ⟨rfl, rfl⟩
end Go.Proofs.YtdkdmcaehinkhaaDoor
