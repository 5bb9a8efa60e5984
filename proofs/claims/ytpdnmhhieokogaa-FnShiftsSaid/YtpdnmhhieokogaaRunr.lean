/- Contracts of the program's runner of a machine: what it looks at. The machine is valid and the configuration is one of its. -/
import Derived.Test.YtpdnmhhieokogaaRevI
import Derived.Test.YtpdnmhhieokogaaRunq
import Derived.Test.YtpdnmhhieokogaaKept
import Derived.Maps.AppendAt
import Derived.Deep.RegionLaw
import Derived.Deep.RegionHeld3
set_option linter.unusedSimpArgs false
set_option linter.unusedVariables false
namespace Go.Proofs.Ytpdnmhhieokogaa
open Go Go.RowKit Go.Proofs
set_option maxHeartbeats 400000
theorem hdD_rev (xs : List Int) (h : xs.length ≠ 0) : xs.reverse[xs.reverse.length - 1]? = some (hdD xs) := by
  cases xs with
  | nil => simp at h
  | cons a l =>
    simp [hdD]
theorem nearest_c (v : Value) (xs : List Int) (w : World) (h : Ints w v xs.reverse) (hn : xs.length ≤ 1048576) :
    Calls Try.prog 71 #[v] w fun e w' => e = .returned (.int .i64 (hdD xs)) ∧ w = w' := by
  have hl : xs.reverse.length = xs.length := List.length_reverse
  have hr := hdD_rev xs
  generalize xs.reverse = ys at *
  obtain ⟨A, c, rfl, h2, h2'⟩ := h.form
  by_cases h0 : xs.length = 0
  · have hz : xs = [] := List.length_eq_zero_iff.1 h0
    have HE : Hid (hdD xs = 0) := by unfold Hid; rw [hz]; rfl
    have hy0 : ys.length = 0 := by omega
    have hy : ys = [] := List.length_eq_zero_iff.1 hy0
    subst hy
    go_enter Try.func71, Try.ntmps71
    go_wp2
    go_ret
    exact ⟨by rw [HE.out]; rfl, rfl⟩
  · have hlt : ys.length - 1 < ys.length := by omega
    obtain ⟨b, off, rfl, hc⟩ := h.at hlt
    have c0 := hc (ys.length - 1) hlt
    have HE : Hid (hdD xs = ys[ys.length - 1]) := by
      have := hr h0
      rw [List.getElem?_eq_getElem hlt] at this
      injection this with this
      exact this.symm
    generalize ys[ys.length - 1] = z at *
    have hb : ((ys.length : Int) == 0) = false := by rw [beq_eq_false_iff_ne]; omega
    have i1 : (0 : Int) ≤ (ys.length : Int) - 1 := by omega
    have i2 : ((ys.length : Int) - 1) < (ys.length : Int) := by omega
    have i3 : ((ys.length : Int) - 1).toNat = ys.length - 1 := by omega
    clear hc hr hl h
    go_enter Try.func71, Try.ntmps71
    go_wp2
    go_ret
    exact ⟨by rw [HE.out]; rfl, rfl⟩
theorem rev_drop1 (xs : List Int) : (xs.drop 1).reverse = xs.reverse.take (xs.length - 1) := by
  cases xs with
  | nil => rfl
  | cons a l => simp
theorem pop_c (base : Nat) (v : Value) (xs : List Int) (w : World) (h : OwnInts base w v xs.reverse) (hn : xs.length ≤ 1048576) :
    Calls Try.prog 69 #[v] w fun e w' => (∃ u, e = .returned u ∧ OwnInts base w u (xs.drop 1).reverse ∧ u.ownBlock = v.ownBlock) ∧ w = w' := by
  rw [rev_drop1]
  have hl : xs.reverse.length = xs.length := List.length_reverse
  generalize xs.reverse = ys at *
  obtain ⟨A, c, rfl, h2, h2'⟩ := h.ints.form
  by_cases h0 : xs.length = 0
  · have hy0 : ys.length = 0 := by omega
    have hy : ys = [] := List.length_eq_zero_iff.1 hy0
    subst hy
    have hE : Hid (([] : List Int).take (xs.length - 1) = []) := by unfold Hid; simp
    rw [hE.out]
    clear hl h0
    go_enter Try.func69, Try.ntmps69
    go_wp2
    go_ret
    exact ⟨⟨_, rfl, h, rfl⟩, rfl⟩
  · have hne : 0 < ys.length := by omega
    obtain ⟨g, rfl, _, _⟩ := own_at h hne
    rw [show xs.length - 1 = ys.length - 1 by omega]
    have ht := OwnInts.take h (ys.length - 1) (by omega) (by simp)
    have i1 : (0 : Int) ≤ (ys.length : Int) - 1 := by omega
    have i3 : ((ys.length : Int) - 1).toNat = ys.length - 1 := by omega
    have i4 : ys.length - 1 ≤ c := by omega
    have i5 : (ys.length : Int) - 1 ≤ (c : Int) := by omega
    have i6 : max (0 : Int) ((ys.length : Int) - 1) = (ys.length : Int) - 1 := by omega
    have i7 : (1 : Int) ≤ (ys.length : Int) := by omega
    have HT := Lib.hid ht
    clear hl h0 ht
    go_enter Try.func69, Try.ntmps69
    go_wp2
    go_ret
    exact ⟨⟨_, rfl, HT.out, rfl⟩, rfl⟩
theorem rev_push (s : Int) (xs : List Int) (h : ¬ (s = 0 ∧ xs = [])) : (pushL s xs).reverse = xs.reverse ++ [s] := by
  unfold pushL
  rw [if_neg h, List.reverse_cons]
/-- Only the block of a slice, and new ones, are touched. -/
structure Pushed (w w' : World) (v u : Value) : Prop where
  os : w'.os = w.os
  tape : w'.tape = w.tape
  output : w'.output = w.output
  size : w.heap.size ≤ w'.heap.size
  same : ∀ k, k < w.heap.size → v.ownBlock ≠ some k → w'.heap[k]? = w.heap[k]?
  new : ∀ g, u.ownBlock = some g → v.ownBlock = some g ∨ w.heap.size ≤ g
theorem push_c (base : Nat) (s : Int) (v : Value) (xs : List Int) (w : World) (h : OwnInts base w v xs.reverse) (hb : base ≤ w.heap.size) (hn : xs.length ≤ 1000000) :
    Calls Try.prog 70 #[v, .int .i64 s] w fun e w' => ∃ u, e = .returned u ∧ OwnInts base w' u (pushL s xs).reverse ∧ Pushed w w' v u := by
  have hl : xs.reverse.length = xs.length := List.length_reverse
  obtain ⟨i0, hi, hz0, hz1, hz2⟩ := info_parts intInfo
  by_cases h0 : s = 0 ∧ xs = []
  · obtain ⟨rfl, rfl⟩ := h0
    have e : pushL 0 [] = [] := rfl
    rw [e]
    obtain ⟨A, c, rfl, h2, h2'⟩ := h.ints.form
    go_enter Try.func70, Try.ntmps70
    go_wp2
    go_ret
    exact ⟨_, rfl, h, ⟨rfl, rfl, rfl, Nat.le_refl _, fun _ _ _ => rfl, fun g hg => .inl hg⟩⟩
  · have HP := Lib.hid (rev_push s xs h0)
    have htest : s = 0 → xs.reverse.length ≠ 0 := fun hs hx => h0 ⟨hs, List.length_eq_zero_iff.1 (by omega)⟩
    rw [HP.out]
    generalize xs.reverse = ys at *
    obtain ⟨A, c, rfl, h2, h2'⟩ := h.ints.form
    have ho : w.ownsRow base 2 1 (.slice A ys.length c) ys.length (ivs ys) := h
    have ho' := ho.alloc (.cells #[.int .i64 s] 2)
    have hyl : ys.length ≤ 1000000 := by omega
    have key : Calls Try.prog 70 #[.slice A ys.length c, .int .i64 s] w fun e w' => ∃ u, e = .returned u ∧ OwnInts base w' u (ys ++ [s]) ∧ Pushed w w' (.slice A ys.length c) u := by
      by_cases hs : s = 0
      · have hb0 : (s == 0) = true := by simp [hs]
        have hb1 : ((ys.length : Int) == 0) = false := by rw [beq_eq_false_iff_ne]; have := htest hs; omega
        clear hs htest h0 hl HP
        go_enter Try.func70, Try.ntmps70
        go_wp2_with (at_builtin; refine wpList_append_own_at _ rfl _ _ 28 rfl base 2 i0 (.int .i64 0) 1 8 Try.underlying28 hi hz0 hz1 hz2 rfl (by decide) _ _ _ rfl ho' ⟨w.heap.size, 0, none⟩ 1 1 [.int .i64 s] rfl rfl (cell_one_new _ _ _) ?c2 ?c3 ?c4 ?c5 ?_)
        case c2 => intro u hu; simp at hu; subst hu; rfl
        case c3 => unfold maxLen; omega
        case c4 => omega
        case c5 => simp; omega
        intro v' w4 hown4 hg4 _ hat4
        obtain ⟨A', c', rfl, _, _, _⟩ := (ownsRow_row hown4).form
        go_wp2
        go_ret
        have hpu : Pushed w w4 (.slice A ys.length c) (.slice A' (ys.length + 1) c') := ⟨hg4.os, hg4.tape, hg4.output, by have := hg4.size; simp at this; omega, fun k hk hne => (hg4.block k (by simp; omega) (fun e => hne e.symm)).trans (Below.heap_alloc _ _ _ hk), fun g hg => by rcases hat4 with e | e <;> rw [hg] at e <;> first | exact .inl e.symm | (injection e with e; exact .inr (by rw [e]; simp))⟩
        exact ⟨_, rfl, by simpa [OwnInts, ivs_append, ivs] using hown4, hpu⟩
      · have hb0 : (s == 0) = false := by simp [hs]
        clear hs htest h0 hl HP
        go_enter Try.func70, Try.ntmps70
        go_wp2_with (at_builtin; refine wpList_append_own_at _ rfl _ _ 28 rfl base 2 i0 (.int .i64 0) 1 8 Try.underlying28 hi hz0 hz1 hz2 rfl (by decide) _ _ _ rfl ho' ⟨w.heap.size, 0, none⟩ 1 1 [.int .i64 s] rfl rfl (cell_one_new _ _ _) ?c2 ?c3 ?c4 ?c5 ?_)
        case c2 => intro u hu; simp at hu; subst hu; rfl
        case c3 => unfold maxLen; omega
        case c4 => omega
        case c5 => simp; omega
        intro v' w4 hown4 hg4 _ hat4
        obtain ⟨A', c', rfl, _, _, _⟩ := (ownsRow_row hown4).form
        go_wp2
        go_ret
        have hpu : Pushed w w4 (.slice A ys.length c) (.slice A' (ys.length + 1) c') := ⟨hg4.os, hg4.tape, hg4.output, by have := hg4.size; simp at this; omega, fun k hk hne => (hg4.block k (by simp; omega) (fun e => hne e.symm)).trans (Below.heap_alloc _ _ _ hk), fun g hg => by rcases hat4 with e | e <;> rw [hg] at e <;> first | exact .inl e.symm | (injection e with e; exact .inr (by rw [e]; simp))⟩
        exact ⟨_, rfl, by simpa [OwnInts, ivs_append, ivs] using hown4, hpu⟩
    exact key
end Go.Proofs.Ytpdnmhhieokogaa
