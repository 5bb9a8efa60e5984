/- Contracts of the program's sorted list and of its test whether a list is an order of the numbers below n. -/
import Derived.Test.YtheokhgppmmjlaaRenA
import Derived.Test.YtheokhgppmmjlaaValid
import Derived.Sort.OwnSortedInts
set_option linter.unusedSimpArgs false
set_option linter.unusedVariables false
namespace Go.Proofs.Ytheokhgppmmjlaa
open Go Go.RowKit Go.Proofs
set_option maxHeartbeats 400000
/-- A list, sorted. -/
def sortL (zs : List Int) : List Int := zs.mergeSort fun x y => decide (x ≤ y)
theorem sortL_len (zs : List Int) : (sortL zs).length = zs.length := List.length_mergeSort zs
theorem SortList_c (v : Value) (zs : List Int) (w : World) (h : Ints w v zs) (h0 : 0 < zs.length) (h1 : zs.length ≤ 1048576) :
    Calls Try.prog 42 #[v] w fun e w' => ∃ u, e = .returned u ∧ OwnInts w.heap.size w' u (sortL zs) ∧ Ext w w' := by
  obtain ⟨A, c, rfl, _, _⟩ := id h.form
  have hf : Flat (.slice A zs.length c) := by
    obtain ⟨b, off, rfl, _⟩ := h.at h0
    exact .inr ⟨b, off, _, c, rfl⟩
  go_enter Try.func42, Try.ntmps42
  go_wp2_with fail
  refine (CloneF_c _ zs w h hf h1).mono ?_
  rintro e w1 ⟨u, rfl, ho, hne, hx⟩
  rcases ho.2 with ⟨rfl, _⟩ | ⟨g, cap, cur, rfl, hg, hb, hn, hm, hs, ht⟩
  · have := hne rfl
    subst this
    simp at h0
  have hH : Sort.Holds (Value.int .i64) w1 g 0 zs.toArray := holds_of_blockI hb (by simpa [ivs] using ht)
  have hlt : g < w1.heap.size := (Array.getElem?_eq_some_iff.1 hb).1
  go_wp2_with fail
  refine (Try.slices_Sort_int g 0 cap zs w1 hH hlt (by omega)).mono ?_
  rintro e w2 ⟨rfl, n, os, rfl⟩
  have hown := ownsRow_sortedI (n := n) (os := os) (ss := zs) (ts := sortL zs) (sortL_len zs) hg hb hn hm hs
  have hxx : Ext w (Sort.grow (Sort.putRow (Value.int .i64) (Sort.ahead w1 n) g 0 (sortL zs).toArray) os) := hx.grown (grownBy_sortedI (g := g) _) (fun k hk => by injection hk with hk; omega)
  unfold sortL at hown hxx
  generalize Sort.grow (Sort.putRow (Value.int .i64) (Sort.ahead w1 n) g 0 (zs.mergeSort fun x y => decide (x ≤ y)).toArray) os = W at *
  go_wp2
  go_ret
  refine ⟨_, rfl, ?_, hxx⟩
  unfold OwnInts
  rw [sortL_len]
  exact hown
/-- Is a list an order of the numbers below n. -/
def isOrd (order : List Int) (n : Int) : Bool := decide ((order.length : Int) = n) && decide (sortL order = upL order.length)
theorem upL_get (n k : Nat) (h : k < n) : (upL n)[k]'(by rw [upL_len]; exact h) = (k : Int) := by simp [upL]
theorem isOrder_c (v : Value) (zs : List Int) (n : Int) (w : World) (h : Ints w v zs) (h0 : 0 < zs.length) (h1 : zs.length ≤ 1048576) :
    Calls Try.prog 21 #[v, .int .i64 n] w fun e w' => e = .returned (.bool (isOrd zs n)) ∧ Ext w w' := by
  obtain ⟨A, c, rfl, hc1, hc2⟩ := id h.form
  by_cases hn : (zs.length : Int) = n
  · have hd : ((zs.length : Int) != n) = false := by simp [hn]
    have HN := Lib.hid hn
    clear hn
    go_enter Try.func21, Try.ntmps21
    go_wp2_with fail
    refine (sizeInt_c _ _ _ h).mono ?_
    rintro e w1 ⟨rfl, rfl⟩
    go_wp2_with fail
    refine (SortList_c _ _ _ h h0 h1).mono ?_
    rintro e w2 ⟨u, rfl, ho, hx⟩
    have HS : Hid (isOrd zs n = decide (sortL zs = upL zs.length)) := by unfold Hid isOrd; rw [decide_eq_true HN.out]; rfl
    have hsl := sortL_len zs
    have hi := ho.ints
    generalize sortL zs = ss at *
    obtain ⟨B, d, rfl, hB1, hB2⟩ := id hi.form
    go_wp2
    go_loop [14] (fun i => ∃ k : Nat, k ≤ ss.length ∧ i = .int .i64 k ∧ takeEq ss (upL zs.length) k) (fun i => ss.length - (intOf i).toNat)
    case atStart => exact ⟨0, Nat.zero_le _, rfl, rfl⟩
    case round =>
      obtain ⟨k, hk, rfl, ht⟩ := hrel
      by_cases hlt : k < ss.length
      · obtain ⟨b, off, rfl, hc⟩ := hi.at hlt
        have c0 := hc k hlt
        clear hc
        have hkz : k < zs.length := by omega
        have hg := upL_get zs.length k hkz
        by_cases he : ss[k] = (k : Int)
        · have H : (ss[k] != (k : Int)) = false := by simp [he]
          have HE := Lib.hid he
          have HG := Lib.hid hg
          clear he hg
          go_wp2
          go_round
          case rel => exact ⟨k + 1, by omega, by go_num, takeEq_step ht hlt (by rw [upL_len]; omega) (by rw [HE.out, HG.out])⟩
          case measure => simp [intOf]; omega
        · have H : (ss[k] != (k : Int)) = true := by simp [he]
          have HE := Lib.hid he
          have HG := Lib.hid hg
          clear he hg
          go_wp2
          go_ret
          refine ⟨?_, hx⟩
          rw [HS.out]
          exact ret_bool (decide_eq_false (ne_of_get hlt (by rw [upL_len]; omega) (by rw [HG.out]; exact HE.out))).symm
      · go_wp2
        go_ret
        refine ⟨?_, hx⟩
        rw [HS.out]
        exact ret_bool (decide_eq_true (eq_of_takeEq ht (by omega) (by rw [upL_len]; omega))).symm
  · have hd : ((zs.length : Int) != n) = true := by simp [hn]
    have HN := Lib.hid hn
    clear hn
    go_enter Try.func21, Try.ntmps21
    go_wp2_with fail
    refine (sizeInt_c _ _ _ h).mono ?_
    rintro e w1 ⟨rfl, rfl⟩
    go_wp2
    go_ret
    exact ⟨by simp [isOrd, HN.out], Ext.refl _⟩
end Go.Proofs.Ytheokhgppmmjlaa
