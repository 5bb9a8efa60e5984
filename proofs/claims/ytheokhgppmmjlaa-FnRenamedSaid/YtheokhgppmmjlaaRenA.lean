/- Contracts of the laws' and the reference's small functions on lists that number anew: r8Same, r8Moved, l05First, SortList, isOrder. -/
import Derived.Test.YtheokhgppmmjlaaRevI
import Derived.Test.YtheokhgppmmjlaaSrc
import Derived.Maps.AppendAt
set_option linter.unusedSimpArgs false
set_option linter.unusedVariables false
namespace Go.Proofs.Ytheokhgppmmjlaa
open Go Go.RowKit Go.Proofs
set_option maxHeartbeats 400000
theorem r8Same_c (w : World) (u v : Value) (xs ys : List Int) (ha : Ints w u xs) (hb : Ints w v ys) :
    Calls Try.prog 36 #[u, v] w fun e w' => e = .returned (.bool (lEq xs ys)) ∧ Ext w w' := by
  obtain ⟨A, ca, rfl, h1, h1'⟩ := ha.form
  obtain ⟨B, cb, rfl, h2, h2'⟩ := hb.form
  by_cases hl : xs.length = ys.length
  · have hl1 : ((xs.length : Int) != (ys.length : Int)) = false := by simp [hl]
    have hlle : xs.length ≤ ys.length := by omega
    have hlge : ys.length ≤ xs.length := by omega
    clear hl
    go_enter Try.func36, Try.ntmps36
    go_wp2
    go_loopw [5] (fun i wr => ∃ k : Nat, k ≤ xs.length ∧ i = .int .i64 k ∧ Ext w wr ∧ takeEq xs ys k) (fun i _ => xs.length - (intOf i).toNat)
    case atStart => exact ⟨0, Nat.zero_le _, rfl, Ext.refl _, rfl⟩
    case round =>
      obtain ⟨k, hk, rfl, hx, ht⟩ := hrel
      by_cases hlt : k < xs.length
      · obtain ⟨b, off, rfl, hc⟩ := ha.at hlt
        obtain ⟨b', off', rfl, hc'⟩ := hb.at (k := k) (by omega)
        have c0 := hx.cell (hc k hlt)
        have c0' := hx.cell (hc' k (by omega))
        clear hc hc' ha hb
        by_cases he : xs[k] = ys[k]
        · have H : (xs[k] != ys[k]) = false := by simp [he]
          have he' := Lib.hid he
          clear he
          go_wp2
          go_quiet (fail)
          go_wp2
          go_roundw
          case rel => exact ⟨k + 1, by omega, by go_num, hx.trans (Ext.drewN _ _), takeEq_step ht hlt (by omega) he'.out⟩
          case measure => simp [intOf]; omega
        · have H : (xs[k] != ys[k]) = true := by simp [he]
          go_wp2
          go_quiet (fail)
          go_wp2
          go_ret
          exact ⟨by simp [lEq_false (ne_of_get hlt (by omega) he)], hx.trans (Ext.drewN _ _)⟩
      · go_wp2
        go_ret
        exact ⟨by simp [lEq_true (eq_of_takeEq ht (by omega) (by omega))], hx⟩
  · have hl1 : ((xs.length : Int) != (ys.length : Int)) = true := by simp; omega
    go_enter Try.func36, Try.ntmps36
    go_wp2
    go_ret
    exact ⟨by simp [lEq_false (show ¬ xs = ys from fun h => hl (by rw [h]))], Ext.refl _⟩
/-- The numbers below n in order. -/
def upL (n : Nat) : List Int := (List.range n).map fun (i : Nat) => (i : Int)
theorem upL_len (n : Nat) : (upL n).length = n := by simp [upL]
theorem upL_succ (n : Nat) : upL (n + 1) = upL n ++ [(n : Int)] := by simp [upL, List.range_succ]
theorem l05First_c (n : Nat) (w : World) (hn : n ≤ 100000) :
    Calls Try.prog 20 #[.int .i64 n] w fun e w' => ∃ u, e = .returned u ∧ OwnInts w.heap.size w' u (upL n) ∧ Ext w w' := by
  obtain ⟨i0, hi, hz0, hz1, hz2⟩ := info_parts intInfo
  have hown0 : OwnInts w.heap.size (w.alloc (.cells #[] 2)) (.slice (some ⟨w.heap.size, 0, none⟩) 0 0) [] :=
    ⟨by simp [ivs], .inr ⟨w.heap.size, 0, #[], rfl, Nat.le_refl _, heap_alloc_new w _, by simp, by unfold maxLen; omega, rfl, by simp [ivs]⟩⟩
  go_enter Try.func20, Try.ntmps20
  go_wp2
  go_loopw [3, 4] (fun u i wr => ∃ (k : Nat), k ≤ n ∧ i = .int .i64 (k : Int) ∧ OwnInts w.heap.size wr u (upL k) ∧ Ext w wr) (fun _ i _ => n - (intOf i).toNat)
  case atStart => exact ⟨0, Nat.zero_le _, rfl, hown0, Ext.alloc _ _⟩
  case round =>
    obtain ⟨k, hk, rfl, ho, hx⟩ := hrel
    by_cases h0 : k < n
    · have hd : decide ((k : Int) < (n : Int)) = true := by simp; omega
      have HR := Lib.hid (upL_succ k)
      have hl : (upL k).length ≤ 1048576 := by rw [upL_len]; omega
      generalize upL k = ys at *
      obtain ⟨Au, cu, rfl, _, _⟩ := ho.ints.form
      have ho1 : wr.ownsRow w.heap.size 2 1 (.slice Au ys.length cu) ys.length (ivs ys) := ho
      have ho' := ho1.alloc (.cells #[.int .i64 k] 2)
      have hs := hx.size
      go_wp2_with (at_builtin; refine wpList_append_own_at _ rfl _ _ 27 rfl w.heap.size 2 i0 (.int .i64 0) 1 8 Try.underlying27 hi hz0 hz1 hz2 rfl (by decide) _ _ _ rfl ho' ⟨wr.heap.size, 0, none⟩ 1 1 [.int .i64 k] rfl rfl (cell_one_new _ _ _) ?c2 ?c3 ?c4 ?c5 ?_)
      case c2 => intro u hu; simp at hu; subst hu; rfl
      case c3 => unfold maxLen; omega
      case c4 => omega
      case c5 => simp; omega
      intro v' w4 hown4 hg4 _ hloc
      obtain ⟨A', c', rfl, _, _, _⟩ := (ownsRow_row hown4).form
      have hx4 : Ext w w4 := (hx.trans (Ext.alloc _ _)).grown hg4 (fun k hk => (ho'.lt k hk).1)
      go_wp2
      go_roundw
      case rel => exact ⟨k + 1, by omega, by go_num, by rw [HR.out]; simpa [OwnInts, ivs_append, ivs] using hown4, hx4⟩
      case measure => first | (simp [intOf]; done) | (simp [intOf]; omega)
    · have hk' : k = n := by omega
      subst hk'
      have hd : decide ((k : Int) < (k : Int)) = false := by simp
      obtain ⟨Au, cu, rfl, _, _⟩ := ho.ints.form
      go_wp2
      go_ret
      exact ⟨_, rfl, by simpa using ho, hx⟩
/-- A list in which each number is replaced by what stands at it in a list. -/
def movedL (xs order : List Int) : List Int := xs.map fun x => order.getD x.toNat 0
theorem movedL_snoc (xs order : List Int) (k : Nat) (h : k < xs.length) : movedL (xs.take (k + 1)) order = movedL (xs.take k) order ++ [order.getD xs[k].toNat 0] := by
  rw [List.take_succ_eq_append_getElem h]; unfold movedL; rw [List.map_append, List.map_cons, List.map_nil]
theorem r8Moved_c (v o : Value) (xs order : List Int) (w : World) (h : Ints w v xs) (ho : Ints w o order) (h1 : xs.length ≤ 100000) (hin : ∀ x ∈ xs, 0 ≤ x ∧ x < order.length) :
    Calls Try.prog 10 #[v, o] w fun e w' => ∃ u, e = .returned u ∧ OwnInts w.heap.size w' u (movedL xs order) ∧ Ext w w' := by
  obtain ⟨i0, hi, hz0, hz1, hz2⟩ := info_parts intInfo
  obtain ⟨A, c, rfl, _, _⟩ := id h.form
  obtain ⟨B, d, rfl, _, _⟩ := id ho.form
  have hown0 : OwnInts w.heap.size (w.alloc (.cells #[] 2)) (.slice (some ⟨w.heap.size, 0, none⟩) 0 0) [] :=
    ⟨by simp [ivs], .inr ⟨w.heap.size, 0, #[], rfl, Nat.le_refl _, heap_alloc_new w _, by simp, by unfold maxLen; omega, rfl, by simp [ivs]⟩⟩
  have HH := Lib.hid h
  have HO := Lib.hid ho
  have HI := Lib.hid hin
  clear h ho hin
  go_enter Try.func10, Try.ntmps10
  go_wp2
  go_loopw [5, 6] (fun u i wr => ∃ (k : Nat), k ≤ xs.length ∧ i = .int .i64 (k : Int) ∧ OwnInts w.heap.size wr u (movedL (xs.take k) order) ∧ Ext w wr) (fun _ i _ => xs.length - (intOf i).toNat)
  case atStart => exact ⟨0, Nat.zero_le _, rfl, hown0, Ext.alloc _ _⟩
  case round =>
    clear hown0
    obtain ⟨k, hk, rfl, hu, hx⟩ := hrel
    by_cases h0 : k < xs.length
    · have HR := Lib.hid (movedL_snoc xs order k h0)
      have hl : (movedL (xs.take k) order).length ≤ 1048576 := by simp [movedL]; omega
      obtain ⟨b, off, rfl, hc⟩ := (HH.out.ext hx).at h0
      have c0 := hc k h0
      obtain ⟨x0, x1⟩ := HI.out xs[k] (List.getElem_mem h0)
      obtain ⟨j, hj⟩ := Int.eq_ofNat_of_zero_le x0
      have hjl : j < order.length := by omega
      obtain ⟨b2, off2, rfl, hc2⟩ := (HO.out.ext hx).at hjl
      have c2 := hc2 j hjl
      have HG : Hid (order.getD xs[k].toNat 0 = order[j]) := by
        unfold Hid
        rw [hj, Int.toNat_natCast, List.getD_eq_getElem?_getD, List.getElem?_eq_getElem hjl]; rfl
      generalize movedL (xs.take k) order = ys at *
      rw [hj] at c0
      generalize order[j] = z at *
      clear hc hc2 x0 x1 hj
      obtain ⟨Au, cu, rfl, _, _⟩ := hu.ints.form
      have ho1 : wr.ownsRow w.heap.size 2 1 (.slice Au ys.length cu) ys.length (ivs ys) := hu
      have ho' := ho1.alloc (.cells #[.int .i64 z] 2)
      have hs := hx.size
      go_wp2_with (at_builtin; refine wpList_append_own_at _ rfl _ _ 27 rfl w.heap.size 2 i0 (.int .i64 0) 1 8 Try.underlying27 hi hz0 hz1 hz2 rfl (by decide) _ _ _ rfl ho' ⟨wr.heap.size, 0, none⟩ 1 1 [.int .i64 z] rfl rfl (cell_one_new _ _ _) ?c2 ?c3 ?c4 ?c5 ?_)
      case c2 => intro u hu; simp at hu; subst hu; rfl
      case c3 => unfold maxLen; omega
      case c4 => omega
      case c5 => simp; omega
      intro v' w4 hown4 hg4 _ hloc
      obtain ⟨A', c', rfl, _, _, _⟩ := (ownsRow_row hown4).form
      have hx4 : Ext w w4 := (hx.trans (Ext.alloc _ _)).grown hg4 (fun k hk => (ho'.lt k hk).1)
      go_wp2
      go_roundw
      case rel => exact ⟨k + 1, by omega, by go_num, by rw [HR.out, HG.out]; simpa [OwnInts, ivs_append, ivs] using hown4, hx4⟩
      case measure => first | (simp [intOf]; done) | (simp [intOf]; omega)
    · have hk' : k = xs.length := by omega
      subst hk'
      rw [List.take_length] at hu
      obtain ⟨Au, cu, rfl, _, _⟩ := hu.ints.form
      go_wp2
      go_ret
      exact ⟨_, rfl, hu, hx⟩
theorem same_c (k : Int) (w : World) : Calls Try.prog 24 #[.int .i64 k] w fun e w' => e = .returned (.int .i64 k) ∧ w = w' := by
  go_enter Try.func24, Try.ntmps24
  go_wp2
  go_ret
  exact ⟨rfl, rfl⟩
end Go.Proofs.Ytheokhgppmmjlaa
