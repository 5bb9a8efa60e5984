/- Contracts of the maker of strings for one byte, and of the program's text of moves.
Contracts of the reference's tests of lists of a machine with several tapes, and of its order of rules. No condition.
Contracts of the reference's order of rules and of its test of a machine with several tapes. No condition. -/
import Derived.Test.YtkbpchdncljlbaaGreatDoorV33
import Derived.Test.YtkbpchdncljlbaaGreatDoorV08
import Derived.Test.YtkbpchdncljlbaaGreatDoorV27
import Derived.Test.YtkbpchdncljlbaaGreatDoorV02
import Derived.Test.YtkbpchdncljlbaaGreatDoorV28
section
set_option linter.unusedSimpArgs false
set_option linter.unusedVariables false
namespace Go.Proofs.YtkbpchdncljlbaaGreatDoor
open Go Go.RowKit Go.Proofs
set_option maxHeartbeats 400000
set_option maxRecDepth 20000 in
set_option maxHeartbeats 4000000 in
theorem writeByteA_c (B b : Nat) (l : List UInt8) (c : UInt8) (w : World) (h : Bldr B b l w) (hlen : l.length + 4 ≤ 140737488355328) (hBw : B ≤ w.heap.size) :
    Calls Tryz.prog 68 #[.pointer (some ⟨b, 0, none⟩), .int .u8 c.toNat] w fun e w' => e = .returned .nilIface ∧ BdAt B b (.pointer (some ⟨b, 0, none⟩)) (l ++ [c]) w' ∧ Below B w w' := by
  obtain ⟨i0, hi, hz0, hz1, hz2⟩ := info_parts byteInfo
  have hbl : (Lib.byteCells l).length = l.length := by simp [Lib.byteCells]
  go_enter Tryz.func68, Tryz.ntmps68
  go_wp2_with fail
  refine (copyCheck_c B b l w h).mono ?_
  rintro e w1 ⟨rfl, h1, hb1⟩
  obtain ⟨hB, v, hbk, hown, hne⟩ := h1
  rw [hbl] at hown
  obtain ⟨ao, cap, rfl⟩ : ∃ ao cap, v = .slice ao l.length cap := by
    rcases hown.2 with ⟨hv, h0⟩ | ⟨g, cap, cur, hv, _⟩
    · exact ⟨none, 0, by rw [hv, h0]⟩
    · exact ⟨_, _, hv⟩
  have c0 : w1.cell? ⟨b, 0, none⟩ = some (.pointer (some ⟨b, 0, none⟩)) := by rw [Lib.cell_of_heap hbk]; rfl
  have c1 : w1.cell? ⟨b, 1, none⟩ = some (.slice ao l.length cap) := by rw [Lib.cell_of_heap hbk]; rfl
  have hbs := hb1.size
  have hlt : b < w1.heap.size := by
    rcases Nat.lt_or_ge b w1.heap.size with h' | h'
    · exact h'
    · simp [Array.getElem?_eq_none h'] at hbk
  go_wp2_with (at_builtin; refine wpList_append_own_at _ rfl _ _ 22 rfl B 5 i0 (.int .u8 0) 1 1 Tryz.underlying22 hi hz0 hz1 hz2 rfl (by decide) _ _ _ rfl (hown.alloc _) ⟨w1.heap.size, 0, none⟩ 1 1 [.int .u8 c.toNat] rfl rfl (cell_one_new _ _ _) ?c2 ?c3 ?c4 ?c5 ?_)
  case c2 => intro u hu; simp at hu; subst hu; rfl
  case c3 => unfold maxLen; omega
  case c4 => omega
  case c5 => simp; omega
  intro v' w2 hown' hgrow _ _
  have hb2 : w2.heap[b]? = some (.cells #[.pointer (some ⟨b, 0, none⟩), .slice ao l.length cap] 113 (0, 0)) := by
    rw [hgrow.block b (by simp; omega) (fun e => hne e.symm), Lib.alloc_old w1 _ b hlt]
    exact hbk
  have d0 : w2.cell? ⟨b, 0, none⟩ = some (.pointer (some ⟨b, 0, none⟩)) := by rw [Lib.cell_of_heap hb2]; rfl
  have d1 : w2.cell? ⟨b, 1, none⟩ = some (.slice ao l.length cap) := by rw [Lib.cell_of_heap hb2]; rfl
  have f1 : w2.frozen? ⟨b, 1, none⟩ = false := Lib.frozen_of_heap hb2 1
  obtain ⟨g, cap', rfl⟩ : ∃ g cap', v' = .slice (some ⟨g, 0, none⟩) (l.length + 1) cap' := by
    rcases hown'.2 with ⟨_, h0⟩ | ⟨g, cap', cur, hv, _⟩
    · omega
    · exact ⟨g, cap', hv⟩
  go_wp2
  go_ret
  refine ⟨rfl, ?_, ?_⟩
  · refine Lib.BuilderAt.put (T := 113) (e := 5) hB hb2 (bs' := Lib.byteCells (l ++ [c])) ?_ (by decide)
    have : Lib.byteCells (l ++ [c]) = Lib.byteCells l ++ [.int .u8 c.toNat] := by simp [Lib.byteCells]
    rw [this]
    simpa [hbl] using hown'
  · exact ((hb1.alloc (by have := hb1.size; omega) _).grown hgrow (by have := hb1.size; simp; omega) (fun k hk => (hown.lt k hk).1)).setCell (p := ⟨b, 1, none⟩) hB _
set_option maxRecDepth 20000 in
set_option maxHeartbeats 4000000 in
theorem movesText_c (v : Value) (zs : List Int) (w : World) (h : Ints w v zs) (hz : ∀ z ∈ zs, -1 ≤ z ∧ z ≤ 1) (hl : zs.length ≤ 1000) :
    Calls Tryz.prog 32 #[v] w fun e w' => e = .returned (.string ⟨(mvB zs).toArray⟩) ∧ Ext w w' := by
  obtain ⟨A, c, rfl, h1, h2⟩ := h.form
  obtain ⟨W, hW⟩ : ∃ W, w.alloc (.cells #[.pointer none, .slice none 0 0] 113) = W := ⟨_, rfl⟩
  have hX : Ext w W := by rw [← hW]; exact Ext.alloc _ _
  have hB : Bldr w.heap.size w.heap.size [] W := by rw [← hW]; exact Lib.fresh_isBuilder _ _ w
  have HZ := Lib.hid hz
  generalize hg0 : w.heap.size = g at *
  go_enter Tryz.func32, Tryz.ntmps32
  go_wp2_with fail
  try rw [hW]
  clear hW
  go_loopw [8] (fun i wr => ∃ k : Nat, k ≤ zs.length ∧ i = .int .i64 (k : Int) ∧ Bldr g g (mvB (zs.take k)) wr ∧ Ext w wr) (fun i _ => zs.length - (intOf i).toNat)
  case atStart => exact ⟨0, Nat.zero_le _, rfl, hB, hX⟩
  case round =>
    clear hB hX
    obtain ⟨k, hk, rfl, hB, hX⟩ := hrel
    by_cases hlt : k < zs.length
    · obtain ⟨b', off, rfl, hc⟩ := (h.ext hX).at hlt
      have c0 := hc k hlt
      have hnx : Hid (mvB (zs.take (k + 1)) = mvB (zs.take k) ++ [mvU zs[k]]) := Lib.hid (by unfold mvB; rw [List.take_succ_eq_append_getElem hlt, List.map_append]; rfl)
      have hz0 := HZ.out _ (List.getElem_mem hlt)
      have hll : (mvB (zs.take k)).length ≤ 1000 := by simp [mvB]; omega
      have hwr := fun c => writeByteA_c g g _ c wr hB (by omega) (by have := hX.size; omega)
      generalize zs[k] = z at *
      have hz3 : z = -1 ∨ z = 0 ∨ z = 1 := by omega
      clear hc
      rcases hz3 with rfl | rfl | rfl
      · have hw := hwr 76
        clear hwr
        go_wp2_with fail
        refine hw.mono ?_
        rintro e w2 ⟨rfl, hB2, hX2⟩
        clear hw
        go_wp2
        go_roundw
        case rel => exact ⟨k + 1, by omega, by go_num, by rw [hnx.out]; exact .inr hB2, ext_below hX hg0 hX2⟩
        case measure => simp [intOf]; omega
      · have hw := hwr 83
        clear hwr
        go_wp2_with fail
        refine hw.mono ?_
        rintro e w2 ⟨rfl, hB2, hX2⟩
        clear hw
        go_wp2
        go_roundw
        case rel => exact ⟨k + 1, by omega, by go_num, by rw [hnx.out]; exact .inr hB2, ext_below hX hg0 hX2⟩
        case measure => simp [intOf]; omega
      · have hw := hwr 82
        clear hwr
        go_wp2_with fail
        refine hw.mono ?_
        rintro e w2 ⟨rfl, hB2, hX2⟩
        clear hw
        go_wp2
        go_roundw
        case rel => exact ⟨k + 1, by omega, by go_num, by rw [hnx.out]; exact .inr hB2, ext_below hX hg0 hX2⟩
        case measure => simp [intOf]; omega
    · have hke : zs.take k = zs := List.take_of_length_le (by omega)
      rw [hke] at hB
      clear hke
      have hst := Tryz.Builder_String_any g g (mvB zs) wr hB (by have := hX.size; omega)
      go_wp2_with fail
      refine hst.mono ?_
      rintro e w2 ⟨rfl, hX2⟩
      go_wp2
      go_ret
      exact ⟨rfl, ext_below hX hg0 hX2⟩
end Go.Proofs.YtkbpchdncljlbaaGreatDoor
end
section
set_option linter.unusedVariables false
set_option linter.unusedSimpArgs false
namespace Go.Proofs.YtkbpchdncljlbaaGreatDoor
open Go Go.RowKit Go.Proofs
set_option maxHeartbeats 400000
theorem l06Row_c (v : Value) (xs : List Int) (tp lo hi : Int) (w : World) (h : Ints w v xs) :
    Calls Tryz.prog 69 #[v, .int .i64 tp, .int .i64 lo, .int .i64 hi] w fun e w' => e = .returned (.bool (decide ((xs.length : Int) = tp) && xs.all fun z => inB z lo hi)) ∧ w = w' := by
  obtain ⟨A, c, rfl, h1, h2⟩ := h.form
  by_cases hn : (xs.length : Int) = tp
  · have hne : ((xs.length : Int) != tp) = false := by simp [hn]
    rw [decide_eq_true hn]
    clear hn
    go_enter Tryz.func69, Tryz.ntmps69
    go_wp2_with fail
    go_loopw [9] (fun i wr => ∃ k : Nat, k ≤ xs.length ∧ i = .int .i64 (k : Int) ∧ wr = w ∧ allTo (fun z => inB z lo hi) xs k) (fun i _ => xs.length - (intOf i).toNat)
    case atStart => exact ⟨0, Nat.zero_le _, rfl, rfl, rfl⟩
    case round =>
      obtain ⟨k, hk, rfl, rfl, ht⟩ := hrel
      by_cases hlt : k < xs.length
      · obtain ⟨b, off, rfl, hc⟩ := h.at hlt
        have c0 := hc k hlt
        have LI := l00In_c xs[k] lo hi wr
        have HNX : Hid (inB xs[k] lo hi = true → allTo (fun z => inB z lo hi) xs (k + 1)) := Lib.hid fun hb => by
          unfold allTo at ht ⊢
          rw [List.take_succ_eq_append_getElem hlt, List.all_append, ht]
          simp [hb]
        have HNO : Hid (inB xs[k] lo hi = false → (xs.all fun z => inB z lo hi) = false) := Lib.hid fun hb => all_no hlt hb
        generalize xs[k] = z at *
        generalize inB z lo hi = b at *
        cases b with
        | true =>
          have HN := Lib.hid (HNX.out rfl)
          clear hc ht HNX HNO
          go_wp2_with fail
          refine LI.mono ?_
          rintro e _ ⟨rfl, rfl⟩
          go_wp2_with fail
          go_roundw
          case rel => exact ⟨k + 1, by omega, by go_num, by first | rfl | trivial, HN.out⟩
          case measure => simp [intOf]; omega
        | false =>
          have HN := Lib.hid (HNO.out rfl)
          clear hc ht HNX HNO
          go_wp2_with fail
          refine LI.mono ?_
          rintro e _ ⟨rfl, rfl⟩
          go_wp2_with fail
          go_ret
          exact ⟨by rw [HN.out]; rfl, rfl⟩
      · obtain rfl : k = xs.length := by omega
        have HN : Hid ((xs.all fun z => inB z lo hi) = true) := Lib.hid (by
          unfold allTo at ht
          rwa [List.take_length] at ht)
        clear ht
        go_wp2_with fail
        go_ret
        exact ⟨by rw [HN.out]; rfl, rfl⟩
  · have hne : ((xs.length : Int) != tp) = true := by simp [hn]
    rw [decide_eq_false hn]
    clear hn
    go_enter Tryz.func69, Tryz.ntmps69
    go_wp2_with fail
    go_ret
    exact ⟨rfl, rfl⟩
theorem l01Compare_c (w : World) (u v : Value) (xs ys : List Int) (ha : Ints w u xs) (hb : Ints w v ys) :
    Calls Tryz.prog 103 #[u, v] w fun e w' => e = .returned (.int .i64 (cmpL xs ys)) ∧ Ext w w' := by
  obtain ⟨A, c, rfl, g1, g2⟩ := ha.form
  obtain ⟨B, d, rfl, g3, g4⟩ := hb.form
  go_enter Tryz.func103, Tryz.ntmps103
  go_wp2_with fail
  go_loopw [5] (fun i wr => ∃ k : Nat, k ≤ xs.length ∧ k ≤ ys.length ∧ i = .int .i64 (k : Int) ∧ Ext w wr ∧ Hid (cmpL (xs.drop k) (ys.drop k) = cmpL xs ys)) (fun i _ => xs.length - (intOf i).toNat)
  case atStart => exact ⟨0, Nat.zero_le _, Nat.zero_le _, rfl, Ext.refl _, rfl⟩
  case round =>
    obtain ⟨k, hk1, hk2, rfl, hx, HD⟩ := hrel
    by_cases h1 : k < xs.length
    · by_cases h2 : k < ys.length
      · obtain ⟨b1, o1, rfl, hc1⟩ := (ha.ext hx).at h1
        obtain ⟨b2, o2, rfl, hc2⟩ := (hb.ext hx).at h2
        have c1 := hc1 k h1
        have c2 := hc2 k h2
        have HS : Hid (cmpL xs ys = if xs[k] < ys[k] then -1 else if ys[k] < xs[k] then 1 else cmpL (xs.drop (k + 1)) (ys.drop (k + 1))) := by
          unfold Hid
          rw [← HD.out, cmpL_drop h1 h2]
        generalize xs[k] = x at *
        generalize ys[k] = y at *
        clear hc1 hc2
        have q1 := cellR c1
        have q2 := cellR c2
        by_cases h3 : x < y
        · have HT : Hid (cmpL xs ys = -1) := by unfold Hid; rw [HS.out, if_pos h3]
          go_wp2_with fail
          refine wp_region_ext (by kernel_rfl) (by kernel_rfl) ?_
          repeat (go_big_quiet_step (fail))
          refine wpQuiet_nil ?_
          intro w2 hx2
          go_wp2_with fail
          go_ret
          exact ⟨by rw [HT.out]; rfl, hx.trans hx2⟩
        · by_cases h4 : y < x
          · have HT : Hid (cmpL xs ys = 1) := by unfold Hid; rw [HS.out, if_neg h3, if_pos h4]
            go_wp2_with fail
            refine wp_region_ext (by kernel_rfl) (by kernel_rfl) ?_
            repeat (go_big_quiet_step (fail))
            refine wpQuiet_nil ?_
            intro w2 hx2
            have r1 := cellR (hx2.cell c1)
            have r2 := cellR (hx2.cell c2)
            clear q1 q2
            go_wp2_with fail
            refine wp_region_ext (by kernel_rfl) (by kernel_rfl) ?_
            repeat (go_big_quiet_step (fail))
            refine wpQuiet_nil ?_
            intro w3 hx3
            go_wp2_with fail
            go_ret
            exact ⟨by rw [HT.out]; rfl, (hx.trans hx2).trans hx3⟩
          · have HT : Hid (cmpL (xs.drop (k + 1)) (ys.drop (k + 1)) = cmpL xs ys) := by unfold Hid; rw [HS.out, if_neg h3, if_neg h4]
            go_wp2_with fail
            refine wp_region_ext (by kernel_rfl) (by kernel_rfl) ?_
            repeat (go_big_quiet_step (fail))
            refine wpQuiet_nil ?_
            intro w2 hx2
            have r1 := cellR (hx2.cell c1)
            have r2 := cellR (hx2.cell c2)
            clear q1 q2
            go_wp2_with fail
            refine wp_region_ext (by kernel_rfl) (by kernel_rfl) ?_
            repeat (go_big_quiet_step (fail))
            refine wpQuiet_nil ?_
            intro w3 hx3
            go_wp2_with fail
            go_roundw
            case rel => exact ⟨k + 1, by omega, by omega, by go_num, (hx.trans hx2).trans hx3, HT.out⟩
            case measure => simp [intOf]; omega
      · obtain rfl : k = ys.length := by omega
        have HS : Hid (cmpL xs ys = 1) := by unfold Hid; rw [← HD.out, cmpL_out h1 (Nat.le_refl _)]
        go_wp2_with fail
        go_ret
        exact ⟨by rw [HS.out]; rfl, hx⟩
    · obtain rfl : k = xs.length := by omega
      have HS : Hid (cmpL xs ys = if xs.length < ys.length then -1 else 0) := by unfold Hid; rw [← HD.out, cmpL_end (Nat.le_refl _)]
      by_cases h3 : xs.length < ys.length
      · have HT : Hid (cmpL xs ys = -1) := by unfold Hid; rw [HS.out, if_pos h3]
        go_wp2_with fail
        go_ret
        exact ⟨by rw [HT.out]; rfl, hx⟩
      · have HT : Hid (cmpL xs ys = 0) := by unfold Hid; rw [HS.out, if_neg h3]
        have h4 : ys.length = xs.length := by omega
        go_wp2_with fail
        go_ret
        exact ⟨by rw [HT.out]; rfl, hx⟩
theorem l06Side_c (v : Value) (xs : List Int) (sy : Int) (w : World) (h : Ints w v xs) (s1 : 1 ≤ sy) (s2 : sy ≤ 1000000) :
    Calls Tryz.prog 74 #[v, .int .i64 sy] w fun e w' => e = .returned (.bool (sideOk xs sy 200)) ∧ w = w' := by
  obtain ⟨A, c, rfl, h1, h2⟩ := h.form
  have hw : IntKind.i64.wrap (sy - 1) = sy - 1 := IntWalk.i64_in _ (by omega)
  by_cases hn : xs.length ≤ 200
  · have hne : ¬ (200 : Int) < (xs.length : Int) := by omega
    have HS : Hid (sideOk xs sy 200 = ((xs.all fun z => inB z 0 (sy - 1)) && (((xs.length : Int) == 0) || xs.getLastD 0 != 0))) := by
      unfold Hid sideOk
      rw [decide_eq_true (by omega), Bool.true_and]
    rw [HS.out]
    go_enter Tryz.func74, Tryz.ntmps74
    go_wp2_with fail
    go_loopw [5] (fun i wr => ∃ k : Nat, k ≤ xs.length ∧ i = .int .i64 (k : Int) ∧ wr = w ∧ allTo (fun z => inB z 0 (sy - 1)) xs k) (fun i _ => xs.length - (intOf i).toNat)
    case atStart => exact ⟨0, Nat.zero_le _, rfl, rfl, rfl⟩
    case round =>
      obtain ⟨k, hk, rfl, rfl, ht⟩ := hrel
      by_cases hlt : k < xs.length
      · obtain ⟨b, off, rfl, hc⟩ := h.at hlt
        have c0 := hc k hlt
        have LI := l00In_c xs[k] 0 (sy - 1) wr
        have HNX : Hid (inB xs[k] 0 (sy - 1) = true → allTo (fun z => inB z 0 (sy - 1)) xs (k + 1)) := Lib.hid fun hb => by
          unfold allTo at ht ⊢
          rw [List.take_succ_eq_append_getElem hlt, List.all_append, ht]
          simp [hb]
        have HNO : Hid (inB xs[k] 0 (sy - 1) = false → (xs.all fun z => inB z 0 (sy - 1)) = false) := Lib.hid fun hb => all_no hlt hb
        generalize xs[k] = z at *
        generalize inB z 0 (sy - 1) = b at *
        cases b with
        | true =>
          have HN := Lib.hid (HNX.out rfl)
          clear hc ht HNX HNO
          go_wp2_with fail
          refine LI.mono ?_
          rintro e _ ⟨rfl, rfl⟩
          go_wp2_with fail
          go_roundw
          case rel => exact ⟨k + 1, by omega, by go_num, by first | rfl | trivial, HN.out⟩
          case measure => simp [intOf]; omega
        | false =>
          have HN := Lib.hid (HNO.out rfl)
          clear hc ht HNX HNO
          go_wp2_with fail
          refine LI.mono ?_
          rintro e _ ⟨rfl, rfl⟩
          go_wp2_with fail
          go_ret
          exact ⟨by rw [HN.out]; rfl, rfl⟩
      · obtain rfl : k = xs.length := by omega
        have HN : Hid ((xs.all fun z => inB z 0 (sy - 1)) = true) := Lib.hid (by
          unfold allTo at ht
          rwa [List.take_length] at ht)
        clear ht
        by_cases h0 : xs.length = 0
        · have hb0 : ((xs.length : Int) == 0) = true := by simp [h0]
          go_wp2_with fail
          go_ret
          exact ⟨by rw [HN.out]; simp [h0], rfl⟩
        · have hb0 : ((xs.length : Int) == 0) = false := by simp [h0]
          have hp : 0 < xs.length := by omega
          obtain ⟨b, off, rfl, hc⟩ := h.at (k := xs.length - 1) (by omega)
          have c0 := hc (xs.length - 1) (by omega)
          have HL : Hid (xs.getLastD 0 = xs[xs.length - 1]) := lastD_get hp
          have hi1 : (((xs.length : Int) - 1)).toNat = xs.length - 1 := by omega
          have hw1 : IntKind.i64.wrap ((xs.length : Int) - 1) = (xs.length : Int) - 1 := IntWalk.i64_in _ (by omega)
          generalize xs[xs.length - 1] = z at *
          clear hc
          go_wp2_with fail
          go_ret
          exact ⟨by rw [HN.out, HL.out]; simp [h0], rfl⟩
  · have hne : (200 : Int) < (xs.length : Int) := by omega
    have HS : Hid (sideOk xs sy 200 = false) := by
      unfold Hid sideOk
      rw [decide_eq_false (by omega), Bool.false_and, Bool.false_and]
    rw [HS.out]
    go_enter Tryz.func74, Tryz.ntmps74
    go_wp2_with fail
    go_ret
    exact ⟨rfl, rfl⟩
end Go.Proofs.YtkbpchdncljlbaaGreatDoor
end
section
set_option linter.unusedVariables false
set_option linter.unusedSimpArgs false
namespace Go.Proofs.YtkbpchdncljlbaaGreatDoor
open Go Go.RowKit Go.Proofs
set_option maxHeartbeats 400000
set_option maxRecDepth 20000 in
set_option maxHeartbeats 1000000 in
theorem l06Before_c (b1 o1 b2 o2 : Nat) (a b : MRuleD) (u v : Value) (w : World) (c0 : w.cell? ⟨b1, o1, none⟩ = some (.int .i64 a.st)) (c1 : w.cell? ⟨b1, o1 + 1, none⟩ = some u) (d0 : w.cell? ⟨b2, o2, none⟩ = some (.int .i64 b.st)) (d1 : w.cell? ⟨b2, o2 + 1, none⟩ = some v) (hu : Ints w u a.rd) (hv : Ints w v b.rd) :
    Calls Tryz.prog 70 #[.pointer (some ⟨b1, o1, none⟩), .pointer (some ⟨b2, o2, none⟩)] w fun e w' => e = .returned (.bool (decide (cmpM a b < 0))) ∧ Ext w w' := by
  obtain ⟨A, ca, rfl, _, _⟩ := hu.form
  obtain ⟨B, cb, rfl, _, _⟩ := hv.form
  have q0 := cellR c0
  have q1 := cellR c1
  have r0 := cellR d0
  have r1 := cellR d1
  obtain ⟨z, hz⟩ : ∃ z, decide (cmpM a b < 0) = z := ⟨_, rfl⟩
  rw [hz]
  have HZ := Lib.hid hz
  clear hz
  by_cases h1 : a.st < b.st
  · have HE : Hid (z = true) := by unfold Hid; rw [← HZ.out, cmpM, if_neg (by omega), if_pos h1]; rfl
    go_enter Tryz.func70, Tryz.ntmps70
    go_wp2_with fail
    refine wp_region_ext (by kernel_rfl) (by kernel_rfl) ?_
    repeat (go_big_quiet_step (fail))
    refine wpQuiet_nil ?_
    intro w2 hx2
    go_wp2_with fail
    go_ret
    exact ⟨by rw [HE.out]; rfl, hx2⟩
  · have h1b : decide (a.st < b.st) = false := decide_eq_false h1
    by_cases h2 : a.st = b.st
    · have h2b : (a.st == b.st) = true := by simp [h2]
      have CM := fun d os => l01Compare_c (Sort.grow (redrawn w d) os) _ _ a.rd b.rd (hu.ext (below_regrown _ _ _)) (hv.ext (below_regrown _ _ _))
      have HE : Hid (z = decide (cmpL a.rd b.rd < 0)) := by unfold Hid; rw [← HZ.out, cmpM, if_pos h2]
      generalize cmpL a.rd b.rd = y at *
      clear h1 h2
      go_enter Tryz.func70, Tryz.ntmps70
      go_wp2_with fail
      refine wp_region_ext (by kernel_rfl) (by kernel_rfl) ?_
      repeat (go_big_quiet_step ((go_at_call 103; exact Calls.extR (CM _ _))))
      refine wpQuiet_nil ?_
      intro w2 hx2
      go_wp2_with fail
      go_ret
      exact ⟨by rw [HE.out]; rfl, hx2⟩
    · have h2b : (a.st == b.st) = false := by simp [h2]
      have HE : Hid (z = false) := by unfold Hid; rw [← HZ.out, cmpM, if_neg h2, if_neg h1]; rfl
      clear h1 h2
      go_enter Tryz.func70, Tryz.ntmps70
      go_wp2_with fail
      refine wp_region_ext (by kernel_rfl) (by kernel_rfl) ?_
      repeat (go_big_quiet_step (fail))
      refine wpQuiet_nil ?_
      intro w2 hx2
      go_wp2_with fail
      go_ret
      exact ⟨by rw [HE.out]; rfl, hx2⟩
end Go.Proofs.YtkbpchdncljlbaaGreatDoor
end
