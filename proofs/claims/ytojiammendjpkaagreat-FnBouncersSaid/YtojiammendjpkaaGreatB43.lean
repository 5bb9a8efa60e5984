/- Contracts of the laws' and the reference's small functions on lists that number anew: r8Same, r8Moved, l05First, SortList, isOrder.
Contract of the laws' r8Config at equal configurations.
Contract of the laws' r8Config at any two configurations. -/
import Derived.Test.YtojiammendjpkaaGreatB11
import Derived.Test.YtojiammendjpkaaGreatB03
import Derived.Maps.AppendAt
section
set_option linter.unusedSimpArgs false
set_option linter.unusedVariables false
namespace Go.Proofs.YtojiammendjpkaaGreat
open Go Go.RowKit Go.Proofs
set_option maxHeartbeats 400000
theorem r8Same_c (w : World) (u v : Value) (xs ys : List Int) (ha : Ints w u xs) (hb : Ints w v ys) :
    Calls Tryz.prog 76 #[u, v] w fun e w' => e = .returned (.bool (lEq xs ys)) ∧ Ext w w' := by
  obtain ⟨A, ca, rfl, h1, h1'⟩ := ha.form
  obtain ⟨B, cb, rfl, h2, h2'⟩ := hb.form
  by_cases hl : xs.length = ys.length
  · have hl1 : ((xs.length : Int) != (ys.length : Int)) = false := by simp [hl]
    have hlle : xs.length ≤ ys.length := by omega
    have hlge : ys.length ≤ xs.length := by omega
    clear hl
    go_enter Tryz.func76, Tryz.ntmps76
    go_wp2
    go_loopw [5] (fun i wr => ∃ k : Nat, k ≤ xs.length ∧ i = .int .i64 k ∧ Ext w wr ∧ takeEq xs ys k) (fun i _ => xs.length - (intOf i).toNat)
    case atStart => exact ⟨0, Nat.zero_le _, rfl, Ext.refl _, rfl⟩
    case round =>
      obtain ⟨k, hk, rfl, hx, ht⟩ := hrel
      by_cases hlt : k < xs.length
      · obtain ⟨b, off, rfl, hc⟩ := ha.at hlt
        obtain ⟨b', off', rfl, hc'⟩ := hb.at (k := k) (by omega)
        have c0 := hx.cell (hc k hlt)
        have c0' := hx.cell (hc' k (by omega))
        clear hc hc' ha hb
        by_cases he : xs[k] = ys[k]
        · have H : (xs[k] != ys[k]) = false := by simp [he]
          have he' := Lib.hid he
          clear he
          go_wp2
          go_quiet (fail)
          go_wp2
          go_roundw
          case rel => exact ⟨k + 1, by omega, by go_num, hx.trans (Ext.drewN _ _), takeEq_step ht hlt (by omega) he'.out⟩
          case measure => simp [intOf]; omega
        · have H : (xs[k] != ys[k]) = true := by simp [he]
          go_wp2
          go_quiet (fail)
          go_wp2
          go_ret
          exact ⟨by simp [lEq_false (ne_of_get hlt (by omega) he)], hx.trans (Ext.drewN _ _)⟩
      · go_wp2
        go_ret
        exact ⟨by simp [lEq_true (eq_of_takeEq ht (by omega) (by omega))], hx⟩
  · have hl1 : ((xs.length : Int) != (ys.length : Int)) = true := by simp; omega
    go_enter Tryz.func76, Tryz.ntmps76
    go_wp2
    go_ret
    exact ⟨by simp [lEq_false (show ¬ xs = ys from fun h => hl (by rw [h]))], Ext.refl _⟩
end Go.Proofs.YtojiammendjpkaaGreat
end
section
set_option linter.unusedSimpArgs false
set_option linter.unusedVariables false
namespace Go.Proofs.YtojiammendjpkaaGreat
open Go Go.RowKit Go.Proofs
set_option maxHeartbeats 400000
set_option maxRecDepth 20000 in
set_option maxHeartbeats 2000000 in
theorem r8Config_c (w : World) (q : Int) (lv rv lv2 rv2 : Value) (l r : List Int) (hl : Ints w lv l) (hr : Ints w rv r) (hl2 : Ints w lv2 l) (hr2 : Ints w rv2 r) :
    Calls Tryz.prog 25 #[.agg #[.int .i64 q, lv, rv], .agg #[.int .i64 q, lv2, rv2]] w fun e w' => e = .returned (.bool true) ∧ Ext w w' := by
  obtain ⟨A1, c1, rfl, _, _⟩ := id hl.form
  obtain ⟨A2, c2, rfl, _, _⟩ := id hr.form
  obtain ⟨A3, c3, rfl, _, _⟩ := id hl2.form
  obtain ⟨A4, c4, rfl, _, _⟩ := id hr2.form
  obtain ⟨W, hW⟩ : ∃ W, W = (w.alloc (.cells #[.int .i64 q, .slice A1 l.length c1, .slice A2 r.length c2] 29)).alloc (.cells #[.int .i64 q, .slice A3 l.length c3, .slice A4 r.length c4] 29) := ⟨_, rfl⟩
  have hX : Ext w W := by rw [hW]; exact (Ext.alloc _ _).trans (Ext.alloc _ _)
  have b1 : Blk W w.heap.size 29 #[.int .i64 q, .slice A1 l.length c1, .slice A2 r.length c2] := by rw [hW]; exact (Blk.new _ _ _ _ rfl).alloc _
  have b2 : Blk W (w.heap.size + 1) 29 #[.int .i64 q, .slice A3 l.length c3, .slice A4 r.length c4] := by rw [hW]; exact Blk.new _ _ _ _ (by simp)
  have p0 := b1.cell 0
  have p1 := b1.cell 1
  have p2 := b1.cell 2
  have q0 := b2.cell 0
  have q1 := b2.cell 1
  have q2 := b2.cell 2
  simp only [List.getElem?_toArray, List.getElem?_cons_zero, List.getElem?_cons_succ] at p0 p1 p2 q0 q1 q2
  rw [hW] at p0 p1 p2 q0 q1 q2
  have HL := Lib.hid (hl.ext hX)
  have HR := Lib.hid (hr.ext hX)
  have HL2 := Lib.hid (hl2.ext hX)
  have HR2 := Lib.hid (hr2.ext hX)
  go_enter Tryz.func25, Tryz.ntmps25
  go_wp2_with fail
  rw [← hW]
  clear hW p0 p1 p2 q0 q1 q2
  refine (r8Same_c W _ _ l l HL.out HL2.out).mono ?_
  rintro e w2 ⟨rfl, hx2⟩
  rw [lEq_true rfl]
  have b1' := b1.ext hx2
  have b2' := b2.ext hx2
  have p2 := b1'.cell 2
  have q2 := b2'.cell 2
  simp only [List.getElem?_toArray, List.getElem?_cons_zero, List.getElem?_cons_succ] at p2 q2
  go_wp2_with fail
  refine (r8Same_c w2 _ _ r r (HR.out.ext hx2) (HR2.out.ext hx2)).mono ?_
  rintro e w3 ⟨rfl, hx3⟩
  rw [lEq_true rfl]
  go_wp2
  go_ret
  exact ⟨rfl, (hX.trans hx2).trans hx3⟩
end Go.Proofs.YtojiammendjpkaaGreat
end
section
set_option linter.unusedSimpArgs false
set_option linter.unusedVariables false
namespace Go.Proofs.YtojiammendjpkaaGreat
open Go Go.RowKit Go.Proofs
set_option maxHeartbeats 400000
set_option maxRecDepth 20000 in
set_option maxHeartbeats 2000000 in
theorem r8ConfigG_c (w : World) (c d : ConfD) (lv rv lv2 rv2 : Value) (hl : Ints w lv c.l) (hr : Ints w rv c.r) (hl2 : Ints w lv2 d.l) (hr2 : Ints w rv2 d.r) :
    Calls Tryz.prog 25 #[.agg #[.int .i64 c.q, lv, rv], .agg #[.int .i64 d.q, lv2, rv2]] w fun e w' => (∃ b, e = .returned (.bool b)) ∧ Ext w w' := by
  obtain ⟨A1, c1, rfl, _, _⟩ := id hl.form
  obtain ⟨A2, c2, rfl, _, _⟩ := id hr.form
  obtain ⟨A3, c3, rfl, _, _⟩ := id hl2.form
  obtain ⟨A4, c4, rfl, _, _⟩ := id hr2.form
  obtain ⟨g, hg⟩ : ∃ g, w.heap.size = g := ⟨_, rfl⟩
  obtain ⟨W, hW⟩ : ∃ W, W = (w.alloc (.cells #[.int .i64 c.q, .slice A1 c.l.length c1, .slice A2 c.r.length c2] 29)).alloc (.cells #[.int .i64 d.q, .slice A3 d.l.length c3, .slice A4 d.r.length c4] 29) := ⟨_, rfl⟩
  have hX : Ext w W := by rw [hW]; exact (Ext.alloc _ _).trans (Ext.alloc _ _)
  have b1 : Blk W g 29 #[.int .i64 c.q, .slice A1 c.l.length c1, .slice A2 c.r.length c2] := by rw [hW]; exact (Blk.new _ _ _ _ hg).alloc _
  have b2 : Blk W (g + 1) 29 #[.int .i64 d.q, .slice A3 d.l.length c3, .slice A4 d.r.length c4] := by rw [hW]; exact Blk.new _ _ _ _ (by simp [hg])
  have p0 := b1.cell 0
  have p1 := b1.cell 1
  have p2 := b1.cell 2
  have q0 := b2.cell 0
  have q1 := b2.cell 1
  have q2 := b2.cell 2
  simp only [List.getElem?_toArray, List.getElem?_cons_zero, List.getElem?_cons_succ] at p0 p1 p2 q0 q1 q2
  rw [hW] at p0 p1 p2 q0 q1 q2
  have HL := Lib.hid (And.intro (hl.ext hX) (And.intro (hr.ext hX) (And.intro (hl2.ext hX) (And.intro (hr2.ext hX) (And.intro b1 (And.intro b2 hX))))))
  clear hl hr hl2 hr2 b1 b2 hX
  go_enter Tryz.func25, Tryz.ntmps25
  by_cases hq : c.q = d.q
  · have hqe : (c.q == d.q) = true := by simp [hq]
    clear hq
    go_wp2_with fail
    try rw [← hW]
    try rw [hg]
    clear hW hg p0 p1 p2 q0 q1 q2
    refine (r8Same_c W _ _ c.l d.l HL.out.1 HL.out.2.2.1).mono ?_
    rintro e w2 ⟨rfl, hx2⟩
    obtain ⟨y, hy⟩ : ∃ y, lEq c.l d.l = y := ⟨_, rfl⟩
    rw [hy]
    clear hy
    have p2 := (HL.out.2.2.2.2.1.ext hx2).cell 2
    have q2 := (HL.out.2.2.2.2.2.1.ext hx2).cell 2
    simp only [List.getElem?_toArray, List.getElem?_cons_zero, List.getElem?_cons_succ] at p2 q2
    cases y with
    | true =>
      go_wp2_with fail
      refine (r8Same_c w2 _ _ c.r d.r (HL.out.2.1.ext hx2) (HL.out.2.2.2.1.ext hx2)).mono ?_
      rintro e w3 ⟨rfl, hx3⟩
      obtain ⟨y, hy⟩ : ∃ y, lEq c.r d.r = y := ⟨_, rfl⟩
      rw [hy]
      clear hy
      go_wp2
      go_ret
      exact ⟨⟨_, rfl⟩, (HL.out.2.2.2.2.2.2.trans hx2).trans hx3⟩
    | false =>
      go_wp2
      go_ret
      exact ⟨⟨_, rfl⟩, HL.out.2.2.2.2.2.2.trans hx2⟩
  · have hqe : (c.q == d.q) = false := by simp [hq]
    clear hq
    go_wp2_with fail
    try rw [← hW]
    go_ret
    exact ⟨⟨_, rfl⟩, HL.out.2.2.2.2.2.2⟩
end Go.Proofs.YtojiammendjpkaaGreat
end
