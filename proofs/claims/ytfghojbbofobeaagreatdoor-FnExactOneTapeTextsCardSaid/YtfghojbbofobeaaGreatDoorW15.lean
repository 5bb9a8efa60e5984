/- Contracts of what the reference's machine with one tape does in its places, but for those where symbols are looked for.
Contracts of the reference's tests of lists of a machine with several tapes, and of its order of rules. No condition.
Contract of the program's reading of a configuration with several tapes. -/
import Derived.Test.YtfghojbbofobeaaGreatDoorW14
import Derived.Test.YtfghojbbofobeaaGreatDoorW09
import Derived.Test.YtfghojbbofobeaaGreatDoorW02
import Derived.Test.YtfghojbbofobeaaGreatDoorW07
import Derived.Test.YtfghojbbofobeaaGreatDoorW12
section
set_option linter.unusedSimpArgs false
set_option linter.unusedVariables false
namespace Go.Proofs.YtfghojbbofobeaaGreatDoor
open Go Go.RowKit Go.Proofs Go.Maps
set_option maxHeartbeats 400000
set_option maxRecDepth 20000 in
set_option maxHeartbeats 4000000 in
theorem sev4_c (b : Nat) (m : MultiD) (a c : Int) (v : Int) (pv : Value) (w : World) (h : MulAt w b m) (hm : multiOk m = true) (c1 : 1 ≤ c) (c6 : c ≤ 6) (v0 : 0 ≤ v) (v1 : v < 2 * m.sy) (hpv : Ints w pv [4, a, c]) :
    Calls Tryz.prog 117 #[.pointer (some ⟨b, 0, none⟩), pv, .int .i64 v] w (MoveResM m w (actW m ⟨4, a, 0, c, 0, 0, 0, 0⟩ v)) := by
  obtain ⟨⟨tp1, tp2⟩, ⟨y1, y2⟩, ⟨s1, s2⟩, hrl, _⟩ := multi_all hm
  obtain ⟨g, hg⟩ : ∃ g, w.heap.size = g := ⟨_, rfl⟩
  obtain ⟨W, hW⟩ : ∃ W, W = w.alloc (.cells #[.bool false, .int .i64 0, .int .i64 0, .slice none 0 0] 147) := ⟨_, rfl⟩
  have hX : Ext w W := by rw [hW]; exact Ext.alloc _ _
  have bZ : Blk W g 147 #[.bool false, .int .i64 0, .int .i64 0, .slice none 0 0] := by rw [hW]; exact Blk.new _ _ _ _ hg
  have hsW : W.heap.size = g + 1 := by rw [hW]; simp [hg]
  have hWv := h.ext hX
  obtain ⟨A, cA, hb, hR⟩ := id hWv
  have a0 : W.cell? ⟨b, 0, none⟩ = some (.int .i64 m.tp) := hb.cell 0
  have a1 : W.cell? ⟨b, 1, none⟩ = some (.int .i64 m.sy) := hb.cell 1
  have a3 : W.cell? ⟨b, 3, none⟩ = some (.slice A m.rules.length cA) := hb.cell 3
  obtain ⟨Ap, cp, rfl, hl1, hl2⟩ := hpv.form
  obtain ⟨bp, op, rfl, hc⟩ := hpv.at (k := 0) (by simp)
  have e0 := hX.cell (hc 0 (by simp))
  have e1 := hX.cell (hc 1 (by simp))
  have e2 := hX.cell (hc 2 (by simp))
  simp only [List.getElem_cons_zero, List.getElem_cons_succ, Nat.add_zero] at e0 e1 e2
  obtain ⟨x, hx⟩ : ∃ x, v % m.sy = x := ⟨_, rfl⟩
  have hsy0 : ¬ m.sy = 0 := by omega
  have hxm : v.tmod m.sy = x := by rw [Int.tmod_eq_emod_of_nonneg v0]; exact hx
  have hx0 : 0 ≤ x ∧ x < m.sy := by rw [← hx]; exact ⟨Int.emod_nonneg _ (by omega), Int.emod_lt_of_pos _ (by omega)⟩
  have hgz : w.heap.size ≤ g := by omega
  have HXX := Lib.hid hx
  simp only [List.length_cons, List.length_nil]
  clear hpv hc hl1 hl2 hx hb
  go_enter Tryz.func117, Tryz.ntmps117
  go_upto_region 1 with fail
  try rw [← hW]
  try rw [hg]
  clear hW
  by_cases hc1 : c = 1
  · have hcb : (c == 1) = true := by simp [hc1]
    have HE : Hid (actW m ⟨4, a, 0, c, 0, 0, 0, 0⟩ v = ⟨v, -1, lookP a, false⟩) := Lib.hid (by
      have e : actW m ⟨4, a, 0, c, 0, 0, 0, 0⟩ v = ⟨v, -1, leaveP a (c - 1), false⟩ := rfl
      rw [e]; unfold leaveP; rw [if_pos (by omega)])
    clear hc1 c1 c6
    go_wp2_with fail
    refine (lookS_c b m a W hWv hm).mono ?_
    rintro e w1 ⟨u, rfl, ou, hx1⟩
    obtain ⟨Au, cu, rfl, _, _⟩ := id ou.ints.form
    obtain ⟨L, hL⟩ : ∃ L, (encM m (lookP a)).length = L := ⟨_, rfl⟩
    rw [hL] at ou ⊢
    have HL := Lib.hid hL
    clear hL
    go_wp2_with fail
    refine (goM_c _ _ _ _ _ _).mono ?_
    rintro e w2 ⟨rfl, hx2⟩
    have hX2 := hX.trans (hx1.trans hx2)
    have bZz := bZ.ext (hx1.trans hx2)
    have ou2 : OwnInts w.heap.size w2 (.slice Au L cu) (encM m (lookP a)) := OwnInts.ext (ownsRow_base ou hX.size) hx2
    have z0 := bZz.cell
    have z1 := bZz.frozen
    clear ou hx1 hx2
    go_wp2_with fail
    refine bodyPost_ret (v := .agg #[.bool true, .int .i64 v, .int .i64 (-1), .slice Au L cu]) (by simp [results, Tryz.results117, go_sem, z0]) rfl ?_

    rw [HE.out]
    exact mv_done hX2 bZz hgz rfl ou2 HL.out.symm
  · have hcb : (c == 1) = false := by simp [hc1]
    have HE : Hid (actW m ⟨4, a, 0, c, 0, 0, 0, 0⟩ v = ⟨v, -1, ⟨4, a, 0, c - 1, 0, 0, 0, 0⟩, false⟩) := Lib.hid (by
      have e : actW m ⟨4, a, 0, c, 0, 0, 0, 0⟩ v = ⟨v, -1, leaveP a (c - 1), false⟩ := rfl
      rw [e]; unfold leaveP; rw [if_neg (by omega)])
    have hwc : IntKind.i64.wrap (c - 1) = c - 1 := IntWalk.i64_in _ (by omega)
    clear hc1
    go_upto_region 6 with fail
    have zD := Ext.drew W
    have f1 := zD.cell e1
    have f2 := zD.cell e2
    refine wp_region_ordT 10 (readsT [0, 1, 2, 3, 4, 5, 6, 7] (.stir 8 (.stir 9 .done))) (by kernel_rfl) (by kernel_rfl) (fun _ _ _ _ _ h => h) ?_
    simp only [readsT]
    iterate 8 (refine wpOrdT_read (v := ?_) (by rfl) (Or.inl ⟨by rfl, fun x hx => ?_⟩) ?_; rotate_left; (· have uf1 := hx.cell f1; have uf2 := hx.cell f2; go_simp; try with_reducible rfl); try simp only [Act.put, List.setIfInBounds_toArray, List.set_cons_zero, List.set_cons_succ])
    have eA := Ext.alloc W.drew (.cells #[.int .i64 4, .int .i64 a, .int .i64 (c - 1)] 2)
    refine wpOrdT_stir (by rfl) (fun K hK => ?_)
    go_simp
    refine hK _ _ eA ?_
    clear hK K
    try simp only [Act.put, List.setIfInBounds_toArray, List.set_cons_zero, List.set_cons_succ]
    obtain ⟨V, hV⟩ : ∃ V, V = (W.alloc (.cells #[.int .i64 4, .int .i64 a, .int .i64 (c - 1)] 2)).drew := ⟨_, rfl⟩
    have bL : Blk V (g + 1) 2 (ivs [4, a, c - 1]).toArray := by rw [hV]; exact (Blk.new W (g + 1) _ _ hsW).drew
    replace eA : Ext W.drew V := by rw [hV]; exact eA
    rw [← hV]
    try rw [hsW]
    clear hV
    refine wpOrdT_stir (by rfl) (fun K hK => ?_)
    go_simp
    go_at_call 134
    refine (goM_c _ _ _ _ _ _).mono ?_
    rintro e w2 ⟨rfl, hx2⟩
    refine hK _ _ hx2 ?_
    clear hK K
    try simp only [Act.put, List.setIfInBounds_toArray, List.set_cons_zero, List.set_cons_succ]
    refine wpOrdT_done ?_
    try simp only [List.drop_succ_cons, List.drop_zero]
    have hX2 := hX.trans (zD.trans (eA.trans hx2))
    have bZz := bZ.ext (zD.trans (eA.trans hx2))
    have hgl : w.heap.size ≤ g + 1 := by omega
    have ou2 : OwnInts w.heap.size w2 (.slice (some ⟨g + 1, 0, none⟩) 3 3) [4, a, c - 1] := own_ivs (bL.ext hx2) hgl (by simp)
    have z0 := bZz.cell
    have z1 := bZz.frozen
    clear f1 f2 e0 e1 e2 a0 a1 a3 zD eA hx2 bL
    go_wp2_with fail
    refine bodyPost_ret (v := .agg #[.bool true, .int .i64 v, .int .i64 (-1), .slice (some ⟨g + 1, 0, none⟩) 3 3]) (by simp [results, Tryz.results117, go_sem, z0]) rfl ?_

    rw [HE.out]
    exact mv_done hX2 bZz hgz (by simp [encM]) ou2 rfl
set_option maxRecDepth 20000 in
set_option maxHeartbeats 4000000 in
theorem sev3_c (b : Nat) (m : MultiD) (j tn : Nat) (d : Int) (v : Int) (pv : Value) (w : World) (h : MulAt w b m) (hm : multiOk m = true) (hj1 : (j : Int) < m.rules.length) (ht1 : (tn : Int) < m.tp) (dd0 : 0 ≤ d) (dd7 : d ≤ 7) (v0 : 0 ≤ v) (v1 : v < 2 * m.sy) (hpv : Ints w pv [3, (j : Int), (tn : Int), d]) :
    Calls Tryz.prog 117 #[.pointer (some ⟨b, 0, none⟩), pv, .int .i64 v] w (MoveResM m w (actW m ⟨3, (j : Int), (tn : Int), 0, 0, 0, 0, d⟩ v)) := by
  obtain ⟨⟨tp1, tp2⟩, ⟨y1, y2⟩, ⟨s1, s2⟩, hrl, _⟩ := multi_all hm
  obtain ⟨g, hg⟩ : ∃ g, w.heap.size = g := ⟨_, rfl⟩
  obtain ⟨W, hW⟩ : ∃ W, W = w.alloc (.cells #[.bool false, .int .i64 0, .int .i64 0, .slice none 0 0] 147) := ⟨_, rfl⟩
  have hX : Ext w W := by rw [hW]; exact Ext.alloc _ _
  have bZ : Blk W g 147 #[.bool false, .int .i64 0, .int .i64 0, .slice none 0 0] := by rw [hW]; exact Blk.new _ _ _ _ hg
  have hsW : W.heap.size = g + 1 := by rw [hW]; simp [hg]
  have hWv := h.ext hX
  obtain ⟨A, cA, hb, hR⟩ := id hWv
  have a0 : W.cell? ⟨b, 0, none⟩ = some (.int .i64 m.tp) := hb.cell 0
  have a1 : W.cell? ⟨b, 1, none⟩ = some (.int .i64 m.sy) := hb.cell 1
  have a3 : W.cell? ⟨b, 3, none⟩ = some (.slice A m.rules.length cA) := hb.cell 3
  obtain ⟨Ap, cp, rfl, hl1, hl2⟩ := hpv.form
  obtain ⟨bp, op, rfl, hc⟩ := hpv.at (k := 0) (by simp)
  have e0 := hX.cell (hc 0 (by simp))
  have e1 := hX.cell (hc 1 (by simp))
  have e2 := hX.cell (hc 2 (by simp))
  have e3 := hX.cell (hc 3 (by simp))
  simp only [List.getElem_cons_zero, List.getElem_cons_succ, Nat.add_zero] at e0 e1 e2 e3
  obtain ⟨x, hx⟩ : ∃ x, v % m.sy = x := ⟨_, rfl⟩
  have hsy0 : ¬ m.sy = 0 := by omega
  have hxm : v.tmod m.sy = x := by rw [Int.tmod_eq_emod_of_nonneg v0]; exact hx
  have hx0 : 0 ≤ x ∧ x < m.sy := by rw [← hx]; exact ⟨Int.emod_nonneg _ (by omega), Int.emod_lt_of_pos _ (by omega)⟩
  have hgz : w.heap.size ≤ g := by omega
  have HXX := Lib.hid hx
  simp only [List.length_cons, List.length_nil]
  clear hpv hc hl1 hl2 hx hb
  go_enter Tryz.func117, Tryz.ntmps117
  go_upto_region 1 with fail
  try rw [← hW]
  try rw [hg]
  clear hW
  have h3 : tn = 0 ∨ tn = 1 ∨ tn = 2 := by omega
  rcases h3 with rfl | rfl | rfl
  · have ab := (and_bits dd0 dd7).1
    have hlow : d % 2 = 0 ∨ d % 2 = 1 := by omega
    by_cases hv : m.sy ≤ v
    · rcases hlow with hl | hl
      · have hbit : hasB d 0 = false := by simp [hasB]; omega
        rw [hl] at ab
        have HE : Hid (actW m ⟨3, (j : Int), ((0 : Nat) : Int), 0, 0, 0, 0, d⟩ v = putP m (j : Int) 0 d) := Lib.hid (by
          have e : actW m ⟨3, (j : Int), ((0 : Nat) : Int), 0, 0, 0, 0, d⟩ v = (if m.sy ≤ v ∧ hasB d 0 = false then putP m (j : Int) 0 d else ⟨v, -1, ⟨3, (j : Int), befT m.tp 0, 0, 0, 0, 0, d⟩, false⟩) := rfl
          rw [e, if_pos ⟨hv, hbit⟩])
        have PC := putS_c b m (j : Int) 0 d W hWv hm (by omega) hj1 (by omega) (by omega) dd0 dd7
        have hno : (putP m (j : Int) 0 d).no = false := by unfold putP; split <;> rfl
        obtain ⟨q, hq⟩ : ∃ q, putP m (j : Int) 0 d = q := ⟨_, rfl⟩
        rw [hq] at PC HE hno
        clear hq
        go_wp2_with fail
        refine PC.mono ?_
        rintro e w1 ⟨hres, hx1⟩
        rcases hres with ⟨hy, _⟩ | ⟨_, Au, cu, rfl, ou⟩
        · rw [hno] at hy; exact absurd hy (by simp)
        · obtain ⟨qw, qm, qp, qn⟩ := q
          simp only at hno ou ⊢
          subst hno
          obtain ⟨L, hL⟩ : ∃ L, (encM m qp).length = L := ⟨_, rfl⟩
          rw [hL] at ou ⊢
          have HL := Lib.hid hL
          clear hL PC
          have hX2 := hX.trans hx1
          have bZz := bZ.ext hx1
          have ou2 : OwnInts w.heap.size w1 (.slice Au L cu) (encM m qp) := ownsRow_base ou hX.size
          have z0 := bZz.cell
          have z1 := bZz.frozen
          clear ou hx1 e0 e1 e2 e3 a0 a1 a3
          go_wp2_with fail
          refine bodyPost_ret (v := .agg #[.bool true, .int .i64 qw, .int .i64 qm, .slice Au L cu]) (by simp [results, Tryz.results117, go_sem, z0]) rfl ?_
          show MoveResM m w (actW m ⟨3, (j : Int), ((0 : Nat) : Int), 0, 0, 0, 0, d⟩ v) _ _
          rw [HE.out]
          exact mv_done hX2 bZz hgz rfl ou2 HL.out.symm
      · have hbit : hasB d 0 = true := by simp [hasB]; omega
        rw [hl] at ab
        have BF := beforeS_c b m 0 W hWv hm (by omega) (by omega)
        obtain ⟨bt, hbt⟩ : ∃ q, befT m.tp 0 = q := ⟨_, rfl⟩
        have HE : Hid (actW m ⟨3, (j : Int), ((0 : Nat) : Int), 0, 0, 0, 0, d⟩ v = ⟨v, -1, ⟨3, (j : Int), bt, 0, 0, 0, 0, d⟩, false⟩) := Lib.hid (by
          have e : actW m ⟨3, (j : Int), ((0 : Nat) : Int), 0, 0, 0, 0, d⟩ v = (if m.sy ≤ v ∧ hasB d 0 = false then putP m (j : Int) 0 d else ⟨v, -1, ⟨3, (j : Int), befT m.tp 0, 0, 0, 0, 0, d⟩, false⟩) := rfl
          rw [e, if_neg (fun hh => by rw [hbit] at hh; exact absurd hh.2 (by simp)), hbt])
        rw [hbt] at BF
        clear hbt
        go_wp2_with fail
        refine BF.mono ?_
        rintro e w1 ⟨rfl, hx1⟩
        obtain ⟨gl, hgl⟩ : ∃ gl, w1.heap.size = gl := ⟨_, rfl⟩
        obtain ⟨V, hV⟩ : ∃ V, V = w1.alloc (.cells #[.int .i64 3, .int .i64 (j : Int), .int .i64 bt, .int .i64 d] 2) := ⟨_, rfl⟩
        have hXV : Ext w1 V := by rw [hV]; exact Ext.alloc _ _
        have bL : Blk V gl 2 (ivs [3, (j : Int), bt, d]).toArray := by rw [hV]; exact Blk.new _ _ _ _ hgl
        have hglw : w.heap.size ≤ gl := by rw [← hgl]; exact (hX.trans hx1).size
        clear BF
        go_wp2_with fail
        try rw [← hV]
        try rw [hgl]
        clear hV
        refine (goM_c _ _ _ _ _ _).mono ?_
        rintro e w2 ⟨rfl, hx2⟩
        have hX2 := hX.trans (hx1.trans (hXV.trans hx2))
        have bZz := bZ.ext (hx1.trans (hXV.trans hx2))
        have ou2 : OwnInts w.heap.size w2 (.slice (some ⟨gl, 0, none⟩) 4 4) [3, (j : Int), bt, d] := own_ivs (bL.ext hx2) hglw (by simp)
        have z0 := bZz.cell
        have z1 := bZz.frozen
        clear hgl hx1 hx2 hXV bL e0 e1 e2 e3 a0 a1 a3
        go_wp2_with fail
        refine bodyPost_ret (v := .agg #[.bool true, .int .i64 v, .int .i64 (-1), .slice (some ⟨gl, 0, none⟩) 4 4]) (by simp [results, Tryz.results117, go_sem, z0]) rfl ?_

        rw [HE.out]
        exact mv_done hX2 bZz hgz (by simp [encM]) ou2 rfl
    · clear ab hlow
      have BF := beforeS_c b m 0 W hWv hm (by omega) (by omega)
      obtain ⟨bt, hbt⟩ : ∃ q, befT m.tp 0 = q := ⟨_, rfl⟩
      have HE : Hid (actW m ⟨3, (j : Int), ((0 : Nat) : Int), 0, 0, 0, 0, d⟩ v = ⟨v, -1, ⟨3, (j : Int), bt, 0, 0, 0, 0, d⟩, false⟩) := Lib.hid (by
        have e : actW m ⟨3, (j : Int), ((0 : Nat) : Int), 0, 0, 0, 0, d⟩ v = (if m.sy ≤ v ∧ hasB d 0 = false then putP m (j : Int) 0 d else ⟨v, -1, ⟨3, (j : Int), befT m.tp 0, 0, 0, 0, 0, d⟩, false⟩) := rfl
        rw [e, if_neg (fun hh => hv hh.1), hbt])
      rw [hbt] at BF
      clear hbt
      go_wp2_with fail
      refine BF.mono ?_
      rintro e w1 ⟨rfl, hx1⟩
      obtain ⟨gl, hgl⟩ : ∃ gl, w1.heap.size = gl := ⟨_, rfl⟩
      obtain ⟨V, hV⟩ : ∃ V, V = w1.alloc (.cells #[.int .i64 3, .int .i64 (j : Int), .int .i64 bt, .int .i64 d] 2) := ⟨_, rfl⟩
      have hXV : Ext w1 V := by rw [hV]; exact Ext.alloc _ _
      have bL : Blk V gl 2 (ivs [3, (j : Int), bt, d]).toArray := by rw [hV]; exact Blk.new _ _ _ _ hgl
      have hglw : w.heap.size ≤ gl := by rw [← hgl]; exact (hX.trans hx1).size
      clear BF
      go_wp2_with fail
      try rw [← hV]
      try rw [hgl]
      clear hV
      refine (goM_c _ _ _ _ _ _).mono ?_
      rintro e w2 ⟨rfl, hx2⟩
      have hX2 := hX.trans (hx1.trans (hXV.trans hx2))
      have bZz := bZ.ext (hx1.trans (hXV.trans hx2))
      have ou2 : OwnInts w.heap.size w2 (.slice (some ⟨gl, 0, none⟩) 4 4) [3, (j : Int), bt, d] := own_ivs (bL.ext hx2) hglw (by simp)
      have z0 := bZz.cell
      have z1 := bZz.frozen
      clear hgl hx1 hx2 hXV bL e0 e1 e2 e3 a0 a1 a3
      go_wp2_with fail
      refine bodyPost_ret (v := .agg #[.bool true, .int .i64 v, .int .i64 (-1), .slice (some ⟨gl, 0, none⟩) 4 4]) (by simp [results, Tryz.results117, go_sem, z0]) rfl ?_

      rw [HE.out]
      exact mv_done hX2 bZz hgz (by simp [encM]) ou2 rfl
  · have ab := (and_bits dd0 dd7).2.1
    have hlow : d / 2 % 2 = 0 ∨ d / 2 % 2 = 1 := by omega
    by_cases hv : m.sy ≤ v
    · rcases hlow with hl | hl
      · have hbit : hasB d 1 = false := by simp [hasB]; omega
        rw [hl] at ab
        have HE : Hid (actW m ⟨3, (j : Int), ((1 : Nat) : Int), 0, 0, 0, 0, d⟩ v = putP m (j : Int) 1 d) := Lib.hid (by
          have e : actW m ⟨3, (j : Int), ((1 : Nat) : Int), 0, 0, 0, 0, d⟩ v = (if m.sy ≤ v ∧ hasB d 1 = false then putP m (j : Int) 1 d else ⟨v, -1, ⟨3, (j : Int), befT m.tp 1, 0, 0, 0, 0, d⟩, false⟩) := rfl
          rw [e, if_pos ⟨hv, hbit⟩])
        have PC := putS_c b m (j : Int) 1 d W hWv hm (by omega) hj1 (by omega) (by omega) dd0 dd7
        have hno : (putP m (j : Int) 1 d).no = false := by unfold putP; split <;> rfl
        obtain ⟨q, hq⟩ : ∃ q, putP m (j : Int) 1 d = q := ⟨_, rfl⟩
        rw [hq] at PC HE hno
        clear hq
        go_wp2_with fail
        refine PC.mono ?_
        rintro e w1 ⟨hres, hx1⟩
        rcases hres with ⟨hy, _⟩ | ⟨_, Au, cu, rfl, ou⟩
        · rw [hno] at hy; exact absurd hy (by simp)
        · obtain ⟨qw, qm, qp, qn⟩ := q
          simp only at hno ou ⊢
          subst hno
          obtain ⟨L, hL⟩ : ∃ L, (encM m qp).length = L := ⟨_, rfl⟩
          rw [hL] at ou ⊢
          have HL := Lib.hid hL
          clear hL PC
          have hX2 := hX.trans hx1
          have bZz := bZ.ext hx1
          have ou2 : OwnInts w.heap.size w1 (.slice Au L cu) (encM m qp) := ownsRow_base ou hX.size
          have z0 := bZz.cell
          have z1 := bZz.frozen
          clear ou hx1 e0 e1 e2 e3 a0 a1 a3
          go_wp2_with fail
          refine bodyPost_ret (v := .agg #[.bool true, .int .i64 qw, .int .i64 qm, .slice Au L cu]) (by simp [results, Tryz.results117, go_sem, z0]) rfl ?_
          show MoveResM m w (actW m ⟨3, (j : Int), ((1 : Nat) : Int), 0, 0, 0, 0, d⟩ v) _ _
          rw [HE.out]
          exact mv_done hX2 bZz hgz rfl ou2 HL.out.symm
      · have hbit : hasB d 1 = true := by simp [hasB]; omega
        rw [hl] at ab
        have BF := beforeS_c b m 1 W hWv hm (by omega) (by omega)
        obtain ⟨bt, hbt⟩ : ∃ q, befT m.tp 1 = q := ⟨_, rfl⟩
        have HE : Hid (actW m ⟨3, (j : Int), ((1 : Nat) : Int), 0, 0, 0, 0, d⟩ v = ⟨v, -1, ⟨3, (j : Int), bt, 0, 0, 0, 0, d⟩, false⟩) := Lib.hid (by
          have e : actW m ⟨3, (j : Int), ((1 : Nat) : Int), 0, 0, 0, 0, d⟩ v = (if m.sy ≤ v ∧ hasB d 1 = false then putP m (j : Int) 1 d else ⟨v, -1, ⟨3, (j : Int), befT m.tp 1, 0, 0, 0, 0, d⟩, false⟩) := rfl
          rw [e, if_neg (fun hh => by rw [hbit] at hh; exact absurd hh.2 (by simp)), hbt])
        rw [hbt] at BF
        clear hbt
        go_wp2_with fail
        refine BF.mono ?_
        rintro e w1 ⟨rfl, hx1⟩
        obtain ⟨gl, hgl⟩ : ∃ gl, w1.heap.size = gl := ⟨_, rfl⟩
        obtain ⟨V, hV⟩ : ∃ V, V = w1.alloc (.cells #[.int .i64 3, .int .i64 (j : Int), .int .i64 bt, .int .i64 d] 2) := ⟨_, rfl⟩
        have hXV : Ext w1 V := by rw [hV]; exact Ext.alloc _ _
        have bL : Blk V gl 2 (ivs [3, (j : Int), bt, d]).toArray := by rw [hV]; exact Blk.new _ _ _ _ hgl
        have hglw : w.heap.size ≤ gl := by rw [← hgl]; exact (hX.trans hx1).size
        clear BF
        go_wp2_with fail
        try rw [← hV]
        try rw [hgl]
        clear hV
        refine (goM_c _ _ _ _ _ _).mono ?_
        rintro e w2 ⟨rfl, hx2⟩
        have hX2 := hX.trans (hx1.trans (hXV.trans hx2))
        have bZz := bZ.ext (hx1.trans (hXV.trans hx2))
        have ou2 : OwnInts w.heap.size w2 (.slice (some ⟨gl, 0, none⟩) 4 4) [3, (j : Int), bt, d] := own_ivs (bL.ext hx2) hglw (by simp)
        have z0 := bZz.cell
        have z1 := bZz.frozen
        clear hgl hx1 hx2 hXV bL e0 e1 e2 e3 a0 a1 a3
        go_wp2_with fail
        refine bodyPost_ret (v := .agg #[.bool true, .int .i64 v, .int .i64 (-1), .slice (some ⟨gl, 0, none⟩) 4 4]) (by simp [results, Tryz.results117, go_sem, z0]) rfl ?_

        rw [HE.out]
        exact mv_done hX2 bZz hgz (by simp [encM]) ou2 rfl
    · clear ab hlow
      have BF := beforeS_c b m 1 W hWv hm (by omega) (by omega)
      obtain ⟨bt, hbt⟩ : ∃ q, befT m.tp 1 = q := ⟨_, rfl⟩
      have HE : Hid (actW m ⟨3, (j : Int), ((1 : Nat) : Int), 0, 0, 0, 0, d⟩ v = ⟨v, -1, ⟨3, (j : Int), bt, 0, 0, 0, 0, d⟩, false⟩) := Lib.hid (by
        have e : actW m ⟨3, (j : Int), ((1 : Nat) : Int), 0, 0, 0, 0, d⟩ v = (if m.sy ≤ v ∧ hasB d 1 = false then putP m (j : Int) 1 d else ⟨v, -1, ⟨3, (j : Int), befT m.tp 1, 0, 0, 0, 0, d⟩, false⟩) := rfl
        rw [e, if_neg (fun hh => hv hh.1), hbt])
      rw [hbt] at BF
      clear hbt
      go_wp2_with fail
      refine BF.mono ?_
      rintro e w1 ⟨rfl, hx1⟩
      obtain ⟨gl, hgl⟩ : ∃ gl, w1.heap.size = gl := ⟨_, rfl⟩
      obtain ⟨V, hV⟩ : ∃ V, V = w1.alloc (.cells #[.int .i64 3, .int .i64 (j : Int), .int .i64 bt, .int .i64 d] 2) := ⟨_, rfl⟩
      have hXV : Ext w1 V := by rw [hV]; exact Ext.alloc _ _
      have bL : Blk V gl 2 (ivs [3, (j : Int), bt, d]).toArray := by rw [hV]; exact Blk.new _ _ _ _ hgl
      have hglw : w.heap.size ≤ gl := by rw [← hgl]; exact (hX.trans hx1).size
      clear BF
      go_wp2_with fail
      try rw [← hV]
      try rw [hgl]
      clear hV
      refine (goM_c _ _ _ _ _ _).mono ?_
      rintro e w2 ⟨rfl, hx2⟩
      have hX2 := hX.trans (hx1.trans (hXV.trans hx2))
      have bZz := bZ.ext (hx1.trans (hXV.trans hx2))
      have ou2 : OwnInts w.heap.size w2 (.slice (some ⟨gl, 0, none⟩) 4 4) [3, (j : Int), bt, d] := own_ivs (bL.ext hx2) hglw (by simp)
      have z0 := bZz.cell
      have z1 := bZz.frozen
      clear hgl hx1 hx2 hXV bL e0 e1 e2 e3 a0 a1 a3
      go_wp2_with fail
      refine bodyPost_ret (v := .agg #[.bool true, .int .i64 v, .int .i64 (-1), .slice (some ⟨gl, 0, none⟩) 4 4]) (by simp [results, Tryz.results117, go_sem, z0]) rfl ?_

      rw [HE.out]
      exact mv_done hX2 bZz hgz (by simp [encM]) ou2 rfl
  · have ab := (and_bits dd0 dd7).2.2
    have hlow : d / 4 % 2 = 0 ∨ d / 4 % 2 = 1 := by omega
    by_cases hv : m.sy ≤ v
    · rcases hlow with hl | hl
      · have hbit : hasB d 2 = false := by simp [hasB]; omega
        rw [hl] at ab
        have HE : Hid (actW m ⟨3, (j : Int), ((2 : Nat) : Int), 0, 0, 0, 0, d⟩ v = putP m (j : Int) 2 d) := Lib.hid (by
          have e : actW m ⟨3, (j : Int), ((2 : Nat) : Int), 0, 0, 0, 0, d⟩ v = (if m.sy ≤ v ∧ hasB d 2 = false then putP m (j : Int) 2 d else ⟨v, -1, ⟨3, (j : Int), befT m.tp 2, 0, 0, 0, 0, d⟩, false⟩) := rfl
          rw [e, if_pos ⟨hv, hbit⟩])
        have PC := putS_c b m (j : Int) 2 d W hWv hm (by omega) hj1 (by omega) (by omega) dd0 dd7
        have hno : (putP m (j : Int) 2 d).no = false := by unfold putP; split <;> rfl
        obtain ⟨q, hq⟩ : ∃ q, putP m (j : Int) 2 d = q := ⟨_, rfl⟩
        rw [hq] at PC HE hno
        clear hq
        go_wp2_with fail
        refine PC.mono ?_
        rintro e w1 ⟨hres, hx1⟩
        rcases hres with ⟨hy, _⟩ | ⟨_, Au, cu, rfl, ou⟩
        · rw [hno] at hy; exact absurd hy (by simp)
        · obtain ⟨qw, qm, qp, qn⟩ := q
          simp only at hno ou ⊢
          subst hno
          obtain ⟨L, hL⟩ : ∃ L, (encM m qp).length = L := ⟨_, rfl⟩
          rw [hL] at ou ⊢
          have HL := Lib.hid hL
          clear hL PC
          have hX2 := hX.trans hx1
          have bZz := bZ.ext hx1
          have ou2 : OwnInts w.heap.size w1 (.slice Au L cu) (encM m qp) := ownsRow_base ou hX.size
          have z0 := bZz.cell
          have z1 := bZz.frozen
          clear ou hx1 e0 e1 e2 e3 a0 a1 a3
          go_wp2_with fail
          refine bodyPost_ret (v := .agg #[.bool true, .int .i64 qw, .int .i64 qm, .slice Au L cu]) (by simp [results, Tryz.results117, go_sem, z0]) rfl ?_
          show MoveResM m w (actW m ⟨3, (j : Int), ((2 : Nat) : Int), 0, 0, 0, 0, d⟩ v) _ _
          rw [HE.out]
          exact mv_done hX2 bZz hgz rfl ou2 HL.out.symm
      · have hbit : hasB d 2 = true := by simp [hasB]; omega
        rw [hl] at ab
        have BF := beforeS_c b m 2 W hWv hm (by omega) (by omega)
        obtain ⟨bt, hbt⟩ : ∃ q, befT m.tp 2 = q := ⟨_, rfl⟩
        have HE : Hid (actW m ⟨3, (j : Int), ((2 : Nat) : Int), 0, 0, 0, 0, d⟩ v = ⟨v, -1, ⟨3, (j : Int), bt, 0, 0, 0, 0, d⟩, false⟩) := Lib.hid (by
          have e : actW m ⟨3, (j : Int), ((2 : Nat) : Int), 0, 0, 0, 0, d⟩ v = (if m.sy ≤ v ∧ hasB d 2 = false then putP m (j : Int) 2 d else ⟨v, -1, ⟨3, (j : Int), befT m.tp 2, 0, 0, 0, 0, d⟩, false⟩) := rfl
          rw [e, if_neg (fun hh => by rw [hbit] at hh; exact absurd hh.2 (by simp)), hbt])
        rw [hbt] at BF
        clear hbt
        go_wp2_with fail
        refine BF.mono ?_
        rintro e w1 ⟨rfl, hx1⟩
        obtain ⟨gl, hgl⟩ : ∃ gl, w1.heap.size = gl := ⟨_, rfl⟩
        obtain ⟨V, hV⟩ : ∃ V, V = w1.alloc (.cells #[.int .i64 3, .int .i64 (j : Int), .int .i64 bt, .int .i64 d] 2) := ⟨_, rfl⟩
        have hXV : Ext w1 V := by rw [hV]; exact Ext.alloc _ _
        have bL : Blk V gl 2 (ivs [3, (j : Int), bt, d]).toArray := by rw [hV]; exact Blk.new _ _ _ _ hgl
        have hglw : w.heap.size ≤ gl := by rw [← hgl]; exact (hX.trans hx1).size
        clear BF
        go_wp2_with fail
        try rw [← hV]
        try rw [hgl]
        clear hV
        refine (goM_c _ _ _ _ _ _).mono ?_
        rintro e w2 ⟨rfl, hx2⟩
        have hX2 := hX.trans (hx1.trans (hXV.trans hx2))
        have bZz := bZ.ext (hx1.trans (hXV.trans hx2))
        have ou2 : OwnInts w.heap.size w2 (.slice (some ⟨gl, 0, none⟩) 4 4) [3, (j : Int), bt, d] := own_ivs (bL.ext hx2) hglw (by simp)
        have z0 := bZz.cell
        have z1 := bZz.frozen
        clear hgl hx1 hx2 hXV bL e0 e1 e2 e3 a0 a1 a3
        go_wp2_with fail
        refine bodyPost_ret (v := .agg #[.bool true, .int .i64 v, .int .i64 (-1), .slice (some ⟨gl, 0, none⟩) 4 4]) (by simp [results, Tryz.results117, go_sem, z0]) rfl ?_

        rw [HE.out]
        exact mv_done hX2 bZz hgz (by simp [encM]) ou2 rfl
    · clear ab hlow
      have BF := beforeS_c b m 2 W hWv hm (by omega) (by omega)
      obtain ⟨bt, hbt⟩ : ∃ q, befT m.tp 2 = q := ⟨_, rfl⟩
      have HE : Hid (actW m ⟨3, (j : Int), ((2 : Nat) : Int), 0, 0, 0, 0, d⟩ v = ⟨v, -1, ⟨3, (j : Int), bt, 0, 0, 0, 0, d⟩, false⟩) := Lib.hid (by
        have e : actW m ⟨3, (j : Int), ((2 : Nat) : Int), 0, 0, 0, 0, d⟩ v = (if m.sy ≤ v ∧ hasB d 2 = false then putP m (j : Int) 2 d else ⟨v, -1, ⟨3, (j : Int), befT m.tp 2, 0, 0, 0, 0, d⟩, false⟩) := rfl
        rw [e, if_neg (fun hh => hv hh.1), hbt])
      rw [hbt] at BF
      clear hbt
      go_wp2_with fail
      refine BF.mono ?_
      rintro e w1 ⟨rfl, hx1⟩
      obtain ⟨gl, hgl⟩ : ∃ gl, w1.heap.size = gl := ⟨_, rfl⟩
      obtain ⟨V, hV⟩ : ∃ V, V = w1.alloc (.cells #[.int .i64 3, .int .i64 (j : Int), .int .i64 bt, .int .i64 d] 2) := ⟨_, rfl⟩
      have hXV : Ext w1 V := by rw [hV]; exact Ext.alloc _ _
      have bL : Blk V gl 2 (ivs [3, (j : Int), bt, d]).toArray := by rw [hV]; exact Blk.new _ _ _ _ hgl
      have hglw : w.heap.size ≤ gl := by rw [← hgl]; exact (hX.trans hx1).size
      clear BF
      go_wp2_with fail
      try rw [← hV]
      try rw [hgl]
      clear hV
      refine (goM_c _ _ _ _ _ _).mono ?_
      rintro e w2 ⟨rfl, hx2⟩
      have hX2 := hX.trans (hx1.trans (hXV.trans hx2))
      have bZz := bZ.ext (hx1.trans (hXV.trans hx2))
      have ou2 : OwnInts w.heap.size w2 (.slice (some ⟨gl, 0, none⟩) 4 4) [3, (j : Int), bt, d] := own_ivs (bL.ext hx2) hglw (by simp)
      have z0 := bZz.cell
      have z1 := bZz.frozen
      clear hgl hx1 hx2 hXV bL e0 e1 e2 e3 a0 a1 a3
      go_wp2_with fail
      refine bodyPost_ret (v := .agg #[.bool true, .int .i64 v, .int .i64 (-1), .slice (some ⟨gl, 0, none⟩) 4 4]) (by simp [results, Tryz.results117, go_sem, z0]) rfl ?_

      rw [HE.out]
      exact mv_done hX2 bZz hgz (by simp [encM]) ou2 rfl
set_option maxRecDepth 20000 in
set_option maxHeartbeats 4000000 in
theorem sev1_c (b : Nat) (m : MultiD) (j tn : Nat) (c d : Int) (v : Int) (pv : Value) (w : World) (h : MulAt w b m) (hm : multiOk m = true) (hj1 : (j : Int) < m.rules.length) (ht1 : (tn : Int) < m.tp) (c0 : 0 ≤ c) (c6 : c ≤ 6) (v0 : 0 ≤ v) (v1 : v < 2 * m.sy) (hpv : Ints w pv [1, (j : Int), (tn : Int), d, c]) :
    Calls Tryz.prog 117 #[.pointer (some ⟨b, 0, none⟩), pv, .int .i64 v] w (MoveResM m w (actW m ⟨1, (j : Int), (tn : Int), c, 0, 0, 0, d⟩ v)) := by
  obtain ⟨⟨tp1, tp2⟩, ⟨y1, y2⟩, ⟨s1, s2⟩, hrl, _⟩ := multi_all hm
  obtain ⟨g, hg⟩ : ∃ g, w.heap.size = g := ⟨_, rfl⟩
  obtain ⟨W, hW⟩ : ∃ W, W = w.alloc (.cells #[.bool false, .int .i64 0, .int .i64 0, .slice none 0 0] 147) := ⟨_, rfl⟩
  have hX : Ext w W := by rw [hW]; exact Ext.alloc _ _
  have bZ : Blk W g 147 #[.bool false, .int .i64 0, .int .i64 0, .slice none 0 0] := by rw [hW]; exact Blk.new _ _ _ _ hg
  have hsW : W.heap.size = g + 1 := by rw [hW]; simp [hg]
  have hWv := h.ext hX
  obtain ⟨A, cA, hb, hR⟩ := id hWv
  have a0 : W.cell? ⟨b, 0, none⟩ = some (.int .i64 m.tp) := hb.cell 0
  have a1 : W.cell? ⟨b, 1, none⟩ = some (.int .i64 m.sy) := hb.cell 1
  have a3 : W.cell? ⟨b, 3, none⟩ = some (.slice A m.rules.length cA) := hb.cell 3
  obtain ⟨Ap, cp, rfl, hl1, hl2⟩ := hpv.form
  obtain ⟨bp, op, rfl, hc⟩ := hpv.at (k := 0) (by simp)
  have e0 := hX.cell (hc 0 (by simp))
  have e1 := hX.cell (hc 1 (by simp))
  have e2 := hX.cell (hc 2 (by simp))
  have e3 := hX.cell (hc 3 (by simp))
  have e4 := hX.cell (hc 4 (by simp))
  simp only [List.getElem_cons_zero, List.getElem_cons_succ, Nat.add_zero] at e0 e1 e2 e3 e4
  obtain ⟨x, hx⟩ : ∃ x, v % m.sy = x := ⟨_, rfl⟩
  have hsy0 : ¬ m.sy = 0 := by omega
  have hxm : v.tmod m.sy = x := by rw [Int.tmod_eq_emod_of_nonneg v0]; exact hx
  have hx0 : 0 ≤ x ∧ x < m.sy := by rw [← hx]; exact ⟨Int.emod_nonneg _ (by omega), Int.emod_lt_of_pos _ (by omega)⟩
  have hgz : w.heap.size ≤ g := by omega
  have HXX := Lib.hid hx
  have hjl : j < m.rules.length := by omega
  have hjr : mrAt m (j : Int) = m.rules[j] := by
    unfold mrAt
    rw [Int.toNat_natCast, List.getD_eq_getElem?_getD, List.getElem?_eq_getElem hjl]
    rfl
  have hr := multi_rule hm hjl
  have hl3 := (mrule_all hr).2.2.2.2.1
  have htl3 : tn < m.rules[j].mv.length := by omega
  have hm0 := (mrule_all hr).2.2.2.2.2.2.2 _ (List.getElem_mem htl3)
  have em : (mrAt m (j : Int)).mv.getD (tn : Int).toNat 0 = m.rules[j].mv[tn] := by rw [hjr, Int.toNat_natCast, List.getD_eq_getElem?_getD, List.getElem?_eq_getElem htl3]; rfl
  obtain ⟨rb, ro, vr, vw, vm, rfl, r0, r1, r2, r3, r4, i1', i2', i3'⟩ := hR.at hjl
  obtain ⟨r, hrk⟩ : ∃ r, m.rules[j] = r := ⟨_, rfl⟩
  simp only [hrk] at r3 i3' hm0 em hl3 htl3
  obtain ⟨A3, k3, rfl, _, _⟩ := id i3'.form
  obtain ⟨gm, om, rfl, cm⟩ := i3'.at htl3
  have cmt := cm tn htl3
  obtain ⟨y, hy⟩ : ∃ y, r.mv[tn] = y := ⟨_, rfl⟩
  rw [hy] at cmt hm0 em
  have hji : (j : Int) < (m.rules.length : Int) := by omega
  have htm : (tn : Int) < (r.mv.length : Int) := by omega
  have hwn : IntKind.i64.wrap (-y) = -y := IntWalk.i64_in _ (by omega)
  have hwc : IntKind.i64.wrap (c - 1) = c - 1 := IntWalk.i64_in _ (by omega)
  have hwt : IntKind.i64.wrap (m.tp - 1) = m.tp - 1 := IntWalk.i64_in _ (by omega)
  have hwx : IntKind.i64.wrap (x + m.sy) = x + m.sy := IntWalk.i64_in _ (by omega)
  have EM : Hid (mvP m ⟨1, (j : Int), (tn : Int), c, 0, 0, 0, d⟩ = y) := Lib.hid em
  clear hrk hy cm i1' i2' i3' r0 r1 r2 r4 hjr hr em hR
  simp only [List.length_cons, List.length_nil]
  clear hpv hc hl1 hl2 hx hb
  go_enter Tryz.func117, Tryz.ntmps117
  go_upto_region 1 with fail
  try rw [← hW]
  try rw [hg]
  clear hW
  by_cases hc : 0 < c
  · have HE : Hid (actW m ⟨1, (j : Int), (tn : Int), c, 0, 0, 0, d⟩ v = ⟨v, y, ⟨1, (j : Int), (tn : Int), c - 1, 0, 0, 0, d⟩, false⟩) := Lib.hid (by
      have e : actW m ⟨1, (j : Int), (tn : Int), c, 0, 0, 0, d⟩ v = (if 0 < c then ⟨v, mvP m ⟨1, (j : Int), (tn : Int), c, 0, 0, 0, d⟩, ⟨1, (j : Int), (tn : Int), c - 1, 0, 0, 0, d⟩, false⟩ else ⟨v % m.sy + m.sy, -(mvP m ⟨1, (j : Int), (tn : Int), c, 0, 0, 0, d⟩), ⟨2, (j : Int), (tn : Int), m.tp - 1, 0, 0, 0, d⟩, false⟩) := rfl
      rw [e, if_pos hc, EM.out])
    obtain ⟨V, hV⟩ : ∃ V, V = W.alloc (.cells #[.int .i64 1, .int .i64 (j : Int), .int .i64 (tn : Int), .int .i64 d, .int .i64 (c - 1)] 2) := ⟨_, rfl⟩
    have hXV : Ext W V := by rw [hV]; exact Ext.alloc _ _
    have bL : Blk V (g + 1) 2 (ivs [1, (j : Int), (tn : Int), d, c - 1]).toArray := by rw [hV]; exact Blk.new _ _ _ _ hsW
    have hgl : w.heap.size ≤ g + 1 := by omega
    go_wp2_with fail
    try rw [← hV]
    try rw [hsW]
    clear hV
    refine (goM_c _ _ _ _ _ _).mono ?_
    rintro e w2 ⟨rfl, hx2⟩
    have hX2 := hX.trans (hXV.trans hx2)
    have bZz := bZ.ext (hXV.trans hx2)
    have ou2 : OwnInts w.heap.size w2 (.slice (some ⟨g + 1, 0, none⟩) 5 5) [1, (j : Int), (tn : Int), d, c - 1] := own_ivs (bL.ext hx2) hgl (by simp)
    have z0 := bZz.cell
    have z1 := bZz.frozen
    clear hx2 hXV bL e0 e1 e2 e3 e4 a0 a1 a3 r3 cmt
    go_wp2_with fail
    refine bodyPost_ret (v := .agg #[.bool true, .int .i64 v, .int .i64 y, .slice (some ⟨g + 1, 0, none⟩) 5 5]) (by simp [results, Tryz.results117, go_sem, z0]) rfl ?_

    rw [HE.out]
    exact mv_done hX2 bZz hgz (by simp [encM]) ou2 rfl
  · obtain rfl : c = 0 := by omega
    have HE : Hid (actW m ⟨1, (j : Int), (tn : Int), 0, 0, 0, 0, d⟩ v = ⟨x + m.sy, -y, ⟨2, (j : Int), (tn : Int), m.tp - 1, 0, 0, 0, d⟩, false⟩) := Lib.hid (by
      have e : actW m ⟨1, (j : Int), (tn : Int), 0, 0, 0, 0, d⟩ v = ⟨v % m.sy + m.sy, -(mvP m ⟨1, (j : Int), (tn : Int), 0, 0, 0, 0, d⟩), ⟨2, (j : Int), (tn : Int), m.tp - 1, 0, 0, 0, d⟩, false⟩ := rfl
      rw [e, EM.out, HXX.out])
    go_upto_region 27 with fail
    have zD := Ext.drew W
    have f0 := zD.cell a0
    have f1 := zD.cell a1
    refine wp_region_ordT 18 (readsT [0, 1, 2, 3, 4, 5, 6, 7, 8, 9, 10, 11, 12, 13, 14, 15] (.stir 16 (.stir 17 .done))) (by kernel_rfl) (by kernel_rfl) (fun _ _ _ _ _ h => h) ?_
    simp only [readsT]
    iterate 16 (refine wpOrdT_read (v := ?_) (by rfl) (Or.inl ⟨by rfl, fun x hx => ?_⟩) ?_; rotate_left; (· have uf0 := hx.cell f0; have uf1 := hx.cell f1; go_simp; try with_reducible rfl); try simp only [Act.put, List.setIfInBounds_toArray, List.set_cons_zero, List.set_cons_succ])
    have eA := Ext.alloc W.drew (.cells #[.int .i64 2, .int .i64 (j : Int), .int .i64 (tn : Int), .int .i64 d, .int .i64 (m.tp - 1)] 2)
    refine wpOrdT_stir (by rfl) (fun K hK => ?_)
    go_simp
    refine hK _ _ eA ?_
    clear hK K
    try simp only [Act.put, List.setIfInBounds_toArray, List.set_cons_zero, List.set_cons_succ]
    obtain ⟨V, hV⟩ : ∃ V, V = (W.alloc (.cells #[.int .i64 2, .int .i64 (j : Int), .int .i64 (tn : Int), .int .i64 d, .int .i64 (m.tp - 1)] 2)).drew := ⟨_, rfl⟩
    have bL : Blk V (g + 1) 2 (ivs [2, (j : Int), (tn : Int), d, m.tp - 1]).toArray := by rw [hV]; exact (Blk.new W (g + 1) _ _ hsW).drew
    replace eA : Ext W.drew V := by rw [hV]; exact eA
    rw [← hV]
    try rw [hsW]
    clear hV
    refine wpOrdT_stir (by rfl) (fun K hK => ?_)
    go_simp
    go_at_call 134
    refine (goM_c _ _ _ _ _ _).mono ?_
    rintro e w2 ⟨rfl, hx2⟩
    refine hK _ _ hx2 ?_
    clear hK K
    try simp only [Act.put, List.setIfInBounds_toArray, List.set_cons_zero, List.set_cons_succ]
    refine wpOrdT_done ?_
    try simp only [List.drop_succ_cons, List.drop_zero]
    have hX2 := hX.trans (zD.trans (eA.trans hx2))
    have bZz := bZ.ext (zD.trans (eA.trans hx2))
    have hgl : w.heap.size ≤ g + 1 := by omega
    have ou2 : OwnInts w.heap.size w2 (.slice (some ⟨g + 1, 0, none⟩) 5 5) [2, (j : Int), (tn : Int), d, m.tp - 1] := own_ivs (bL.ext hx2) hgl (by simp)
    have z0 := bZz.cell
    have z1 := bZz.frozen
    clear f0 f1 e0 e1 e2 e3 e4 a0 a1 a3 r3 cmt zD eA hx2 bL
    go_wp2_with fail
    refine bodyPost_ret (v := .agg #[.bool true, .int .i64 (x + m.sy), .int .i64 (-y), .slice (some ⟨g + 1, 0, none⟩) 5 5]) (by simp [results, Tryz.results117, go_sem, z0]) rfl ?_

    rw [HE.out]
    exact mv_done hX2 bZz hgz (by simp [encM]) ou2 rfl
set_option maxRecDepth 20000 in
set_option maxHeartbeats 4000000 in
theorem sev2_c (b : Nat) (m : MultiD) (j tn : Nat) (c d : Int) (v : Int) (pv : Value) (w : World) (h : MulAt w b m) (hm : multiOk m = true) (hj1 : (j : Int) < m.rules.length) (ht1 : (tn : Int) < m.tp) (c0 : 0 ≤ c) (c6 : c ≤ 6) (v0 : 0 ≤ v) (v1 : v < 2 * m.sy) (hpv : Ints w pv [2, (j : Int), (tn : Int), d, c]) :
    Calls Tryz.prog 117 #[.pointer (some ⟨b, 0, none⟩), pv, .int .i64 v] w (MoveResM m w (actW m ⟨2, (j : Int), (tn : Int), c, 0, 0, 0, d⟩ v)) := by
  obtain ⟨⟨tp1, tp2⟩, ⟨y1, y2⟩, ⟨s1, s2⟩, hrl, _⟩ := multi_all hm
  obtain ⟨g, hg⟩ : ∃ g, w.heap.size = g := ⟨_, rfl⟩
  obtain ⟨W, hW⟩ : ∃ W, W = w.alloc (.cells #[.bool false, .int .i64 0, .int .i64 0, .slice none 0 0] 147) := ⟨_, rfl⟩
  have hX : Ext w W := by rw [hW]; exact Ext.alloc _ _
  have bZ : Blk W g 147 #[.bool false, .int .i64 0, .int .i64 0, .slice none 0 0] := by rw [hW]; exact Blk.new _ _ _ _ hg
  have hsW : W.heap.size = g + 1 := by rw [hW]; simp [hg]
  have hWv := h.ext hX
  obtain ⟨A, cA, hb, hR⟩ := id hWv
  have a0 : W.cell? ⟨b, 0, none⟩ = some (.int .i64 m.tp) := hb.cell 0
  have a1 : W.cell? ⟨b, 1, none⟩ = some (.int .i64 m.sy) := hb.cell 1
  have a3 : W.cell? ⟨b, 3, none⟩ = some (.slice A m.rules.length cA) := hb.cell 3
  obtain ⟨Ap, cp, rfl, hl1, hl2⟩ := hpv.form
  obtain ⟨bp, op, rfl, hc⟩ := hpv.at (k := 0) (by simp)
  have e0 := hX.cell (hc 0 (by simp))
  have e1 := hX.cell (hc 1 (by simp))
  have e2 := hX.cell (hc 2 (by simp))
  have e3 := hX.cell (hc 3 (by simp))
  have e4 := hX.cell (hc 4 (by simp))
  simp only [List.getElem_cons_zero, List.getElem_cons_succ, Nat.add_zero] at e0 e1 e2 e3 e4
  obtain ⟨x, hx⟩ : ∃ x, v % m.sy = x := ⟨_, rfl⟩
  have hsy0 : ¬ m.sy = 0 := by omega
  have hxm : v.tmod m.sy = x := by rw [Int.tmod_eq_emod_of_nonneg v0]; exact hx
  have hx0 : 0 ≤ x ∧ x < m.sy := by rw [← hx]; exact ⟨Int.emod_nonneg _ (by omega), Int.emod_lt_of_pos _ (by omega)⟩
  have hgz : w.heap.size ≤ g := by omega
  have HXX := Lib.hid hx
  have hjl : j < m.rules.length := by omega
  have hjr : mrAt m (j : Int) = m.rules[j] := by
    unfold mrAt
    rw [Int.toNat_natCast, List.getD_eq_getElem?_getD, List.getElem?_eq_getElem hjl]
    rfl
  have hr := multi_rule hm hjl
  have hl3 := (mrule_all hr).2.2.2.2.1
  have htl3 : tn < m.rules[j].mv.length := by omega
  have hm0 := (mrule_all hr).2.2.2.2.2.2.2 _ (List.getElem_mem htl3)
  have em : (mrAt m (j : Int)).mv.getD (tn : Int).toNat 0 = m.rules[j].mv[tn] := by rw [hjr, Int.toNat_natCast, List.getD_eq_getElem?_getD, List.getElem?_eq_getElem htl3]; rfl
  obtain ⟨rb, ro, vr, vw, vm, rfl, r0, r1, r2, r3, r4, i1', i2', i3'⟩ := hR.at hjl
  obtain ⟨r, hrk⟩ : ∃ r, m.rules[j] = r := ⟨_, rfl⟩
  simp only [hrk] at r3 i3' hm0 em hl3 htl3
  obtain ⟨A3, k3, rfl, _, _⟩ := id i3'.form
  obtain ⟨gm, om, rfl, cm⟩ := i3'.at htl3
  have cmt := cm tn htl3
  obtain ⟨y, hy⟩ : ∃ y, r.mv[tn] = y := ⟨_, rfl⟩
  rw [hy] at cmt hm0 em
  have hji : (j : Int) < (m.rules.length : Int) := by omega
  have htm : (tn : Int) < (r.mv.length : Int) := by omega
  have hwn : IntKind.i64.wrap (-y) = -y := IntWalk.i64_in _ (by omega)
  have hwc : IntKind.i64.wrap (c - 1) = c - 1 := IntWalk.i64_in _ (by omega)
  have hwt : IntKind.i64.wrap (m.tp - 1) = m.tp - 1 := IntWalk.i64_in _ (by omega)
  have hwx : IntKind.i64.wrap (x + m.sy) = x + m.sy := IntWalk.i64_in _ (by omega)
  have EM : Hid (mvP m ⟨2, (j : Int), (tn : Int), c, 0, 0, 0, d⟩ = y) := Lib.hid em
  clear hrk hy cm i1' i2' i3' r0 r1 r2 r4 hjr hr em hR
  simp only [List.length_cons, List.length_nil]
  clear hpv hc hl1 hl2 hx hb
  go_enter Tryz.func117, Tryz.ntmps117
  go_upto_region 1 with fail
  try rw [← hW]
  try rw [hg]
  clear hW
  by_cases hc : 0 < c
  · have HE : Hid (actW m ⟨2, (j : Int), (tn : Int), c, 0, 0, 0, d⟩ v = ⟨v, -y, ⟨2, (j : Int), (tn : Int), c - 1, 0, 0, 0, d⟩, false⟩) := Lib.hid (by
      have e : actW m ⟨2, (j : Int), (tn : Int), c, 0, 0, 0, d⟩ v = (if 0 < c then ⟨v, -(mvP m ⟨2, (j : Int), (tn : Int), c, 0, 0, 0, d⟩), ⟨2, (j : Int), (tn : Int), c - 1, 0, 0, 0, d⟩, false⟩ else ⟨v, -1, aftP m (j : Int) (tn : Int) d, false⟩) := rfl
      rw [e, if_pos hc, EM.out])
    obtain ⟨V, hV⟩ : ∃ V, V = W.alloc (.cells #[.int .i64 2, .int .i64 (j : Int), .int .i64 (tn : Int), .int .i64 d, .int .i64 (c - 1)] 2) := ⟨_, rfl⟩
    have hXV : Ext W V := by rw [hV]; exact Ext.alloc _ _
    have bL : Blk V (g + 1) 2 (ivs [2, (j : Int), (tn : Int), d, c - 1]).toArray := by rw [hV]; exact Blk.new _ _ _ _ hsW
    have hgl : w.heap.size ≤ g + 1 := by omega
    go_wp2_with fail
    try rw [← hV]
    try rw [hsW]
    clear hV
    refine (goM_c _ _ _ _ _ _).mono ?_
    rintro e w2 ⟨rfl, hx2⟩
    have hX2 := hX.trans (hXV.trans hx2)
    have bZz := bZ.ext (hXV.trans hx2)
    have ou2 : OwnInts w.heap.size w2 (.slice (some ⟨g + 1, 0, none⟩) 5 5) [2, (j : Int), (tn : Int), d, c - 1] := own_ivs (bL.ext hx2) hgl (by simp)
    have z0 := bZz.cell
    have z1 := bZz.frozen
    clear hx2 hXV bL e0 e1 e2 e3 e4 a0 a1 a3 r3 cmt
    go_wp2_with fail
    refine bodyPost_ret (v := .agg #[.bool true, .int .i64 v, .int .i64 (-y), .slice (some ⟨g + 1, 0, none⟩) 5 5]) (by simp [results, Tryz.results117, go_sem, z0]) rfl ?_

    rw [HE.out]
    exact mv_done hX2 bZz hgz (by simp [encM]) ou2 rfl
  · obtain rfl : c = 0 := by omega
    obtain ⟨q, hq⟩ : ∃ q, aftP m (j : Int) (tn : Int) d = q := ⟨_, rfl⟩
    have HE : Hid (actW m ⟨2, (j : Int), (tn : Int), 0, 0, 0, 0, d⟩ v = ⟨v, -1, q, false⟩) := Lib.hid (by rw [← hq]; rfl)
    have AF := afterS_c b m (j : Int) (tn : Int) d W hWv hm (by omega) hj1 (by omega) ht1
    rw [hq] at AF
    clear hq
    go_wp2_with fail
    refine AF.mono ?_
    rintro e w1 ⟨u, rfl, ou, hx1⟩
    obtain ⟨Au, cu, rfl, _, _⟩ := id ou.ints.form
    obtain ⟨L, hL⟩ : ∃ L, (encM m q).length = L := ⟨_, rfl⟩
    rw [hL] at ou ⊢
    have HL := Lib.hid hL
    clear hL AF
    go_wp2_with fail
    refine (goM_c _ _ _ _ _ _).mono ?_
    rintro e w2 ⟨rfl, hx2⟩
    have hX2 := hX.trans (hx1.trans hx2)
    have bZz := bZ.ext (hx1.trans hx2)
    have ou2 : OwnInts w.heap.size w2 (.slice Au L cu) (encM m q) := OwnInts.ext (ownsRow_base ou hX.size) hx2
    have z0 := bZz.cell
    have z1 := bZz.frozen
    clear ou hx1 hx2 e0 e1 e2 e3 e4 a0 a1 a3 r3 cmt
    go_wp2_with fail
    refine bodyPost_ret (v := .agg #[.bool true, .int .i64 v, .int .i64 (-1), .slice Au L cu]) (by simp [results, Tryz.results117, go_sem, z0]) rfl ?_

    rw [HE.out]
    exact mv_done hX2 bZz hgz rfl ou2 HL.out.symm
end Go.Proofs.YtfghojbbofobeaaGreatDoor
end
section
set_option linter.unusedVariables false
set_option linter.unusedSimpArgs false
namespace Go.Proofs.YtfghojbbofobeaaGreatDoor
open Go Go.RowKit Go.Proofs
set_option maxHeartbeats 400000
theorem l06Row_c (v : Value) (xs : List Int) (tp lo hi : Int) (w : World) (h : Ints w v xs) :
    Calls Tryz.prog 46 #[v, .int .i64 tp, .int .i64 lo, .int .i64 hi] w fun e w' => e = .returned (.bool (decide ((xs.length : Int) = tp) && xs.all fun z => inB z lo hi)) ∧ w = w' := by
  obtain ⟨A, c, rfl, h1, h2⟩ := h.form
  by_cases hn : (xs.length : Int) = tp
  · have hne : ((xs.length : Int) != tp) = false := by simp [hn]
    rw [decide_eq_true hn]
    clear hn
    go_enter Tryz.func46, Tryz.ntmps46
    go_wp2_with fail
    go_loopw [9] (fun i wr => ∃ k : Nat, k ≤ xs.length ∧ i = .int .i64 (k : Int) ∧ wr = w ∧ allTo (fun z => inB z lo hi) xs k) (fun i _ => xs.length - (intOf i).toNat)
    case atStart => exact ⟨0, Nat.zero_le _, rfl, rfl, rfl⟩
    case round =>
      obtain ⟨k, hk, rfl, rfl, ht⟩ := hrel
      by_cases hlt : k < xs.length
      · obtain ⟨b, off, rfl, hc⟩ := h.at hlt
        have c0 := hc k hlt
        have LI := l00In_c xs[k] lo hi wr
        have HNX : Hid (inB xs[k] lo hi = true → allTo (fun z => inB z lo hi) xs (k + 1)) := Lib.hid fun hb => by
          unfold allTo at ht ⊢
          rw [List.take_succ_eq_append_getElem hlt, List.all_append, ht]
          simp [hb]
        have HNO : Hid (inB xs[k] lo hi = false → (xs.all fun z => inB z lo hi) = false) := Lib.hid fun hb => all_no hlt hb
        generalize xs[k] = z at *
        generalize inB z lo hi = b at *
        cases b with
        | true =>
          have HN := Lib.hid (HNX.out rfl)
          clear hc ht HNX HNO
          go_wp2_with fail
          refine LI.mono ?_
          rintro e _ ⟨rfl, rfl⟩
          go_wp2_with fail
          go_roundw
          case rel => exact ⟨k + 1, by omega, by go_num, by first | rfl | trivial, HN.out⟩
          case measure => simp [intOf]; omega
        | false =>
          have HN := Lib.hid (HNO.out rfl)
          clear hc ht HNX HNO
          go_wp2_with fail
          refine LI.mono ?_
          rintro e _ ⟨rfl, rfl⟩
          go_wp2_with fail
          go_ret
          exact ⟨by rw [HN.out]; rfl, rfl⟩
      · obtain rfl : k = xs.length := by omega
        have HN : Hid ((xs.all fun z => inB z lo hi) = true) := Lib.hid (by
          unfold allTo at ht
          rwa [List.take_length] at ht)
        clear ht
        go_wp2_with fail
        go_ret
        exact ⟨by rw [HN.out]; rfl, rfl⟩
  · have hne : ((xs.length : Int) != tp) = true := by simp [hn]
    rw [decide_eq_false hn]
    clear hn
    go_enter Tryz.func46, Tryz.ntmps46
    go_wp2_with fail
    go_ret
    exact ⟨rfl, rfl⟩
theorem l01Compare_c (w : World) (u v : Value) (xs ys : List Int) (ha : Ints w u xs) (hb : Ints w v ys) :
    Calls Tryz.prog 81 #[u, v] w fun e w' => e = .returned (.int .i64 (cmpL xs ys)) ∧ Ext w w' := by
  obtain ⟨A, c, rfl, g1, g2⟩ := ha.form
  obtain ⟨B, d, rfl, g3, g4⟩ := hb.form
  go_enter Tryz.func81, Tryz.ntmps81
  go_wp2_with fail
  go_loopw [5] (fun i wr => ∃ k : Nat, k ≤ xs.length ∧ k ≤ ys.length ∧ i = .int .i64 (k : Int) ∧ Ext w wr ∧ Hid (cmpL (xs.drop k) (ys.drop k) = cmpL xs ys)) (fun i _ => xs.length - (intOf i).toNat)
  case atStart => exact ⟨0, Nat.zero_le _, Nat.zero_le _, rfl, Ext.refl _, rfl⟩
  case round =>
    obtain ⟨k, hk1, hk2, rfl, hx, HD⟩ := hrel
    by_cases h1 : k < xs.length
    · by_cases h2 : k < ys.length
      · obtain ⟨b1, o1, rfl, hc1⟩ := (ha.ext hx).at h1
        obtain ⟨b2, o2, rfl, hc2⟩ := (hb.ext hx).at h2
        have c1 := hc1 k h1
        have c2 := hc2 k h2
        have HS : Hid (cmpL xs ys = if xs[k] < ys[k] then -1 else if ys[k] < xs[k] then 1 else cmpL (xs.drop (k + 1)) (ys.drop (k + 1))) := by
          unfold Hid
          rw [← HD.out, cmpL_drop h1 h2]
        generalize xs[k] = x at *
        generalize ys[k] = y at *
        clear hc1 hc2
        have q1 := cellR c1
        have q2 := cellR c2
        by_cases h3 : x < y
        · have HT : Hid (cmpL xs ys = -1) := by unfold Hid; rw [HS.out, if_pos h3]
          go_wp2_with fail
          refine wp_region_ext (by kernel_rfl) (by kernel_rfl) ?_
          repeat (go_big_quiet_step (fail))
          refine wpQuiet_nil ?_
          intro w2 hx2
          go_wp2_with fail
          go_ret
          exact ⟨by rw [HT.out]; rfl, hx.trans hx2⟩
        · by_cases h4 : y < x
          · have HT : Hid (cmpL xs ys = 1) := by unfold Hid; rw [HS.out, if_neg h3, if_pos h4]
            go_wp2_with fail
            refine wp_region_ext (by kernel_rfl) (by kernel_rfl) ?_
            repeat (go_big_quiet_step (fail))
            refine wpQuiet_nil ?_
            intro w2 hx2
            have r1 := cellR (hx2.cell c1)
            have r2 := cellR (hx2.cell c2)
            clear q1 q2
            go_wp2_with fail
            refine wp_region_ext (by kernel_rfl) (by kernel_rfl) ?_
            repeat (go_big_quiet_step (fail))
            refine wpQuiet_nil ?_
            intro w3 hx3
            go_wp2_with fail
            go_ret
            exact ⟨by rw [HT.out]; rfl, (hx.trans hx2).trans hx3⟩
          · have HT : Hid (cmpL (xs.drop (k + 1)) (ys.drop (k + 1)) = cmpL xs ys) := by unfold Hid; rw [HS.out, if_neg h3, if_neg h4]
            go_wp2_with fail
            refine wp_region_ext (by kernel_rfl) (by kernel_rfl) ?_
            repeat (go_big_quiet_step (fail))
            refine wpQuiet_nil ?_
            intro w2 hx2
            have r1 := cellR (hx2.cell c1)
            have r2 := cellR (hx2.cell c2)
            clear q1 q2
            go_wp2_with fail
            refine wp_region_ext (by kernel_rfl) (by kernel_rfl) ?_
            repeat (go_big_quiet_step (fail))
            refine wpQuiet_nil ?_
            intro w3 hx3
            go_wp2_with fail
            go_roundw
            case rel => exact ⟨k + 1, by omega, by omega, by go_num, (hx.trans hx2).trans hx3, HT.out⟩
            case measure => simp [intOf]; omega
      · obtain rfl : k = ys.length := by omega
        have HS : Hid (cmpL xs ys = 1) := by unfold Hid; rw [← HD.out, cmpL_out h1 (Nat.le_refl _)]
        go_wp2_with fail
        go_ret
        exact ⟨by rw [HS.out]; rfl, hx⟩
    · obtain rfl : k = xs.length := by omega
      have HS : Hid (cmpL xs ys = if xs.length < ys.length then -1 else 0) := by unfold Hid; rw [← HD.out, cmpL_end (Nat.le_refl _)]
      by_cases h3 : xs.length < ys.length
      · have HT : Hid (cmpL xs ys = -1) := by unfold Hid; rw [HS.out, if_pos h3]
        go_wp2_with fail
        go_ret
        exact ⟨by rw [HT.out]; rfl, hx⟩
      · have HT : Hid (cmpL xs ys = 0) := by unfold Hid; rw [HS.out, if_neg h3]
        have h4 : ys.length = xs.length := by omega
        go_wp2_with fail
        go_ret
        exact ⟨by rw [HT.out]; rfl, hx⟩
theorem l06Side_c (v : Value) (xs : List Int) (sy : Int) (w : World) (h : Ints w v xs) (s1 : 1 ≤ sy) (s2 : sy ≤ 1000000) :
    Calls Tryz.prog 86 #[v, .int .i64 sy] w fun e w' => e = .returned (.bool (sideOk xs sy 200)) ∧ w = w' := by
  obtain ⟨A, c, rfl, h1, h2⟩ := h.form
  have hw : IntKind.i64.wrap (sy - 1) = sy - 1 := IntWalk.i64_in _ (by omega)
  by_cases hn : xs.length ≤ 200
  · have hne : ¬ (200 : Int) < (xs.length : Int) := by omega
    have HS : Hid (sideOk xs sy 200 = ((xs.all fun z => inB z 0 (sy - 1)) && (((xs.length : Int) == 0) || xs.getLastD 0 != 0))) := by
      unfold Hid sideOk
      rw [decide_eq_true (by omega), Bool.true_and]
    rw [HS.out]
    go_enter Tryz.func86, Tryz.ntmps86
    go_wp2_with fail
    go_loopw [5] (fun i wr => ∃ k : Nat, k ≤ xs.length ∧ i = .int .i64 (k : Int) ∧ wr = w ∧ allTo (fun z => inB z 0 (sy - 1)) xs k) (fun i _ => xs.length - (intOf i).toNat)
    case atStart => exact ⟨0, Nat.zero_le _, rfl, rfl, rfl⟩
    case round =>
      obtain ⟨k, hk, rfl, rfl, ht⟩ := hrel
      by_cases hlt : k < xs.length
      · obtain ⟨b, off, rfl, hc⟩ := h.at hlt
        have c0 := hc k hlt
        have LI := l00In_c xs[k] 0 (sy - 1) wr
        have HNX : Hid (inB xs[k] 0 (sy - 1) = true → allTo (fun z => inB z 0 (sy - 1)) xs (k + 1)) := Lib.hid fun hb => by
          unfold allTo at ht ⊢
          rw [List.take_succ_eq_append_getElem hlt, List.all_append, ht]
          simp [hb]
        have HNO : Hid (inB xs[k] 0 (sy - 1) = false → (xs.all fun z => inB z 0 (sy - 1)) = false) := Lib.hid fun hb => all_no hlt hb
        generalize xs[k] = z at *
        generalize inB z 0 (sy - 1) = b at *
        cases b with
        | true =>
          have HN := Lib.hid (HNX.out rfl)
          clear hc ht HNX HNO
          go_wp2_with fail
          refine LI.mono ?_
          rintro e _ ⟨rfl, rfl⟩
          go_wp2_with fail
          go_roundw
          case rel => exact ⟨k + 1, by omega, by go_num, by first | rfl | trivial, HN.out⟩
          case measure => simp [intOf]; omega
        | false =>
          have HN := Lib.hid (HNO.out rfl)
          clear hc ht HNX HNO
          go_wp2_with fail
          refine LI.mono ?_
          rintro e _ ⟨rfl, rfl⟩
          go_wp2_with fail
          go_ret
          exact ⟨by rw [HN.out]; rfl, rfl⟩
      · obtain rfl : k = xs.length := by omega
        have HN : Hid ((xs.all fun z => inB z 0 (sy - 1)) = true) := Lib.hid (by
          unfold allTo at ht
          rwa [List.take_length] at ht)
        clear ht
        by_cases h0 : xs.length = 0
        · have hb0 : ((xs.length : Int) == 0) = true := by simp [h0]
          go_wp2_with fail
          go_ret
          exact ⟨by rw [HN.out]; simp [h0], rfl⟩
        · have hb0 : ((xs.length : Int) == 0) = false := by simp [h0]
          have hp : 0 < xs.length := by omega
          obtain ⟨b, off, rfl, hc⟩ := h.at (k := xs.length - 1) (by omega)
          have c0 := hc (xs.length - 1) (by omega)
          have HL : Hid (xs.getLastD 0 = xs[xs.length - 1]) := lastD_get hp
          have hi1 : (((xs.length : Int) - 1)).toNat = xs.length - 1 := by omega
          have hw1 : IntKind.i64.wrap ((xs.length : Int) - 1) = (xs.length : Int) - 1 := IntWalk.i64_in _ (by omega)
          generalize xs[xs.length - 1] = z at *
          clear hc
          go_wp2_with fail
          go_ret
          exact ⟨by rw [HN.out, HL.out]; simp [h0], rfl⟩
  · have hne : (200 : Int) < (xs.length : Int) := by omega
    have HS : Hid (sideOk xs sy 200 = false) := by
      unfold Hid sideOk
      rw [decide_eq_false (by omega), Bool.false_and, Bool.false_and]
    rw [HS.out]
    go_enter Tryz.func86, Tryz.ntmps86
    go_wp2_with fail
    go_ret
    exact ⟨rfl, rfl⟩
end Go.Proofs.YtfghojbbofobeaaGreatDoor
end
section
set_option linter.unusedVariables false
set_option linter.unusedSimpArgs false
namespace Go.Proofs.YtfghojbbofobeaaGreatDoor
open Go Go.RowKit Go.Proofs Go.Maps
set_option maxHeartbeats 400000
/-- Tapes in memory. -/
def Tapes (w : World) (v : Value) (ts : List TapeD) : Prop :=
  ∃ A c, v = .slice A ts.length c ∧ ts.length ≤ c ∧ c ≤ 9223372036854775807 ∧ (0 < ts.length → ∃ b off, A = some ⟨b, off, none⟩ ∧ ∀ i, (h : i < ts.length) → ∃ vl vr,
    w.cell? ⟨b, off + i * 2, none⟩ = some vl ∧ w.cell? ⟨b, off + i * 2 + 1, none⟩ = some vr ∧ Ints w vl ts[i].l ∧ Ints w vr ts[i].r)
theorem Tapes.ext {w w' : World} {v : Value} {ts : List TapeD} (h : Tapes w v ts) (he : Ext w w') : Tapes w' v ts := by
  obtain ⟨A, c, rfl, h1, h2, h3⟩ := h
  refine ⟨A, c, rfl, h1, h2, fun hn => ?_⟩
  obtain ⟨b, off, e, hc⟩ := h3 hn
  refine ⟨b, off, e, fun i hi => ?_⟩
  obtain ⟨vl, vr, c0, c1, i1, i2⟩ := hc i hi
  exact ⟨vl, vr, he.cell c0, he.cell c1, i1.ext he, i2.ext he⟩
theorem Tapes.form {w : World} {v : Value} {ts : List TapeD} (h : Tapes w v ts) : ∃ A c, v = .slice A ts.length c ∧ ts.length ≤ c ∧ c ≤ 9223372036854775807 := by
  obtain ⟨A, c, e, h1, h2, _⟩ := h
  exact ⟨A, c, e, h1, h2⟩
theorem Tapes.at {w : World} {A : Option Addr} {c : Nat} {ts : List TapeD} (h : Tapes w (.slice A ts.length c) ts) {i : Nat} (hi : i < ts.length) : ∃ b off vl vr, A = some ⟨b, off, none⟩ ∧
    w.cell? ⟨b, off + i * 2, none⟩ = some vl ∧ w.cell? ⟨b, off + i * 2 + 1, none⟩ = some vr ∧ Ints w vl ts[i].l ∧ Ints w vr ts[i].r := by
  obtain ⟨A', c', e, _, _, h3⟩ := h
  injection e with e1 _ _
  subst e1
  obtain ⟨b, off, e, hc⟩ := h3 (by omega)
  obtain ⟨vl, vr, hh⟩ := hc i hi
  exact ⟨b, off, vl, vr, e, hh⟩
end Go.Proofs.YtfghojbbofobeaaGreatDoor
end
