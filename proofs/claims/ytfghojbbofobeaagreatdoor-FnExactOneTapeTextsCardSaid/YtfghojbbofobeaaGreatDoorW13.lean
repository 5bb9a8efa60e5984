/- Contract of what the program's machine with one tape puts under the head of a tape.
A block that is known whole, as a full row. No condition.
Contracts of the leaves of the reference's machine with one tape for several. The machine with several tapes is valid. -/
import Derived.Test.YtfghojbbofobeaaGreatDoorW12
import Derived.Test.YtfghojbbofobeaaGreatDoorW09
import Derived.Test.YtfghojbbofobeaaGreatDoorW10
import Derived.Maps.AppendAt
section
set_option linter.unusedSimpArgs false
set_option linter.unusedVariables false
namespace Go.Proofs.YtfghojbbofobeaaGreatDoor
open Go Go.RowKit Go.Proofs Go.Maps
set_option maxHeartbeats 400000
theorem or_bits {d : Int} (h0 : 0 ≤ d) (h7 : d ≤ 7) : bits .or .i64 d 1 = orB d 0 ∧ bits .or .i64 d 2 = orB d 1 ∧ bits .or .i64 d 4 = orB d 2 := by
  have h : d = 0 ∨ d = 1 ∨ d = 2 ∨ d = 3 ∨ d = 4 ∨ d = 5 ∨ d = 6 ∨ d = 7 := by omega
  rcases h with rfl | rfl | rfl | rfl | rfl | rfl | rfl | rfl <;> decide
set_option maxRecDepth 20000 in
set_option maxHeartbeats 4000000 in
theorem put_c (b : Nat) (m : MultiD) (i t d : Int) (w : World) (h : Weav w b m) (hm : multiOk m = true) (i0 : 0 ≤ i) (i1 : i < m.rules.length) (t0 : 0 ≤ t) (t1 : t < m.tp) (d0 : 0 ≤ d) (d7 : d ≤ 7) :
    Calls Tryz.prog 103 #[.pointer (some ⟨b, 0, none⟩), .int .i64 i, .int .i64 t, .int .i64 d] w fun e w' => e = .returned (ActM (putP m i t d)) ∧ Ext w w' := by
  obtain ⟨⟨tp1, tp2⟩, ⟨y1, y2⟩, _⟩ := multi_all hm
  have hod := orB_le (t := t) d0 d7
  have AF := fun W (hw : Weav W b m) => after_c b m i t (orB d t) W hw hm i0 i1 t0 t1
  obtain ⟨j, rfl, hj, hme, hr⟩ := mrAt_ok hm i0 i1
  obtain ⟨_, _, hl1, hl2, hl3, p1, p2, p3⟩ := mrule_all hr
  obtain ⟨A, cA, bm, hb, hR, _⟩ := id h
  obtain ⟨rb, ro, vr, vw, vm, rfl, c0, c1, c2, c3, c4, i1', i2', i3'⟩ := hR.at hj
  obtain ⟨tn, htn⟩ : ∃ n : Nat, t = (n : Int) := ⟨t.toNat, by omega⟩
  have htl2 : tn < m.rules[j].wr.length := by omega
  have htl3 : tn < m.rules[j].mv.length := by omega
  have hw0 := p2 _ (List.getElem_mem htl2)
  have hm0 := p3 _ (List.getElem_mem htl3)
  have ew : (mrAt m (j : Int)).wr.getD t.toNat 0 = m.rules[j].wr[tn] := by rw [hme, htn, Int.toNat_natCast, List.getD_eq_getElem?_getD, List.getElem?_eq_getElem htl2]; rfl
  have em : (mrAt m (j : Int)).mv.getD t.toNat 0 = m.rules[j].mv[tn] := by rw [hme, htn, Int.toNat_natCast, List.getD_eq_getElem?_getD, List.getElem?_eq_getElem htl3]; rfl
  have HE : Hid (putP m (j : Int) t d = if m.rules[j].mv[tn] = 0 then ⟨m.rules[j].wr[tn] + m.sy, -1, aftP m (j : Int) t (orB d t), false⟩ else ⟨m.rules[j].wr[tn], m.rules[j].mv[tn], ⟨1, (j : Int), t, m.tp - 1, 0, 0, 0, orB d t⟩, false⟩) := Lib.hid (by unfold putP; rw [ew, em])
  obtain ⟨r, hrk⟩ : ∃ r, m.rules[j] = r := ⟨_, rfl⟩
  simp only [hrk] at c0 c4 i1' i2' i3' hw0 hm0 HE hl1 hl2 hl3 htl2 htl3
  obtain ⟨A1, k1, rfl, _, _⟩ := id i1'.form
  obtain ⟨A2, k2, rfl, _, _⟩ := id i2'.form
  obtain ⟨A3, k3, rfl, _, _⟩ := id i3'.form
  obtain ⟨gw, ow, rfl, cw⟩ := i2'.at htl2
  obtain ⟨gm, om, rfl, cm⟩ := i3'.at htl3
  have cwt := cw tn htl2
  have cmt := cm tn htl3
  obtain ⟨x, hx⟩ : ∃ x, r.wr[tn] = x := ⟨_, rfl⟩
  obtain ⟨y, hy⟩ : ∃ y, r.mv[tn] = y := ⟨_, rfl⟩
  rw [hx] at cwt hw0 HE
  rw [hy] at cmt hm0 HE
  obtain ⟨g, hg⟩ : ∃ g, w.heap.size = g := ⟨_, rfl⟩
  obtain ⟨V, hV⟩ : ∃ W, W = w.alloc (.cells #[.int .i64 0, .int .i64 0, .int .i64 0, .int .i64 0, .int .i64 0, .int .i64 0, .int .i64 0, .int .i64 0, .int .i64 0, .int .i64 0, .bool false] 164) := ⟨_, rfl⟩
  obtain ⟨W, hW⟩ : ∃ W, W = V.alloc (.cells #[.int .i64 r.st, .slice A1 r.rd.length k1, .slice (some ⟨gw, ow, none⟩) r.wr.length k2, .slice (some ⟨gm, om, none⟩) r.mv.length k3, .int .i64 r.nx] 101) := ⟨_, rfl⟩
  have hXV : Ext w V := by rw [hV]; exact Ext.alloc _ _
  have hsV : V.heap.size = g + 1 := by rw [hV]; simp [hg]
  have hXVW : Ext V W := by rw [hW]; exact Ext.alloc _ _
  have hX : Ext w W := hXV.trans hXVW
  have bZ : Blk W g 164 #[.int .i64 0, .int .i64 0, .int .i64 0, .int .i64 0, .int .i64 0, .int .i64 0, .int .i64 0, .int .i64 0, .int .i64 0, .int .i64 0, .bool false] := Blk.ext (by rw [hV]; exact Blk.new _ _ _ _ hg) hXVW
  have bR : Blk W (g + 1) 101 #[.int .i64 r.st, .slice A1 r.rd.length k1, .slice (some ⟨gw, ow, none⟩) r.wr.length k2, .slice (some ⟨gm, om, none⟩) r.mv.length k3, .int .i64 r.nx] := by rw [hW]; exact Blk.new _ _ _ _ hsV
  have a3 : V.cell? ⟨b, 3, none⟩ = some (.slice (some ⟨rb, ro, none⟩) m.rules.length cA) := (hb.ext hXV).cell 3
  have c0 := hXV.cell c0
  have c1 := hXV.cell c1
  have c2 := hXV.cell c2
  have c3 := hXV.cell c3
  have c4 := hXV.cell c4
  have hji : (j : Int) < (m.rules.length : Int) := by omega
  have hWv := Lib.hid (h.ext hX)
  have q2 : W.cell? ⟨g + 1, 2, none⟩ = some (.slice (some ⟨gw, ow, none⟩) r.wr.length k2) := bR.cell 2
  have q3 : W.cell? ⟨g + 1, 3, none⟩ = some (.slice (some ⟨gm, om, none⟩) r.mv.length k3) := bR.cell 3
  have cwt := hX.cell cwt
  have cmt := hX.cell cmt
  have A0 : W.cell? ⟨b, 0, none⟩ = some (.int .i64 m.tp) := (hb.ext hX).cell 0
  have A1' : W.cell? ⟨b, 1, none⟩ = some (.int .i64 m.sy) := (hb.ext hX).cell 1
  have htw : (tn : Int) < (r.wr.length : Int) := by omega
  have htm : (tn : Int) < (r.mv.length : Int) := by omega
  go_enter Tryz.func103, Tryz.ntmps103
  go_upto_region 1 with fail
  try rw [← hV]
  try rw [hg]
  clear hV
  go_upto_region 2 with fail
  try rw [← hW]
  try rw [hsV]
  have hszW : W.heap.size = V.heap.size + 1 := by rw [hW]; simp
  clear hW c0 c1 c2 c3 c4 a3
  clear hrk hx hy cw cm i1' i2' i3' hme hr ew em
  have ht3 : t = 0 ∨ t = 1 ∨ t = 2 := by omega
  rcases ht3 with rfl | rfl | rfl
  · obtain rfl : tn = 0 := by omega
    have hob := (or_bits d0 d7).1
    have HE2 := HE
    clear HE htn
    go_upto_region 3 with fail
    try rw [hob]
    obtain ⟨o, ho⟩ : ∃ o, orB d 0 = o := ⟨_, rfl⟩
    rw [ho] at HE2 AF ⊢
    clear ho hob
    try simp only [Nat.add_zero] at cwt cmt
    by_cases hy0 : y = 0
    · have hyb : (y == 0) = true := by simp [hy0]
      have HE3 : Hid (putP m (j : Int) 0 d = ⟨x + m.sy, -1, aftP m (j : Int) 0 o, false⟩) := Lib.hid (by rw [HE2.out, if_pos hy0])
      have hwx : IntKind.i64.wrap (x + m.sy) = x + m.sy := IntWalk.i64_in _ (by omega)
      clear HE2 hy0
      go_upto_region 4 with fail
      have zD := Ext.drew W
      have y2 : W.drew.cell? ⟨g + 1, 2, none⟩ = some (.slice (some ⟨gw, ow, none⟩) r.wr.length k2) := q2
      have y1' : W.drew.cell? ⟨b, 1, none⟩ = some (.int .i64 m.sy) := A1'
      have yw := zD.cell cwt
      refine wp_region_ordT 16 (readsT [0, 1, 2, 3, 4, 5, 6, 7, 8, 9, 10, 11, 12, 13, 14] (.stir 15 .done)) (by kernel_rfl) (by kernel_rfl) (fun _ _ _ _ _ h => h) ?_
      simp only [readsT]
      iterate 15 (refine wpOrdT_read (v := ?_) (by rfl) (Or.inl ⟨by rfl, fun x hx => ?_⟩) ?_; rotate_left; (· have uy2 := hx.cell y2; have uy1' := hx.cell y1'; have uyw := hx.cell yw; go_simp; try with_reducible rfl); try simp only [Act.put, List.setIfInBounds_toArray, List.set_cons_zero, List.set_cons_succ])
      refine wpOrdT_stir (by rfl) (fun K hK => ?_)
      go_simp
      go_at_call 105
      refine (AF _ (hWv.out.ext zD)).mono ?_
      rintro e w1 ⟨rfl, hx1⟩
      refine hK _ _ hx1 ?_
      clear hK K AF
      try simp only [Act.put, List.setIfInBounds_toArray, List.set_cons_zero, List.set_cons_succ]
      refine wpOrdT_done ?_
      try simp only [List.drop_succ_cons, List.drop_zero]
      obtain ⟨q, hq⟩ : ∃ q, aftP m (j : Int) 0 o = q := ⟨_, rfl⟩
      rw [hq] at HE3 ⊢
      clear hq
      have hX1 := hX.trans (zD.trans hx1)
      have z0 := (bZ.ext (zD.trans hx1)).cell
      have z1 := (bZ.ext (zD.trans hx1)).frozen
      have hw : w.heap.size ≤ g := by omega
      simp only [MP.v]
      clear y2 y1' yw q2 q3 cwt cmt A0 A1' zD hx1
      go_wp2_with fail
      refine bodyPost_ret (v := ActM ⟨x + m.sy, -1, q, false⟩) (by simp [results, Tryz.results103, go_sem, z0, ActM]) rfl ?_
      exact ⟨by rw [HE3.out], by repeat (first | with_reducible exact hX1 | refine Ext.setCell ?_ hw _)⟩
    · have hyb : (y == 0) = false := by simp [hy0]
      have HE3 : Hid (putP m (j : Int) 0 d = ⟨x, y, ⟨1, (j : Int), 0, m.tp - 1, 0, 0, 0, o⟩, false⟩) := Lib.hid (by rw [HE2.out, if_neg hy0])
      have hwt : IntKind.i64.wrap (m.tp - 1) = m.tp - 1 := IntWalk.i64_in _ (by omega)
      clear HE2 hy0 AF
      obtain ⟨U, hU⟩ : ∃ U, U = W.alloc (.cells #[.int .i64 1, .int .i64 (j : Int), .int .i64 0, .int .i64 (m.tp - 1), .int .i64 0, .int .i64 0, .int .i64 0, .int .i64 o] 88) := ⟨_, rfl⟩
      have hXU : Ext W U := by rw [hU]; exact Ext.alloc _ _
      have hsW : W.heap.size = g + 1 + 1 := by rw [hszW, hsV]
      have bP : Blk U (g + 1 + 1) 88 #[.int .i64 1, .int .i64 (j : Int), .int .i64 0, .int .i64 (m.tp - 1), .int .i64 0, .int .i64 0, .int .i64 0, .int .i64 o] := by rw [hU]; exact Blk.new _ _ _ _ hsW
      go_upto_region 6 with fail
      try rw [← hU]
      try rw [hsW]
      clear hU
      have zD := Ext.drew U
      have zU := hXU.trans zD
      have y2 := zU.cell q2
      have y3 := zU.cell q3
      have yw := zU.cell cwt
      have ym := zU.cell cmt
      have v0 : U.drew.cell? ⟨g + 1 + 1, 0, none⟩ = some (.int .i64 1) := bP.cell 0
      have v1 : U.drew.cell? ⟨g + 1 + 1, 1, none⟩ = some (.int .i64 (j : Int)) := bP.cell 1
      have v2 : U.drew.cell? ⟨g + 1 + 1, 2, none⟩ = some (.int .i64 0) := bP.cell 2
      have v3 : U.drew.cell? ⟨g + 1 + 1, 3, none⟩ = some (.int .i64 (m.tp - 1)) := bP.cell 3
      have v4 : U.drew.cell? ⟨g + 1 + 1, 4, none⟩ = some (.int .i64 0) := bP.cell 4
      have v5 : U.drew.cell? ⟨g + 1 + 1, 5, none⟩ = some (.int .i64 0) := bP.cell 5
      have v6 : U.drew.cell? ⟨g + 1 + 1, 6, none⟩ = some (.int .i64 0) := bP.cell 6
      have v7 : U.drew.cell? ⟨g + 1 + 1, 7, none⟩ = some (.int .i64 o) := bP.cell 7
      refine wp_region_ordT 11 (readsT [0, 1, 2, 3, 4, 5, 6, 7, 8, 9, 10] .done) (by kernel_rfl) (by kernel_rfl) (fun _ _ _ _ _ h => h) ?_
      simp only [readsT]
      iterate 11 (refine wpOrdT_read (v := ?_) (by rfl) (Or.inl ⟨by rfl, fun x hx => ?_⟩) ?_; rotate_left; (· have uy2 := hx.cell y2; have uy3 := hx.cell y3; have uyw := hx.cell yw; have uym := hx.cell ym; have uv0 := hx.cell v0; have uv1 := hx.cell v1; have uv2 := hx.cell v2; have uv3 := hx.cell v3; have uv4 := hx.cell v4; have uv5 := hx.cell v5; have uv6 := hx.cell v6; have uv7 := hx.cell v7; go_simp; try with_reducible rfl); try simp only [Act.put, List.setIfInBounds_toArray, List.set_cons_zero, List.set_cons_succ])
      refine wpOrdT_done ?_
      try simp only [List.drop_succ_cons, List.drop_zero]
      have hX1 := hX.trans zU
      have bZU := bZ.ext zU
      have hw : w.heap.size ≤ g := by omega
      clear y2 y3 yw ym v0 v1 v2 v3 v4 v5 v6 v7 q2 q3 cwt cmt A0 A1' zD zU hXU
      change wpList _ _ _ _ _ U.drew
      generalize U.drew = Y at *
      have z0 := bZU.cell
      have z1 := bZU.frozen
      go_wp2_with fail
      refine bodyPost_ret (v := ActM ⟨x, y, ⟨1, (j : Int), 0, m.tp - 1, 0, 0, 0, o⟩, false⟩) (by simp [results, Tryz.results103, go_sem, z0, ActM]) rfl ?_
      exact ⟨by rw [HE3.out], by repeat (first | with_reducible exact hX1 | refine Ext.setCell ?_ hw _)⟩
  · obtain rfl : tn = 1 := by omega
    have hob := (or_bits d0 d7).2.1
    have HE2 := HE
    clear HE htn
    go_upto_region 3 with fail
    try rw [hob]
    obtain ⟨o, ho⟩ : ∃ o, orB d 1 = o := ⟨_, rfl⟩
    rw [ho] at HE2 AF ⊢
    clear ho hob
    try simp only [Nat.add_zero] at cwt cmt
    by_cases hy0 : y = 0
    · have hyb : (y == 0) = true := by simp [hy0]
      have HE3 : Hid (putP m (j : Int) 1 d = ⟨x + m.sy, -1, aftP m (j : Int) 1 o, false⟩) := Lib.hid (by rw [HE2.out, if_pos hy0])
      have hwx : IntKind.i64.wrap (x + m.sy) = x + m.sy := IntWalk.i64_in _ (by omega)
      clear HE2 hy0
      go_upto_region 4 with fail
      have zD := Ext.drew W
      have y2 : W.drew.cell? ⟨g + 1, 2, none⟩ = some (.slice (some ⟨gw, ow, none⟩) r.wr.length k2) := q2
      have y1' : W.drew.cell? ⟨b, 1, none⟩ = some (.int .i64 m.sy) := A1'
      have yw := zD.cell cwt
      refine wp_region_ordT 16 (readsT [0, 1, 2, 3, 4, 5, 6, 7, 8, 9, 10, 11, 12, 13, 14] (.stir 15 .done)) (by kernel_rfl) (by kernel_rfl) (fun _ _ _ _ _ h => h) ?_
      simp only [readsT]
      iterate 15 (refine wpOrdT_read (v := ?_) (by rfl) (Or.inl ⟨by rfl, fun x hx => ?_⟩) ?_; rotate_left; (· have uy2 := hx.cell y2; have uy1' := hx.cell y1'; have uyw := hx.cell yw; go_simp; try with_reducible rfl); try simp only [Act.put, List.setIfInBounds_toArray, List.set_cons_zero, List.set_cons_succ])
      refine wpOrdT_stir (by rfl) (fun K hK => ?_)
      go_simp
      go_at_call 105
      refine (AF _ (hWv.out.ext zD)).mono ?_
      rintro e w1 ⟨rfl, hx1⟩
      refine hK _ _ hx1 ?_
      clear hK K AF
      try simp only [Act.put, List.setIfInBounds_toArray, List.set_cons_zero, List.set_cons_succ]
      refine wpOrdT_done ?_
      try simp only [List.drop_succ_cons, List.drop_zero]
      obtain ⟨q, hq⟩ : ∃ q, aftP m (j : Int) 1 o = q := ⟨_, rfl⟩
      rw [hq] at HE3 ⊢
      clear hq
      have hX1 := hX.trans (zD.trans hx1)
      have z0 := (bZ.ext (zD.trans hx1)).cell
      have z1 := (bZ.ext (zD.trans hx1)).frozen
      have hw : w.heap.size ≤ g := by omega
      simp only [MP.v]
      clear y2 y1' yw q2 q3 cwt cmt A0 A1' zD hx1
      go_wp2_with fail
      refine bodyPost_ret (v := ActM ⟨x + m.sy, -1, q, false⟩) (by simp [results, Tryz.results103, go_sem, z0, ActM]) rfl ?_
      exact ⟨by rw [HE3.out], by repeat (first | with_reducible exact hX1 | refine Ext.setCell ?_ hw _)⟩
    · have hyb : (y == 0) = false := by simp [hy0]
      have HE3 : Hid (putP m (j : Int) 1 d = ⟨x, y, ⟨1, (j : Int), 1, m.tp - 1, 0, 0, 0, o⟩, false⟩) := Lib.hid (by rw [HE2.out, if_neg hy0])
      have hwt : IntKind.i64.wrap (m.tp - 1) = m.tp - 1 := IntWalk.i64_in _ (by omega)
      clear HE2 hy0 AF
      obtain ⟨U, hU⟩ : ∃ U, U = W.alloc (.cells #[.int .i64 1, .int .i64 (j : Int), .int .i64 1, .int .i64 (m.tp - 1), .int .i64 0, .int .i64 0, .int .i64 0, .int .i64 o] 88) := ⟨_, rfl⟩
      have hXU : Ext W U := by rw [hU]; exact Ext.alloc _ _
      have hsW : W.heap.size = g + 1 + 1 := by rw [hszW, hsV]
      have bP : Blk U (g + 1 + 1) 88 #[.int .i64 1, .int .i64 (j : Int), .int .i64 1, .int .i64 (m.tp - 1), .int .i64 0, .int .i64 0, .int .i64 0, .int .i64 o] := by rw [hU]; exact Blk.new _ _ _ _ hsW
      go_upto_region 6 with fail
      try rw [← hU]
      try rw [hsW]
      clear hU
      have zD := Ext.drew U
      have zU := hXU.trans zD
      have y2 := zU.cell q2
      have y3 := zU.cell q3
      have yw := zU.cell cwt
      have ym := zU.cell cmt
      have v0 : U.drew.cell? ⟨g + 1 + 1, 0, none⟩ = some (.int .i64 1) := bP.cell 0
      have v1 : U.drew.cell? ⟨g + 1 + 1, 1, none⟩ = some (.int .i64 (j : Int)) := bP.cell 1
      have v2 : U.drew.cell? ⟨g + 1 + 1, 2, none⟩ = some (.int .i64 1) := bP.cell 2
      have v3 : U.drew.cell? ⟨g + 1 + 1, 3, none⟩ = some (.int .i64 (m.tp - 1)) := bP.cell 3
      have v4 : U.drew.cell? ⟨g + 1 + 1, 4, none⟩ = some (.int .i64 0) := bP.cell 4
      have v5 : U.drew.cell? ⟨g + 1 + 1, 5, none⟩ = some (.int .i64 0) := bP.cell 5
      have v6 : U.drew.cell? ⟨g + 1 + 1, 6, none⟩ = some (.int .i64 0) := bP.cell 6
      have v7 : U.drew.cell? ⟨g + 1 + 1, 7, none⟩ = some (.int .i64 o) := bP.cell 7
      refine wp_region_ordT 11 (readsT [0, 1, 2, 3, 4, 5, 6, 7, 8, 9, 10] .done) (by kernel_rfl) (by kernel_rfl) (fun _ _ _ _ _ h => h) ?_
      simp only [readsT]
      iterate 11 (refine wpOrdT_read (v := ?_) (by rfl) (Or.inl ⟨by rfl, fun x hx => ?_⟩) ?_; rotate_left; (· have uy2 := hx.cell y2; have uy3 := hx.cell y3; have uyw := hx.cell yw; have uym := hx.cell ym; have uv0 := hx.cell v0; have uv1 := hx.cell v1; have uv2 := hx.cell v2; have uv3 := hx.cell v3; have uv4 := hx.cell v4; have uv5 := hx.cell v5; have uv6 := hx.cell v6; have uv7 := hx.cell v7; go_simp; try with_reducible rfl); try simp only [Act.put, List.setIfInBounds_toArray, List.set_cons_zero, List.set_cons_succ])
      refine wpOrdT_done ?_
      try simp only [List.drop_succ_cons, List.drop_zero]
      have hX1 := hX.trans zU
      have bZU := bZ.ext zU
      have hw : w.heap.size ≤ g := by omega
      clear y2 y3 yw ym v0 v1 v2 v3 v4 v5 v6 v7 q2 q3 cwt cmt A0 A1' zD zU hXU
      change wpList _ _ _ _ _ U.drew
      generalize U.drew = Y at *
      have z0 := bZU.cell
      have z1 := bZU.frozen
      go_wp2_with fail
      refine bodyPost_ret (v := ActM ⟨x, y, ⟨1, (j : Int), 1, m.tp - 1, 0, 0, 0, o⟩, false⟩) (by simp [results, Tryz.results103, go_sem, z0, ActM]) rfl ?_
      exact ⟨by rw [HE3.out], by repeat (first | with_reducible exact hX1 | refine Ext.setCell ?_ hw _)⟩
  · obtain rfl : tn = 2 := by omega
    have hob := (or_bits d0 d7).2.2
    have HE2 := HE
    clear HE htn
    go_upto_region 3 with fail
    try rw [hob]
    obtain ⟨o, ho⟩ : ∃ o, orB d 2 = o := ⟨_, rfl⟩
    rw [ho] at HE2 AF ⊢
    clear ho hob
    try simp only [Nat.add_zero] at cwt cmt
    by_cases hy0 : y = 0
    · have hyb : (y == 0) = true := by simp [hy0]
      have HE3 : Hid (putP m (j : Int) 2 d = ⟨x + m.sy, -1, aftP m (j : Int) 2 o, false⟩) := Lib.hid (by rw [HE2.out, if_pos hy0])
      have hwx : IntKind.i64.wrap (x + m.sy) = x + m.sy := IntWalk.i64_in _ (by omega)
      clear HE2 hy0
      go_upto_region 4 with fail
      have zD := Ext.drew W
      have y2 : W.drew.cell? ⟨g + 1, 2, none⟩ = some (.slice (some ⟨gw, ow, none⟩) r.wr.length k2) := q2
      have y1' : W.drew.cell? ⟨b, 1, none⟩ = some (.int .i64 m.sy) := A1'
      have yw := zD.cell cwt
      refine wp_region_ordT 16 (readsT [0, 1, 2, 3, 4, 5, 6, 7, 8, 9, 10, 11, 12, 13, 14] (.stir 15 .done)) (by kernel_rfl) (by kernel_rfl) (fun _ _ _ _ _ h => h) ?_
      simp only [readsT]
      iterate 15 (refine wpOrdT_read (v := ?_) (by rfl) (Or.inl ⟨by rfl, fun x hx => ?_⟩) ?_; rotate_left; (· have uy2 := hx.cell y2; have uy1' := hx.cell y1'; have uyw := hx.cell yw; go_simp; try with_reducible rfl); try simp only [Act.put, List.setIfInBounds_toArray, List.set_cons_zero, List.set_cons_succ])
      refine wpOrdT_stir (by rfl) (fun K hK => ?_)
      go_simp
      go_at_call 105
      refine (AF _ (hWv.out.ext zD)).mono ?_
      rintro e w1 ⟨rfl, hx1⟩
      refine hK _ _ hx1 ?_
      clear hK K AF
      try simp only [Act.put, List.setIfInBounds_toArray, List.set_cons_zero, List.set_cons_succ]
      refine wpOrdT_done ?_
      try simp only [List.drop_succ_cons, List.drop_zero]
      obtain ⟨q, hq⟩ : ∃ q, aftP m (j : Int) 2 o = q := ⟨_, rfl⟩
      rw [hq] at HE3 ⊢
      clear hq
      have hX1 := hX.trans (zD.trans hx1)
      have z0 := (bZ.ext (zD.trans hx1)).cell
      have z1 := (bZ.ext (zD.trans hx1)).frozen
      have hw : w.heap.size ≤ g := by omega
      simp only [MP.v]
      clear y2 y1' yw q2 q3 cwt cmt A0 A1' zD hx1
      go_wp2_with fail
      refine bodyPost_ret (v := ActM ⟨x + m.sy, -1, q, false⟩) (by simp [results, Tryz.results103, go_sem, z0, ActM]) rfl ?_
      exact ⟨by rw [HE3.out], by repeat (first | with_reducible exact hX1 | refine Ext.setCell ?_ hw _)⟩
    · have hyb : (y == 0) = false := by simp [hy0]
      have HE3 : Hid (putP m (j : Int) 2 d = ⟨x, y, ⟨1, (j : Int), 2, m.tp - 1, 0, 0, 0, o⟩, false⟩) := Lib.hid (by rw [HE2.out, if_neg hy0])
      have hwt : IntKind.i64.wrap (m.tp - 1) = m.tp - 1 := IntWalk.i64_in _ (by omega)
      clear HE2 hy0 AF
      obtain ⟨U, hU⟩ : ∃ U, U = W.alloc (.cells #[.int .i64 1, .int .i64 (j : Int), .int .i64 2, .int .i64 (m.tp - 1), .int .i64 0, .int .i64 0, .int .i64 0, .int .i64 o] 88) := ⟨_, rfl⟩
      have hXU : Ext W U := by rw [hU]; exact Ext.alloc _ _
      have hsW : W.heap.size = g + 1 + 1 := by rw [hszW, hsV]
      have bP : Blk U (g + 1 + 1) 88 #[.int .i64 1, .int .i64 (j : Int), .int .i64 2, .int .i64 (m.tp - 1), .int .i64 0, .int .i64 0, .int .i64 0, .int .i64 o] := by rw [hU]; exact Blk.new _ _ _ _ hsW
      go_upto_region 6 with fail
      try rw [← hU]
      try rw [hsW]
      clear hU
      have zD := Ext.drew U
      have zU := hXU.trans zD
      have y2 := zU.cell q2
      have y3 := zU.cell q3
      have yw := zU.cell cwt
      have ym := zU.cell cmt
      have v0 : U.drew.cell? ⟨g + 1 + 1, 0, none⟩ = some (.int .i64 1) := bP.cell 0
      have v1 : U.drew.cell? ⟨g + 1 + 1, 1, none⟩ = some (.int .i64 (j : Int)) := bP.cell 1
      have v2 : U.drew.cell? ⟨g + 1 + 1, 2, none⟩ = some (.int .i64 2) := bP.cell 2
      have v3 : U.drew.cell? ⟨g + 1 + 1, 3, none⟩ = some (.int .i64 (m.tp - 1)) := bP.cell 3
      have v4 : U.drew.cell? ⟨g + 1 + 1, 4, none⟩ = some (.int .i64 0) := bP.cell 4
      have v5 : U.drew.cell? ⟨g + 1 + 1, 5, none⟩ = some (.int .i64 0) := bP.cell 5
      have v6 : U.drew.cell? ⟨g + 1 + 1, 6, none⟩ = some (.int .i64 0) := bP.cell 6
      have v7 : U.drew.cell? ⟨g + 1 + 1, 7, none⟩ = some (.int .i64 o) := bP.cell 7
      refine wp_region_ordT 11 (readsT [0, 1, 2, 3, 4, 5, 6, 7, 8, 9, 10] .done) (by kernel_rfl) (by kernel_rfl) (fun _ _ _ _ _ h => h) ?_
      simp only [readsT]
      iterate 11 (refine wpOrdT_read (v := ?_) (by rfl) (Or.inl ⟨by rfl, fun x hx => ?_⟩) ?_; rotate_left; (· have uy2 := hx.cell y2; have uy3 := hx.cell y3; have uyw := hx.cell yw; have uym := hx.cell ym; have uv0 := hx.cell v0; have uv1 := hx.cell v1; have uv2 := hx.cell v2; have uv3 := hx.cell v3; have uv4 := hx.cell v4; have uv5 := hx.cell v5; have uv6 := hx.cell v6; have uv7 := hx.cell v7; go_simp; try with_reducible rfl); try simp only [Act.put, List.setIfInBounds_toArray, List.set_cons_zero, List.set_cons_succ])
      refine wpOrdT_done ?_
      try simp only [List.drop_succ_cons, List.drop_zero]
      have hX1 := hX.trans zU
      have bZU := bZ.ext zU
      have hw : w.heap.size ≤ g := by omega
      clear y2 y3 yw ym v0 v1 v2 v3 v4 v5 v6 v7 q2 q3 cwt cmt A0 A1' zD zU hXU
      change wpList _ _ _ _ _ U.drew
      generalize U.drew = Y at *
      have z0 := bZU.cell
      have z1 := bZU.frozen
      go_wp2_with fail
      refine bodyPost_ret (v := ActM ⟨x, y, ⟨1, (j : Int), 2, m.tp - 1, 0, 0, 0, o⟩, false⟩) (by simp [results, Tryz.results103, go_sem, z0, ActM]) rfl ?_
      exact ⟨by rw [HE3.out], by repeat (first | with_reducible exact hX1 | refine Ext.setCell ?_ hw _)⟩
end Go.Proofs.YtfghojbbofobeaaGreatDoor
end
section
namespace Go.Proofs.YtfghojbbofobeaaGreatDoor
open Go Go.RowKit Go.Proofs
theorem ownsRow_blk {w : World} {base g : Nat} {e : TypeId} {cs : Array Value} (size n : Nat) (hb : Blk w g e cs) (hg : base ≤ g) (hs : cs.size = n * size) (hm : n ≤ 1000000) : w.ownsRow base e size (.slice (some ⟨g, 0, none⟩) n n) n cs.toList :=
  ⟨by simp [hs], .inr ⟨g, n, cs, rfl, hg, hb, Nat.le_refl _, by unfold maxLen; omega, hs, List.take_of_length_le (by simp [hs])⟩⟩
end Go.Proofs.YtfghojbbofobeaaGreatDoor
end
section
set_option linter.unusedSimpArgs false
set_option linter.unusedVariables false
namespace Go.Proofs.YtfghojbbofobeaaGreatDoor
open Go Go.RowKit Go.Proofs Go.Maps
set_option maxHeartbeats 400000
/-- A machine with several tapes behind a pointer. -/
def MulAt (w : World) (b : Nat) (m : MultiD) : Prop := ∃ A cA, Blk w b 33 #[.int .i64 m.tp, .int .i64 m.sy, .int .i64 m.st, .slice A m.rules.length cA] ∧ MRules w (.slice A m.rules.length cA) m.rules
theorem MulAt.ext {w w' : World} {b : Nat} {m : MultiD} (h : MulAt w b m) (he : Ext w w') : MulAt w' b m := by
  obtain ⟨A, cA, h1, h2⟩ := h
  exact ⟨A, cA, h1.ext he, h2.ext he⟩
/-- What a move comes to. -/
def MoveResM (m : MultiD) (w : World) (a : ActG MP) (e : Ending) (w' : World) : Prop :=
  ((a.no = true ∧ e = .returned (.agg #[.bool false, .int .i64 0, .int .i64 0, .slice none 0 0])) ∨
    (a.no = false ∧ ∃ A c, e = .returned (.agg #[.bool true, .int .i64 a.w, .int .i64 a.m, .slice A (encM m a.p).length c]) ∧ OwnInts w.heap.size w' (.slice A (encM m a.p).length c) (encM m a.p))) ∧ Ext w w'
theorem own_ivs {w : World} {g base : Nat} {zs : List Int} (h : Blk w g 2 (ivs zs).toArray) (hb : base ≤ g) (hn : zs.length ≤ 1000) : OwnInts base w (.slice (some ⟨g, 0, none⟩) zs.length zs.length) zs :=
  ⟨by simp, .inr ⟨g, zs.length, (ivs zs).toArray, rfl, hb, h, Nat.le_refl _, by unfold maxLen; omega, by simp, by simp only [Nat.mul_one]; exact List.take_of_length_le (by simp)⟩⟩
theorem goM_c (a m : Int) (A : Option Addr) (n c : Nat) (w : World) :
    Calls Tryz.prog 134 #[.int .i64 a, .int .i64 m, .slice A n c] w fun e w' => e = .returned (.agg #[.bool true, .int .i64 a, .int .i64 m, .slice A n c]) ∧ Ext w w' := by
  go_enter Tryz.func134, Tryz.ntmps134
  go_wp2
  refine bodyPost_ret (v := .agg #[.bool true, .int .i64 a, .int .i64 m, .slice A n c]) (by simp [results, Tryz.results134, go_sem]) rfl ?_
  exact ⟨rfl, Ext.alloc _ _⟩
theorem encM_look (m : MultiD) (q : Int) : encM m (lookP q) = [0, q, 0, -1, -1] ++ (if m.tp = 3 then [-1] else []) := rfl
set_option maxRecDepth 20000 in
set_option maxHeartbeats 4000000 in
theorem lookS_c (b : Nat) (m : MultiD) (q : Int) (w : World) (h : MulAt w b m) (hm : multiOk m = true) :
    Calls Tryz.prog 25 #[.pointer (some ⟨b, 0, none⟩), .int .i64 q] w fun e w' => ∃ u, e = .returned u ∧ OwnInts w.heap.size w' u (encM m (lookP q)) ∧ Ext w w' := by
  obtain ⟨i0, hi, hz0, hz1, hz2⟩ := info_parts intInfo
  obtain ⟨⟨tp1, tp2⟩, _⟩ := multi_all hm
  obtain ⟨A, cA, hb, _⟩ := h
  have HB := Lib.hid hb
  have HE : Hid ([0, q, 0] ++ List.replicate m.tp.toNat (-1) = encM m (lookP q)) := Lib.hid (by
    rw [encM_look]
    have hT : m.tp = 2 ∨ m.tp = 3 := by omega
    rcases hT with hT | hT <;> rw [hT] <;> rfl)
  obtain ⟨N, hN⟩ : ∃ N : Nat, (N : Int) = m.tp := ⟨m.tp.toNat, by omega⟩
  have hNt : m.tp.toNat = N := by omega
  rw [hNt] at HE
  have HN := Lib.hid hN
  obtain ⟨W, hW⟩ : ∃ W, W = w.alloc (.cells #[.int .i64 0, .int .i64 q, .int .i64 0] 2) := ⟨_, rfl⟩
  have hX0 : Ext w W := by rw [hW]; exact Ext.alloc _ _
  have b0 : Blk W w.heap.size 2 (ivs [0, q, 0]).toArray := by rw [hW]; exact Blk.new _ _ _ _ rfl
  have hown0 : W.ownsRow w.heap.size 2 1 (.slice (some ⟨w.heap.size, 0, none⟩) 3 3) 3 (ivs [0, q, 0]) := own_ivs b0 (Nat.le_refl _) (by simp)
  clear hb b0 hN hNt
  go_enter Tryz.func25, Tryz.ntmps25
  go_wp2_with fail
  try rw [← hW]
  clear hW
  go_loopw [5, 6] (fun l i wr => ∃ k : Nat, k ≤ N ∧ i = .int .i64 (k : Int) ∧ Ext w wr ∧ wr.ownsRow w.heap.size 2 1 l (3 + k) (ivs ([0, q, 0] ++ List.replicate k (-1)))) (fun _ i _ => N - (intOf i).toNat)
  case atStart => exact ⟨0, Nat.zero_le _, rfl, hX0, by simpa using hown0⟩
  case round =>
    clear hown0 hX0
    obtain ⟨k, hk, rfl, hX, ho⟩ := hrel
    have a0 : wr.cell? ⟨b, 0, none⟩ = some (.int .i64 m.tp) := (HB.out.ext hX).cell 0
    rw [← HN.out] at a0
    by_cases hlt : k < N
    · obtain ⟨Al, cl, rfl, h3, h3', _⟩ := (ownsRow_row ho).form
      have hki : (k : Int) < (N : Int) := by omega
      have hN3 : N ≤ 3 := by have := HN.out; omega
      have hsz := hX.size
      have HTK : Hid (ivs ([0, q, 0] ++ List.replicate (k + 1) (-1)) = ivs ([0, q, 0] ++ List.replicate k (-1)) ++ [.int .i64 (-1)]) := Lib.hid (by
        rw [List.replicate_succ', ← List.append_assoc]
        simp [ivs])
      go_wp2_with (at_builtin; refine wpList_append_own _ rfl _ _ 44 rfl w.heap.size 2 i0 (.int .i64 0) 1 8 Tryz.underlying44 hi hz0 hz1 hz2 rfl (by decide) _ _ _ rfl (ho.alloc _) ⟨wr.heap.size, 0, none⟩ 1 1 [.int .i64 (-1)] rfl rfl ?c1 ?c2 ?c3 ?c4 ?c5 ?_)
      case c1 => exact cell_one_new _ _ _
      case c2 => first | rfl | (intro u hu; simp at hu; subst hu; rfl)
      case c3 => first | omega | (unfold maxLen; omega)
      case c4 => omega
      case c5 => first | omega | (simp; omega)
      intro v' w3 hown' hgrow _
      have hX3 : Ext w w3 := hX.grown (grownBy_trans (World.grownBy_alloc _ _ _) hgrow) (fun b hb => (ho.lt b hb).1)
      have R : w3.ownsRow w.heap.size 2 1 v' (3 + (k + 1)) (ivs ([0, q, 0] ++ List.replicate (k + 1) (-1))) := by rw [HTK.out]; exact hown'
      clear hown' hgrow ho a0
      go_wp2
      go_roundw
      case rel => exact ⟨k + 1, by omega, by go_num, hX3, R⟩
      case measure => simp [intOf]; omega
    · obtain rfl : k = N := by omega
      obtain ⟨Al, cl, rfl, _, _, _⟩ := (ownsRow_row ho).form
      have HO : Hid (OwnInts w.heap.size wr (.slice Al (3 + k) cl) (encM m (lookP q))) := Lib.hid (by
        have hlen : ([0, q, 0] ++ List.replicate k (-1) : List Int).length = 3 + k := by simp; omega
        rw [← HE.out]
        unfold OwnInts
        rw [hlen]
        exact ho)
      clear ho
      go_wp2_with fail
      go_ret
      exact ⟨_, rfl, HO.out, hX⟩
set_option maxRecDepth 20000 in
theorem beforeS_c (b : Nat) (m : MultiD) (t : Int) (w : World) (h : MulAt w b m) (hm : multiOk m = true) (t0 : 0 ≤ t) (t1 : t < m.tp) :
    Calls Tryz.prog 139 #[.pointer (some ⟨b, 0, none⟩), .int .i64 t] w fun e w' => e = .returned (.int .i64 (befT m.tp t)) ∧ Ext w w' := by
  obtain ⟨⟨tp1, tp2⟩, _⟩ := multi_all hm
  obtain ⟨A, cA, hb, _⟩ := h
  have a0 : w.cell? ⟨b, 0, none⟩ = some (.int .i64 m.tp) := hb.cell 0
  have hc := tapes_cases tp1 tp2 t0 t1
  generalize m.tp = T at *
  clear hb t0 t1 tp1 tp2
  rcases hc with ⟨rfl, rfl⟩ | ⟨rfl, rfl⟩ | ⟨rfl, rfl⟩ | ⟨rfl, rfl⟩ | ⟨rfl, rfl⟩
  all_goals
    have d0 := cellR a0
    go_enter Tryz.func139, Tryz.ntmps139
    go_wp2_with fail
    refine wp_region_ext (by kernel_rfl) (by kernel_rfl) ?_
    repeat (go_big_quiet_step (fail))
    refine wpQuiet_nil ?_
    intro w1 hx1
    go_wp2_with fail
    go_ret
    exact ⟨rfl, hx1⟩
set_option maxRecDepth 20000 in
set_option maxHeartbeats 4000000 in
theorem afterS_c (b : Nat) (m : MultiD) (i t d : Int) (w : World) (h : MulAt w b m) (hm : multiOk m = true) (i0 : 0 ≤ i) (i1 : i < m.rules.length) (t0 : 0 ≤ t) (t1 : t < m.tp) :
    Calls Tryz.prog 138 #[.pointer (some ⟨b, 0, none⟩), .int .i64 i, .int .i64 t, .int .i64 d] w fun e w' => ∃ u, e = .returned u ∧ OwnInts w.heap.size w' u (encM m (aftP m i t d)) ∧ Ext w w' := by
  obtain ⟨⟨tp1, tp2⟩, _⟩ := multi_all hm
  obtain ⟨j, rfl, hj, hme, hr⟩ := mrAt_ok hm i0 i1
  have BF := beforeS_c b m t w h hm t0 t1
  obtain ⟨A, cA, hb, hR⟩ := h
  obtain ⟨rb, ro, vr, vw, vm, rfl, c0, c1, c2, c3, c4, i1', i2', i3'⟩ := hR.at hj
  have a0 : w.cell? ⟨b, 0, none⟩ = some (.int .i64 m.tp) := hb.cell 0
  have a3 : w.cell? ⟨b, 3, none⟩ = some (.slice (some ⟨rb, ro, none⟩) m.rules.length cA) := hb.cell 3
  have hji : (j : Int) < (m.rules.length : Int) := by omega
  have HE : Hid (aftP m (j : Int) t d = if d = fullB m.tp then leaveP m.rules[j].nx (t + m.tp - 1) else ⟨3, (j : Int), befT m.tp t, 0, 0, 0, 0, d⟩) := Lib.hid (by unfold aftP; rw [hme])
  clear hme hr
  generalize m.rules[j] = r at *
  go_enter Tryz.func138, Tryz.ntmps138
  go_upto_region 1 with fail
  have hT : m.tp = 2 ∨ m.tp = 3 := by omega
  rcases hT with hT | hT
  · rw [hT] at a0
    by_cases hd : d = 3
    · have hdb : (d == 3) = true := by simp [hd]
      have HE2 : Hid (encM m (aftP m (j : Int) t d) = [4, r.nx, t + 2 - 1]) := Lib.hid (by rw [HE.out, hT, hd, if_pos (by rfl)]; unfold leaveP; rw [if_neg (by omega)]; rfl)
      have hwt : IntKind.i64.wrap (t + 2) = t + 2 := IntWalk.i64_in _ (by omega)
      have hwt1 : IntKind.i64.wrap (t + 2 - 1) = t + 2 - 1 := IntWalk.i64_in _ (by omega)
      clear HE hd
      go_upto_region 2 with fail
      have y0 : w.drew.cell? ⟨b, 0, none⟩ = some (.int .i64 2) := a0
      have y3 : w.drew.cell? ⟨b, 3, none⟩ = some (.slice (some ⟨rb, ro, none⟩) m.rules.length cA) := a3
      have yc : w.drew.cell? ⟨rb, ro + j * 5 + 4, none⟩ = some (.int .i64 r.nx) := c4
      have zD := Ext.drew w
      refine wp_region_ordT 15 (readsT [0, 1, 2, 3, 4, 5, 6, 7, 8, 9, 10, 11, 12, 13, 14] .done) (by kernel_rfl) (by kernel_rfl) (fun _ _ _ _ _ h => h) ?_
      simp only [readsT]
      iterate 15 (refine wpOrdT_read (v := ?_) (by rfl) (Or.inl ⟨by rfl, fun x hx => ?_⟩) ?_; rotate_left; (· have uy0 := hx.cell y0; have uy3 := hx.cell y3; have uyc := hx.cell yc; go_simp; try with_reducible rfl); try simp only [Act.put, List.setIfInBounds_toArray, List.set_cons_zero, List.set_cons_succ])
      refine wpOrdT_done ?_
      try simp only [List.drop_succ_cons, List.drop_zero]
      clear y0 y3 yc c0 c1 c2 c3 c4 a0 a3
      have hsd : w.drew.heap.size = w.heap.size := rfl
      change wpList _ _ _ _ _ w.drew
      generalize w.drew = Y at *
      obtain ⟨V, hV⟩ : ∃ V, V = Y.alloc (.cells #[.int .i64 4, .int .i64 r.nx, .int .i64 (t + 2 - 1)] 2) := ⟨_, rfl⟩
      have hXV : Ext w V := by rw [hV]; exact zD.trans (Ext.alloc _ _)
      have oV : OwnInts w.heap.size V (.slice (some ⟨w.heap.size, 0, none⟩) 3 3) [4, r.nx, t + 2 - 1] := own_ivs (by rw [hV]; exact Blk.new _ _ _ _ hsd) (Nat.le_refl _) (by simp)
      go_wp2_with fail
      try rw [← hV]
      go_ret
      exact ⟨_, rfl, by rw [HE2.out]; exact oV, hXV⟩
    · have hdb : (d == 3) = false := by simp [hd]
      have HE2 : Hid (encM m (aftP m (j : Int) t d) = [3, (j : Int), befT m.tp t, d]) := Lib.hid (by rw [HE.out, if_neg (by rw [hT]; exact hd)]; rfl)
      clear HE hd
      obtain ⟨bt, hbt⟩ : ∃ q, befT m.tp t = q := ⟨_, rfl⟩
      rw [hbt] at HE2 BF
      clear hbt
      go_wp2_with fail
      refine BF.mono ?_
      rintro e w1 ⟨rfl, hx1⟩
      obtain ⟨V, hV⟩ : ∃ V, V = w1.alloc (.cells #[.int .i64 3, .int .i64 (j : Int), .int .i64 bt, .int .i64 d] 2) := ⟨_, rfl⟩
      have hXV : Ext w V := by rw [hV]; exact hx1.trans (Ext.alloc _ _)
      have oV : OwnInts w.heap.size V (.slice (some ⟨w1.heap.size, 0, none⟩) 4 4) [3, (j : Int), bt, d] := own_ivs (by rw [hV]; exact Blk.new _ _ _ _ rfl) hx1.size (by simp)
      clear c0 c1 c2 c3 c4 a0 a3 hx1 BF
      go_wp2_with fail
      try rw [← hV]
      go_ret
      exact ⟨_, rfl, by rw [HE2.out]; exact oV, hXV⟩
  · rw [hT] at a0
    by_cases hd : d = 7
    · have hdb : (d == 7) = true := by simp [hd]
      have HE2 : Hid (encM m (aftP m (j : Int) t d) = [4, r.nx, t + 3 - 1]) := Lib.hid (by rw [HE.out, hT, hd, if_pos (by rfl)]; unfold leaveP; rw [if_neg (by omega)]; rfl)
      have hwt : IntKind.i64.wrap (t + 3) = t + 3 := IntWalk.i64_in _ (by omega)
      have hwt1 : IntKind.i64.wrap (t + 3 - 1) = t + 3 - 1 := IntWalk.i64_in _ (by omega)
      clear HE hd
      go_upto_region 2 with fail
      have y0 : w.drew.cell? ⟨b, 0, none⟩ = some (.int .i64 3) := a0
      have y3 : w.drew.cell? ⟨b, 3, none⟩ = some (.slice (some ⟨rb, ro, none⟩) m.rules.length cA) := a3
      have yc : w.drew.cell? ⟨rb, ro + j * 5 + 4, none⟩ = some (.int .i64 r.nx) := c4
      have zD := Ext.drew w
      refine wp_region_ordT 15 (readsT [0, 1, 2, 3, 4, 5, 6, 7, 8, 9, 10, 11, 12, 13, 14] .done) (by kernel_rfl) (by kernel_rfl) (fun _ _ _ _ _ h => h) ?_
      simp only [readsT]
      iterate 15 (refine wpOrdT_read (v := ?_) (by rfl) (Or.inl ⟨by rfl, fun x hx => ?_⟩) ?_; rotate_left; (· have uy0 := hx.cell y0; have uy3 := hx.cell y3; have uyc := hx.cell yc; go_simp; try with_reducible rfl); try simp only [Act.put, List.setIfInBounds_toArray, List.set_cons_zero, List.set_cons_succ])
      refine wpOrdT_done ?_
      try simp only [List.drop_succ_cons, List.drop_zero]
      clear y0 y3 yc c0 c1 c2 c3 c4 a0 a3
      have hsd : w.drew.heap.size = w.heap.size := rfl
      change wpList _ _ _ _ _ w.drew
      generalize w.drew = Y at *
      obtain ⟨V, hV⟩ : ∃ V, V = Y.alloc (.cells #[.int .i64 4, .int .i64 r.nx, .int .i64 (t + 3 - 1)] 2) := ⟨_, rfl⟩
      have hXV : Ext w V := by rw [hV]; exact zD.trans (Ext.alloc _ _)
      have oV : OwnInts w.heap.size V (.slice (some ⟨w.heap.size, 0, none⟩) 3 3) [4, r.nx, t + 3 - 1] := own_ivs (by rw [hV]; exact Blk.new _ _ _ _ hsd) (Nat.le_refl _) (by simp)
      go_wp2_with fail
      try rw [← hV]
      go_ret
      exact ⟨_, rfl, by rw [HE2.out]; exact oV, hXV⟩
    · have hdb : (d == 7) = false := by simp [hd]
      have HE2 : Hid (encM m (aftP m (j : Int) t d) = [3, (j : Int), befT m.tp t, d]) := Lib.hid (by rw [HE.out, if_neg (by rw [hT]; exact hd)]; rfl)
      clear HE hd
      obtain ⟨bt, hbt⟩ : ∃ q, befT m.tp t = q := ⟨_, rfl⟩
      rw [hbt] at HE2 BF
      clear hbt
      go_wp2_with fail
      refine BF.mono ?_
      rintro e w1 ⟨rfl, hx1⟩
      obtain ⟨V, hV⟩ : ∃ V, V = w1.alloc (.cells #[.int .i64 3, .int .i64 (j : Int), .int .i64 bt, .int .i64 d] 2) := ⟨_, rfl⟩
      have hXV : Ext w V := by rw [hV]; exact hx1.trans (Ext.alloc _ _)
      have oV : OwnInts w.heap.size V (.slice (some ⟨w1.heap.size, 0, none⟩) 4 4) [3, (j : Int), bt, d] := own_ivs (by rw [hV]; exact Blk.new _ _ _ _ rfl) hx1.size (by simp)
      clear c0 c1 c2 c3 c4 a0 a3 hx1 BF
      go_wp2_with fail
      try rw [← hV]
      go_ret
      exact ⟨_, rfl, by rw [HE2.out]; exact oV, hXV⟩
end Go.Proofs.YtfghojbbofobeaaGreatDoor
end
