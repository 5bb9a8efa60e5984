/- Contract of what the program's machine with one tape puts under the head of a tape.
A block that is known whole, as a full row. No condition.
Contracts of the leaves of the reference's machine with one tape for several. The machine with several tapes is valid. -/
import Derived.Test.YtgeckhjkahnonaaGreatDoorO15
import Derived.Test.YtgeckhjkahnonaaGreatDoorO13
import Derived.Maps.AppendAt
section
set_option linter.unusedSimpArgs false
set_option linter.unusedVariables false
namespace Go.Proofs.YtgeckhjkahnonaaGreatDoor
open Go Go.RowKit Go.Proofs Go.Maps
set_option maxHeartbeats 400000
theorem or_bits {d : Int} (h0 : 0 ≤ d) (h7 : d ≤ 7) : bits .or .i64 d 1 = orB d 0 ∧ bits .or .i64 d 2 = orB d 1 ∧ bits .or .i64 d 4 = orB d 2 := by
  have h : d = 0 ∨ d = 1 ∨ d = 2 ∨ d = 3 ∨ d = 4 ∨ d = 5 ∨ d = 6 ∨ d = 7 := by omega
  rcases h with rfl | rfl | rfl | rfl | rfl | rfl | rfl | rfl <;> decide
set_option maxRecDepth 20000 in
set_option maxHeartbeats 4000000 in
theorem put_c (b : Nat) (m : MultiD) (i t d : Int) (w : World) (h : Weav w b m) (hm : multiOk m = true) (i0 : 0 ≤ i) (i1 : i < m.rules.length) (t0 : 0 ≤ t) (t1 : t < m.tp) (d0 : 0 ≤ d) (d7 : d ≤ 7) :
    Calls Tryz.prog 69 #[.pointer (some ⟨b, 0, none⟩), .int .i64 i, .int .i64 t, .int .i64 d] w fun e w' => e = .returned (ActM (putP m i t d)) ∧ Ext w w' := by
  obtain ⟨⟨tp1, tp2⟩, ⟨y1, y2⟩, _⟩ := multi_all hm
  have hod := orB_le (t := t) d0 d7
  have AF := fun W (hw : Weav W b m) => after_c b m i t (orB d t) W hw hm i0 i1 t0 t1
  obtain ⟨j, rfl, hj, hme, hr⟩ := mrAt_ok hm i0 i1
  obtain ⟨_, _, hl1, hl2, hl3, p1, p2, p3⟩ := mrule_all hr
  obtain ⟨A, cA, bm, hb, hR, _⟩ := id h
  obtain ⟨rb, ro, vr, vw, vm, rfl, c0, c1, c2, c3, c4, i1', i2', i3'⟩ := hR.at hj
  obtain ⟨tn, htn⟩ : ∃ n : Nat, t = (n : Int) := ⟨t.toNat, by omega⟩
  have htl2 : tn < m.rules[j].wr.length := by omega
  have htl3 : tn < m.rules[j].mv.length := by omega
  have hw0 := p2 _ (List.getElem_mem htl2)
  have hm0 := p3 _ (List.getElem_mem htl3)
  have ew : (mrAt m (j : Int)).wr.getD t.toNat 0 = m.rules[j].wr[tn] := by rw [hme, htn, Int.toNat_natCast, List.getD_eq_getElem?_getD, List.getElem?_eq_getElem htl2]; rfl
  have em : (mrAt m (j : Int)).mv.getD t.toNat 0 = m.rules[j].mv[tn] := by rw [hme, htn, Int.toNat_natCast, List.getD_eq_getElem?_getD, List.getElem?_eq_getElem htl3]; rfl
  have HE : Hid (putP m (j : Int) t d = if m.rules[j].mv[tn] = 0 then ⟨m.rules[j].wr[tn] + m.sy, -1, aftP m (j : Int) t (orB d t), false⟩ else ⟨m.rules[j].wr[tn], m.rules[j].mv[tn], ⟨1, (j : Int), t, m.tp - 1, 0, 0, 0, orB d t⟩, false⟩) := Lib.hid (by unfold putP; rw [ew, em])
  obtain ⟨r, hrk⟩ : ∃ r, m.rules[j] = r := ⟨_, rfl⟩
  simp only [hrk] at c0 c4 i1' i2' i3' hw0 hm0 HE hl1 hl2 hl3 htl2 htl3
  obtain ⟨A1, k1, rfl, _, _⟩ := id i1'.form
  obtain ⟨A2, k2, rfl, _, _⟩ := id i2'.form
  obtain ⟨A3, k3, rfl, _, _⟩ := id i3'.form
  obtain ⟨gw, ow, rfl, cw⟩ := i2'.at htl2
  obtain ⟨gm, om, rfl, cm⟩ := i3'.at htl3
  have cwt := cw tn htl2
  have cmt := cm tn htl3
  obtain ⟨x, hx⟩ : ∃ x, r.wr[tn] = x := ⟨_, rfl⟩
  obtain ⟨y, hy⟩ : ∃ y, r.mv[tn] = y := ⟨_, rfl⟩
  rw [hx] at cwt hw0 HE
  rw [hy] at cmt hm0 HE
  obtain ⟨g, hg⟩ : ∃ g, w.heap.size = g := ⟨_, rfl⟩
  obtain ⟨V, hV⟩ : ∃ W, W = w.alloc (.cells #[.int .i64 0, .int .i64 0, .int .i64 0, .int .i64 0, .int .i64 0, .int .i64 0, .int .i64 0, .int .i64 0, .int .i64 0, .int .i64 0, .bool false] 139) := ⟨_, rfl⟩
  obtain ⟨W, hW⟩ : ∃ W, W = V.alloc (.cells #[.int .i64 r.st, .slice A1 r.rd.length k1, .slice (some ⟨gw, ow, none⟩) r.wr.length k2, .slice (some ⟨gm, om, none⟩) r.mv.length k3, .int .i64 r.nx] 43) := ⟨_, rfl⟩
  have hXV : Ext w V := by rw [hV]; exact Ext.alloc _ _
  have hsV : V.heap.size = g + 1 := by rw [hV]; simp [hg]
  have hXVW : Ext V W := by rw [hW]; exact Ext.alloc _ _
  have hX : Ext w W := hXV.trans hXVW
  have bZ : Blk W g 139 #[.int .i64 0, .int .i64 0, .int .i64 0, .int .i64 0, .int .i64 0, .int .i64 0, .int .i64 0, .int .i64 0, .int .i64 0, .int .i64 0, .bool false] := Blk.ext (by rw [hV]; exact Blk.new _ _ _ _ hg) hXVW
  have bR : Blk W (g + 1) 43 #[.int .i64 r.st, .slice A1 r.rd.length k1, .slice (some ⟨gw, ow, none⟩) r.wr.length k2, .slice (some ⟨gm, om, none⟩) r.mv.length k3, .int .i64 r.nx] := by rw [hW]; exact Blk.new _ _ _ _ hsV
  have a3 : V.cell? ⟨b, 3, none⟩ = some (.slice (some ⟨rb, ro, none⟩) m.rules.length cA) := (hb.ext hXV).cell 3
  have c0 := hXV.cell c0
  have c1 := hXV.cell c1
  have c2 := hXV.cell c2
  have c3 := hXV.cell c3
  have c4 := hXV.cell c4
  have hji : (j : Int) < (m.rules.length : Int) := by omega
  have hWv := Lib.hid (h.ext hX)
  have q2 : W.cell? ⟨g + 1, 2, none⟩ = some (.slice (some ⟨gw, ow, none⟩) r.wr.length k2) := bR.cell 2
  have q3 : W.cell? ⟨g + 1, 3, none⟩ = some (.slice (some ⟨gm, om, none⟩) r.mv.length k3) := bR.cell 3
  have cwt := hX.cell cwt
  have cmt := hX.cell cmt
  have A0 : W.cell? ⟨b, 0, none⟩ = some (.int .i64 m.tp) := (hb.ext hX).cell 0
  have A1' : W.cell? ⟨b, 1, none⟩ = some (.int .i64 m.sy) := (hb.ext hX).cell 1
  have htw : (tn : Int) < (r.wr.length : Int) := by omega
  have htm : (tn : Int) < (r.mv.length : Int) := by omega
  go_enter Tryz.func69, Tryz.ntmps69
  go_upto_region 1 with fail
  try rw [← hV]
  try rw [hg]
  clear hV
  go_upto_region 2 with fail
  try rw [← hW]
  try rw [hsV]
  have hszW : W.heap.size = V.heap.size + 1 := by rw [hW]; simp
  clear hW c0 c1 c2 c3 c4 a3
  clear hrk hx hy cw cm i1' i2' i3' hme hr ew em
  have ht3 : t = 0 ∨ t = 1 ∨ t = 2 := by omega
  rcases ht3 with rfl | rfl | rfl
  · obtain rfl : tn = 0 := by omega
    have hob := (or_bits d0 d7).1
    have HE2 := HE
    clear HE htn
    go_upto_region 3 with fail
    try rw [hob]
    obtain ⟨o, ho⟩ : ∃ o, orB d 0 = o := ⟨_, rfl⟩
    rw [ho] at HE2 AF ⊢
    clear ho hob
    try simp only [Nat.add_zero] at cwt cmt
    by_cases hy0 : y = 0
    · have hyb : (y == 0) = true := by simp [hy0]
      have HE3 : Hid (putP m (j : Int) 0 d = ⟨x + m.sy, -1, aftP m (j : Int) 0 o, false⟩) := Lib.hid (by rw [HE2.out, if_pos hy0])
      have hwx : IntKind.i64.wrap (x + m.sy) = x + m.sy := IntWalk.i64_in _ (by omega)
      clear HE2 hy0
      go_upto_region 4 with fail
      have zD := Ext.drew W
      have y2 : W.drew.cell? ⟨g + 1, 2, none⟩ = some (.slice (some ⟨gw, ow, none⟩) r.wr.length k2) := q2
      have y1' : W.drew.cell? ⟨b, 1, none⟩ = some (.int .i64 m.sy) := A1'
      have yw := zD.cell cwt
      refine wp_region_ordT 16 (readsT [0, 1, 2, 3, 4, 5, 6, 7, 8, 9, 10, 11, 12, 13, 14] (.stir 15 .done)) (by kernel_rfl) (by kernel_rfl) (fun _ _ _ _ _ h => h) ?_
      simp only [readsT]
      iterate 15 (refine wpOrdT_read (v := ?_) (by rfl) (Or.inl ⟨by rfl, fun x hx => ?_⟩) ?_; rotate_left; (· have uy2 := hx.cell y2; have uy1' := hx.cell y1'; have uyw := hx.cell yw; go_simp; try with_reducible rfl); try simp only [Act.put, List.setIfInBounds_toArray, List.set_cons_zero, List.set_cons_succ])
      refine wpOrdT_stir (by rfl) (fun K hK => ?_)
      go_simp
      go_at_call 71
      refine (AF _ (hWv.out.ext zD)).mono ?_
      rintro e w1 ⟨rfl, hx1⟩
      refine hK _ _ hx1 ?_
      clear hK K AF
      try simp only [Act.put, List.setIfInBounds_toArray, List.set_cons_zero, List.set_cons_succ]
      refine wpOrdT_done ?_
      try simp only [List.drop_succ_cons, List.drop_zero]
      obtain ⟨q, hq⟩ : ∃ q, aftP m (j : Int) 0 o = q := ⟨_, rfl⟩
      rw [hq] at HE3 ⊢
      clear hq
      have hX1 := hX.trans (zD.trans hx1)
      have z0 := (bZ.ext (zD.trans hx1)).cell
      have z1 := (bZ.ext (zD.trans hx1)).frozen
      have hw : w.heap.size ≤ g := by omega
      simp only [MP.v]
      clear y2 y1' yw q2 q3 cwt cmt A0 A1' zD hx1
      go_wp2_with fail
      refine bodyPost_ret (v := ActM ⟨x + m.sy, -1, q, false⟩) (by simp [results, Tryz.results69, go_sem, z0, ActM]) rfl ?_
      exact ⟨by rw [HE3.out], by repeat (first | with_reducible exact hX1 | refine Ext.setCell ?_ hw _)⟩
    · have hyb : (y == 0) = false := by simp [hy0]
      have HE3 : Hid (putP m (j : Int) 0 d = ⟨x, y, ⟨1, (j : Int), 0, m.tp - 1, 0, 0, 0, o⟩, false⟩) := Lib.hid (by rw [HE2.out, if_neg hy0])
      have hwt : IntKind.i64.wrap (m.tp - 1) = m.tp - 1 := IntWalk.i64_in _ (by omega)
      clear HE2 hy0 AF
      obtain ⟨U, hU⟩ : ∃ U, U = W.alloc (.cells #[.int .i64 1, .int .i64 (j : Int), .int .i64 0, .int .i64 (m.tp - 1), .int .i64 0, .int .i64 0, .int .i64 0, .int .i64 o] 73) := ⟨_, rfl⟩
      have hXU : Ext W U := by rw [hU]; exact Ext.alloc _ _
      have hsW : W.heap.size = g + 1 + 1 := by rw [hszW, hsV]
      have bP : Blk U (g + 1 + 1) 73 #[.int .i64 1, .int .i64 (j : Int), .int .i64 0, .int .i64 (m.tp - 1), .int .i64 0, .int .i64 0, .int .i64 0, .int .i64 o] := by rw [hU]; exact Blk.new _ _ _ _ hsW
      go_upto_region 6 with fail
      try rw [← hU]
      try rw [hsW]
      clear hU
      have zD := Ext.drew U
      have zU := hXU.trans zD
      have y2 := zU.cell q2
      have y3 := zU.cell q3
      have yw := zU.cell cwt
      have ym := zU.cell cmt
      have v0 : U.drew.cell? ⟨g + 1 + 1, 0, none⟩ = some (.int .i64 1) := bP.cell 0
      have v1 : U.drew.cell? ⟨g + 1 + 1, 1, none⟩ = some (.int .i64 (j : Int)) := bP.cell 1
      have v2 : U.drew.cell? ⟨g + 1 + 1, 2, none⟩ = some (.int .i64 0) := bP.cell 2
      have v3 : U.drew.cell? ⟨g + 1 + 1, 3, none⟩ = some (.int .i64 (m.tp - 1)) := bP.cell 3
      have v4 : U.drew.cell? ⟨g + 1 + 1, 4, none⟩ = some (.int .i64 0) := bP.cell 4
      have v5 : U.drew.cell? ⟨g + 1 + 1, 5, none⟩ = some (.int .i64 0) := bP.cell 5
      have v6 : U.drew.cell? ⟨g + 1 + 1, 6, none⟩ = some (.int .i64 0) := bP.cell 6
      have v7 : U.drew.cell? ⟨g + 1 + 1, 7, none⟩ = some (.int .i64 o) := bP.cell 7
      refine wp_region_ordT 11 (readsT [0, 1, 2, 3, 4, 5, 6, 7, 8, 9, 10] .done) (by kernel_rfl) (by kernel_rfl) (fun _ _ _ _ _ h => h) ?_
      simp only [readsT]
      iterate 11 (refine wpOrdT_read (v := ?_) (by rfl) (Or.inl ⟨by rfl, fun x hx => ?_⟩) ?_; rotate_left; (· have uy2 := hx.cell y2; have uy3 := hx.cell y3; have uyw := hx.cell yw; have uym := hx.cell ym; have uv0 := hx.cell v0; have uv1 := hx.cell v1; have uv2 := hx.cell v2; have uv3 := hx.cell v3; have uv4 := hx.cell v4; have uv5 := hx.cell v5; have uv6 := hx.cell v6; have uv7 := hx.cell v7; go_simp; try with_reducible rfl); try simp only [Act.put, List.setIfInBounds_toArray, List.set_cons_zero, List.set_cons_succ])
      refine wpOrdT_done ?_
      try simp only [List.drop_succ_cons, List.drop_zero]
      have hX1 := hX.trans zU
      have bZU := bZ.ext zU
      have hw : w.heap.size ≤ g := by omega
      clear y2 y3 yw ym v0 v1 v2 v3 v4 v5 v6 v7 q2 q3 cwt cmt A0 A1' zD zU hXU
      change wpList _ _ _ _ _ U.drew
      generalize U.drew = Y at *
      have z0 := bZU.cell
      have z1 := bZU.frozen
      go_wp2_with fail
      refine bodyPost_ret (v := ActM ⟨x, y, ⟨1, (j : Int), 0, m.tp - 1, 0, 0, 0, o⟩, false⟩) (by simp [results, Tryz.results69, go_sem, z0, ActM]) rfl ?_
      exact ⟨by rw [HE3.out], by repeat (first | with_reducible exact hX1 | refine Ext.setCell ?_ hw _)⟩
  · obtain rfl : tn = 1 := by omega
    have hob := (or_bits d0 d7).2.1
    have HE2 := HE
    clear HE htn
    go_upto_region 3 with fail
    try rw [hob]
    obtain ⟨o, ho⟩ : ∃ o, orB d 1 = o := ⟨_, rfl⟩
    rw [ho] at HE2 AF ⊢
    clear ho hob
    try simp only [Nat.add_zero] at cwt cmt
    by_cases hy0 : y = 0
    · have hyb : (y == 0) = true := by simp [hy0]
      have HE3 : Hid (putP m (j : Int) 1 d = ⟨x + m.sy, -1, aftP m (j : Int) 1 o, false⟩) := Lib.hid (by rw [HE2.out, if_pos hy0])
      have hwx : IntKind.i64.wrap (x + m.sy) = x + m.sy := IntWalk.i64_in _ (by omega)
      clear HE2 hy0
      go_upto_region 4 with fail
      have zD := Ext.drew W
      have y2 : W.drew.cell? ⟨g + 1, 2, none⟩ = some (.slice (some ⟨gw, ow, none⟩) r.wr.length k2) := q2
      have y1' : W.drew.cell? ⟨b, 1, none⟩ = some (.int .i64 m.sy) := A1'
      have yw := zD.cell cwt
      refine wp_region_ordT 16 (readsT [0, 1, 2, 3, 4, 5, 6, 7, 8, 9, 10, 11, 12, 13, 14] (.stir 15 .done)) (by kernel_rfl) (by kernel_rfl) (fun _ _ _ _ _ h => h) ?_
      simp only [readsT]
      iterate 15 (refine wpOrdT_read (v := ?_) (by rfl) (Or.inl ⟨by rfl, fun x hx => ?_⟩) ?_; rotate_left; (· have uy2 := hx.cell y2; have uy1' := hx.cell y1'; have uyw := hx.cell yw; go_simp; try with_reducible rfl); try simp only [Act.put, List.setIfInBounds_toArray, List.set_cons_zero, List.set_cons_succ])
      refine wpOrdT_stir (by rfl) (fun K hK => ?_)
      go_simp
      go_at_call 71
      refine (AF _ (hWv.out.ext zD)).mono ?_
      rintro e w1 ⟨rfl, hx1⟩
      refine hK _ _ hx1 ?_
      clear hK K AF
      try simp only [Act.put, List.setIfInBounds_toArray, List.set_cons_zero, List.set_cons_succ]
      refine wpOrdT_done ?_
      try simp only [List.drop_succ_cons, List.drop_zero]
      obtain ⟨q, hq⟩ : ∃ q, aftP m (j : Int) 1 o = q := ⟨_, rfl⟩
      rw [hq] at HE3 ⊢
      clear hq
      have hX1 := hX.trans (zD.trans hx1)
      have z0 := (bZ.ext (zD.trans hx1)).cell
      have z1 := (bZ.ext (zD.trans hx1)).frozen
      have hw : w.heap.size ≤ g := by omega
      simp only [MP.v]
      clear y2 y1' yw q2 q3 cwt cmt A0 A1' zD hx1
      go_wp2_with fail
      refine bodyPost_ret (v := ActM ⟨x + m.sy, -1, q, false⟩) (by simp [results, Tryz.results69, go_sem, z0, ActM]) rfl ?_
      exact ⟨by rw [HE3.out], by repeat (first | with_reducible exact hX1 | refine Ext.setCell ?_ hw _)⟩
    · have hyb : (y == 0) = false := by simp [hy0]
      have HE3 : Hid (putP m (j : Int) 1 d = ⟨x, y, ⟨1, (j : Int), 1, m.tp - 1, 0, 0, 0, o⟩, false⟩) := Lib.hid (by rw [HE2.out, if_neg hy0])
      have hwt : IntKind.i64.wrap (m.tp - 1) = m.tp - 1 := IntWalk.i64_in _ (by omega)
      clear HE2 hy0 AF
      obtain ⟨U, hU⟩ : ∃ U, U = W.alloc (.cells #[.int .i64 1, .int .i64 (j : Int), .int .i64 1, .int .i64 (m.tp - 1), .int .i64 0, .int .i64 0, .int .i64 0, .int .i64 o] 73) := ⟨_, rfl⟩
      have hXU : Ext W U := by rw [hU]; exact Ext.alloc _ _
      have hsW : W.heap.size = g + 1 + 1 := by rw [hszW, hsV]
      have bP : Blk U (g + 1 + 1) 73 #[.int .i64 1, .int .i64 (j : Int), .int .i64 1, .int .i64 (m.tp - 1), .int .i64 0, .int .i64 0, .int .i64 0, .int .i64 o] := by rw [hU]; exact Blk.new _ _ _ _ hsW
      go_upto_region 6 with fail
      try rw [← hU]
      try rw [hsW]
      clear hU
      have zD := Ext.drew U
      have zU := hXU.trans zD
      have y2 := zU.cell q2
      have y3 := zU.cell q3
      have yw := zU.cell cwt
      have ym := zU.cell cmt
      have v0 : U.drew.cell? ⟨g + 1 + 1, 0, none⟩ = some (.int .i64 1) := bP.cell 0
      have v1 : U.drew.cell? ⟨g + 1 + 1, 1, none⟩ = some (.int .i64 (j : Int)) := bP.cell 1
      have v2 : U.drew.cell? ⟨g + 1 + 1, 2, none⟩ = some (.int .i64 1) := bP.cell 2
      have v3 : U.drew.cell? ⟨g + 1 + 1, 3, none⟩ = some (.int .i64 (m.tp - 1)) := bP.cell 3
      have v4 : U.drew.cell? ⟨g + 1 + 1, 4, none⟩ = some (.int .i64 0) := bP.cell 4
      have v5 : U.drew.cell? ⟨g + 1 + 1, 5, none⟩ = some (.int .i64 0) := bP.cell 5
      have v6 : U.drew.cell? ⟨g + 1 + 1, 6, none⟩ = some (.int .i64 0) := bP.cell 6
      have v7 : U.drew.cell? ⟨g + 1 + 1, 7, none⟩ = some (.int .i64 o) := bP.cell 7
      refine wp_region_ordT 11 (readsT [0, 1, 2, 3, 4, 5, 6, 7, 8, 9, 10] .done) (by kernel_rfl) (by kernel_rfl) (fun _ _ _ _ _ h => h) ?_
      simp only [readsT]
      iterate 11 (refine wpOrdT_read (v := ?_) (by rfl) (Or.inl ⟨by rfl, fun x hx => ?_⟩) ?_; rotate_left; (· have uy2 := hx.cell y2; have uy3 := hx.cell y3; have uyw := hx.cell yw; have uym := hx.cell ym; have uv0 := hx.cell v0; have uv1 := hx.cell v1; have uv2 := hx.cell v2; have uv3 := hx.cell v3; have uv4 := hx.cell v4; have uv5 := hx.cell v5; have uv6 := hx.cell v6; have uv7 := hx.cell v7; go_simp; try with_reducible rfl); try simp only [Act.put, List.setIfInBounds_toArray, List.set_cons_zero, List.set_cons_succ])
      refine wpOrdT_done ?_
      try simp only [List.drop_succ_cons, List.drop_zero]
      have hX1 := hX.trans zU
      have bZU := bZ.ext zU
      have hw : w.heap.size ≤ g := by omega
      clear y2 y3 yw ym v0 v1 v2 v3 v4 v5 v6 v7 q2 q3 cwt cmt A0 A1' zD zU hXU
      change wpList _ _ _ _ _ U.drew
      generalize U.drew = Y at *
      have z0 := bZU.cell
      have z1 := bZU.frozen
      go_wp2_with fail
      refine bodyPost_ret (v := ActM ⟨x, y, ⟨1, (j : Int), 1, m.tp - 1, 0, 0, 0, o⟩, false⟩) (by simp [results, Tryz.results69, go_sem, z0, ActM]) rfl ?_
      exact ⟨by rw [HE3.out], by repeat (first | with_reducible exact hX1 | refine Ext.setCell ?_ hw _)⟩
  · obtain rfl : tn = 2 := by omega
    have hob := (or_bits d0 d7).2.2
    have HE2 := HE
    clear HE htn
    go_upto_region 3 with fail
    try rw [hob]
    obtain ⟨o, ho⟩ : ∃ o, orB d 2 = o := ⟨_, rfl⟩
    rw [ho] at HE2 AF ⊢
    clear ho hob
    try simp only [Nat.add_zero] at cwt cmt
    by_cases hy0 : y = 0
    · have hyb : (y == 0) = true := by simp [hy0]
      have HE3 : Hid (putP m (j : Int) 2 d = ⟨x + m.sy, -1, aftP m (j : Int) 2 o, false⟩) := Lib.hid (by rw [HE2.out, if_pos hy0])
      have hwx : IntKind.i64.wrap (x + m.sy) = x + m.sy := IntWalk.i64_in _ (by omega)
      clear HE2 hy0
      go_upto_region 4 with fail
      have zD := Ext.drew W
      have y2 : W.drew.cell? ⟨g + 1, 2, none⟩ = some (.slice (some ⟨gw, ow, none⟩) r.wr.length k2) := q2
      have y1' : W.drew.cell? ⟨b, 1, none⟩ = some (.int .i64 m.sy) := A1'
      have yw := zD.cell cwt
      refine wp_region_ordT 16 (readsT [0, 1, 2, 3, 4, 5, 6, 7, 8, 9, 10, 11, 12, 13, 14] (.stir 15 .done)) (by kernel_rfl) (by kernel_rfl) (fun _ _ _ _ _ h => h) ?_
      simp only [readsT]
      iterate 15 (refine wpOrdT_read (v := ?_) (by rfl) (Or.inl ⟨by rfl, fun x hx => ?_⟩) ?_; rotate_left; (· have uy2 := hx.cell y2; have uy1' := hx.cell y1'; have uyw := hx.cell yw; go_simp; try with_reducible rfl); try simp only [Act.put, List.setIfInBounds_toArray, List.set_cons_zero, List.set_cons_succ])
      refine wpOrdT_stir (by rfl) (fun K hK => ?_)
      go_simp
      go_at_call 71
      refine (AF _ (hWv.out.ext zD)).mono ?_
      rintro e w1 ⟨rfl, hx1⟩
      refine hK _ _ hx1 ?_
      clear hK K AF
      try simp only [Act.put, List.setIfInBounds_toArray, List.set_cons_zero, List.set_cons_succ]
      refine wpOrdT_done ?_
      try simp only [List.drop_succ_cons, List.drop_zero]
      obtain ⟨q, hq⟩ : ∃ q, aftP m (j : Int) 2 o = q := ⟨_, rfl⟩
      rw [hq] at HE3 ⊢
      clear hq
      have hX1 := hX.trans (zD.trans hx1)
      have z0 := (bZ.ext (zD.trans hx1)).cell
      have z1 := (bZ.ext (zD.trans hx1)).frozen
      have hw : w.heap.size ≤ g := by omega
      simp only [MP.v]
      clear y2 y1' yw q2 q3 cwt cmt A0 A1' zD hx1
      go_wp2_with fail
      refine bodyPost_ret (v := ActM ⟨x + m.sy, -1, q, false⟩) (by simp [results, Tryz.results69, go_sem, z0, ActM]) rfl ?_
      exact ⟨by rw [HE3.out], by repeat (first | with_reducible exact hX1 | refine Ext.setCell ?_ hw _)⟩
    · have hyb : (y == 0) = false := by simp [hy0]
      have HE3 : Hid (putP m (j : Int) 2 d = ⟨x, y, ⟨1, (j : Int), 2, m.tp - 1, 0, 0, 0, o⟩, false⟩) := Lib.hid (by rw [HE2.out, if_neg hy0])
      have hwt : IntKind.i64.wrap (m.tp - 1) = m.tp - 1 := IntWalk.i64_in _ (by omega)
      clear HE2 hy0 AF
      obtain ⟨U, hU⟩ : ∃ U, U = W.alloc (.cells #[.int .i64 1, .int .i64 (j : Int), .int .i64 2, .int .i64 (m.tp - 1), .int .i64 0, .int .i64 0, .int .i64 0, .int .i64 o] 73) := ⟨_, rfl⟩
      have hXU : Ext W U := by rw [hU]; exact Ext.alloc _ _
      have hsW : W.heap.size = g + 1 + 1 := by rw [hszW, hsV]
      have bP : Blk U (g + 1 + 1) 73 #[.int .i64 1, .int .i64 (j : Int), .int .i64 2, .int .i64 (m.tp - 1), .int .i64 0, .int .i64 0, .int .i64 0, .int .i64 o] := by rw [hU]; exact Blk.new _ _ _ _ hsW
      go_upto_region 6 with fail
      try rw [← hU]
      try rw [hsW]
      clear hU
      have zD := Ext.drew U
      have zU := hXU.trans zD
      have y2 := zU.cell q2
      have y3 := zU.cell q3
      have yw := zU.cell cwt
      have ym := zU.cell cmt
      have v0 : U.drew.cell? ⟨g + 1 + 1, 0, none⟩ = some (.int .i64 1) := bP.cell 0
      have v1 : U.drew.cell? ⟨g + 1 + 1, 1, none⟩ = some (.int .i64 (j : Int)) := bP.cell 1
      have v2 : U.drew.cell? ⟨g + 1 + 1, 2, none⟩ = some (.int .i64 2) := bP.cell 2
      have v3 : U.drew.cell? ⟨g + 1 + 1, 3, none⟩ = some (.int .i64 (m.tp - 1)) := bP.cell 3
      have v4 : U.drew.cell? ⟨g + 1 + 1, 4, none⟩ = some (.int .i64 0) := bP.cell 4
      have v5 : U.drew.cell? ⟨g + 1 + 1, 5, none⟩ = some (.int .i64 0) := bP.cell 5
      have v6 : U.drew.cell? ⟨g + 1 + 1, 6, none⟩ = some (.int .i64 0) := bP.cell 6
      have v7 : U.drew.cell? ⟨g + 1 + 1, 7, none⟩ = some (.int .i64 o) := bP.cell 7
      refine wp_region_ordT 11 (readsT [0, 1, 2, 3, 4, 5, 6, 7, 8, 9, 10] .done) (by kernel_rfl) (by kernel_rfl) (fun _ _ _ _ _ h => h) ?_
      simp only [readsT]
      iterate 11 (refine wpOrdT_read (v := ?_) (by rfl) (Or.inl ⟨by rfl, fun x hx => ?_⟩) ?_; rotate_left; (· have uy2 := hx.cell y2; have uy3 := hx.cell y3; have uyw := hx.cell yw; have uym := hx.cell ym; have uv0 := hx.cell v0; have uv1 := hx.cell v1; have uv2 := hx.cell v2; have uv3 := hx.cell v3; have uv4 := hx.cell v4; have uv5 := hx.cell v5; have uv6 := hx.cell v6; have uv7 := hx.cell v7; go_simp; try with_reducible rfl); try simp only [Act.put, List.setIfInBounds_toArray, List.set_cons_zero, List.set_cons_succ])
      refine wpOrdT_done ?_
      try simp only [List.drop_succ_cons, List.drop_zero]
      have hX1 := hX.trans zU
      have bZU := bZ.ext zU
      have hw : w.heap.size ≤ g := by omega
      clear y2 y3 yw ym v0 v1 v2 v3 v4 v5 v6 v7 q2 q3 cwt cmt A0 A1' zD zU hXU
      change wpList _ _ _ _ _ U.drew
      generalize U.drew = Y at *
      have z0 := bZU.cell
      have z1 := bZU.frozen
      go_wp2_with fail
      refine bodyPost_ret (v := ActM ⟨x, y, ⟨1, (j : Int), 2, m.tp - 1, 0, 0, 0, o⟩, false⟩) (by simp [results, Tryz.results69, go_sem, z0, ActM]) rfl ?_
      exact ⟨by rw [HE3.out], by repeat (first | with_reducible exact hX1 | refine Ext.setCell ?_ hw _)⟩
end Go.Proofs.YtgeckhjkahnonaaGreatDoor
end
section
namespace Go.Proofs.YtgeckhjkahnonaaGreatDoor
open Go Go.RowKit Go.Proofs
theorem ownsRow_blk {w : World} {base g : Nat} {e : TypeId} {cs : Array Value} (size n : Nat) (hb : Blk w g e cs) (hg : base ≤ g) (hs : cs.size = n * size) (hm : n ≤ 1000000) : w.ownsRow base e size (.slice (some ⟨g, 0, none⟩) n n) n cs.toList :=
  ⟨by simp [hs], .inr ⟨g, n, cs, rfl, hg, hb, Nat.le_refl _, by unfold maxLen; omega, hs, List.take_of_length_le (by simp [hs])⟩⟩
end Go.Proofs.YtgeckhjkahnonaaGreatDoor
end
section
set_option linter.unusedSimpArgs false
set_option linter.unusedVariables false
namespace Go.Proofs.YtgeckhjkahnonaaGreatDoor
open Go Go.RowKit Go.Proofs Go.Maps
set_option maxHeartbeats 400000
/-- A machine with several tapes behind a pointer. -/
def MulAt (w : World) (b : Nat) (m : MultiD) : Prop := ∃ A cA, Blk w b 26 #[.int .i64 m.tp, .int .i64 m.sy, .int .i64 m.st, .slice A m.rules.length cA] ∧ MRules w (.slice A m.rules.length cA) m.rules
theorem MulAt.ext {w w' : World} {b : Nat} {m : MultiD} (h : MulAt w b m) (he : Ext w w') : MulAt w' b m := by
  obtain ⟨A, cA, h1, h2⟩ := h
  exact ⟨A, cA, h1.ext he, h2.ext he⟩
end Go.Proofs.YtgeckhjkahnonaaGreatDoor
end
