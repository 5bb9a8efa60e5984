/- Contract: the first or the last wall of a formula tape is made longer.
Contract: a step of a formula tape on a wall.
Contracts: a repeater of a formula tape is passed, or unrolled. -/
import Derived.Test.YtojiammendjpkaaGreatB24
section
set_option linter.unusedSimpArgs false
set_option linter.unusedVariables false
namespace Go.Proofs.YtojiammendjpkaaGreat
open Go Go.RowKit Go.Proofs
set_option maxHeartbeats 400000
section
variable {w0 : World} {K : Nat → Prop} {w : World} {g : Nat} {f : FoD} {gw gr go cw cr co : Nat} {vw vr : List Value}
/-- The wall under the head. -/
theorem FoO.wallH (h : FoO w0 K w g f gw gr go cw cr co vw vr) {k : Nat} (hk : k < f.ws.length) : ∃ A c, vw[k]? = some (.slice A (f.ws.getD k []).length c) ∧ w.cell? ⟨gw, k, none⟩ = some (.slice A (f.ws.getD k []).length c) ∧ OwnInts w0.heap.size w (.slice A (f.ws.getD k []).length c) (f.ws.getD k []) ∧ (A = none ∨ ∃ b, A = some ⟨b, 0, none⟩) := by
  obtain ⟨u, a, b⟩ := h.iw k hk
  rw [getD_get hk]
  obtain ⟨A, c, rfl, _, _⟩ := b.ints.form
  refine ⟨A, c, a, (own_cell h.ow hk).trans a, b, ?_⟩
  rcases b.2 with ⟨e, _⟩ | ⟨q, cap, cur, e, _⟩
  · injection e with e1; exact .inl e1
  · injection e with e1; exact .inr ⟨q, e1⟩
theorem FoO.repH (h : FoO w0 K w g f gw gr go cw cr co vw vr) {k : Nat} (hk : k < f.rs.length) : ∃ A c, vr[k]? = some (.slice A (f.rs.getD k []).length c) ∧ w.cell? ⟨gr, k, none⟩ = some (.slice A (f.rs.getD k []).length c) ∧ OwnInts w0.heap.size w (.slice A (f.rs.getD k []).length c) (f.rs.getD k []) := by
  obtain ⟨u, a, b⟩ := h.ir k hk
  rw [getD_get hk]
  obtain ⟨A, c, rfl, _, _⟩ := b.ints.form
  exact ⟨A, c, a, (own_cell h.or hk).trans a, b⟩
end
set_option maxRecDepth 20000 in
set_option maxHeartbeats 8000000 in
theorem widen_c {w0 w : World} {K0 : Nat → Prop} {g : Nat} {f : FoD} {gw gr go cw cr co : Nat} {vw vr : List Value} (h : FoO w0 K0 w g f gw gr go cw cr co vw vr) (h1 : 1 ≤ f.rs.length ∧ f.rs.length ≤ 3) (h2 : f.ws.length = f.rs.length + 1) (h3 : 0 ≤ f.hd ∧ f.hd ≤ f.rs.length) (h4 : ∀ x ∈ f.ws, x.length ≤ 500) :
    Calls Tryz.prog 162 #[.pointer (some ⟨g, 0, none⟩)] w fun e w' => e = .returned (.tuple #[]) ∧ ∃ vw', FoO w0 K0 w' g (wideF f) gw gr go cw cr co vw' vr ∧ KpB K0 w w' := by
  obtain ⟨i0, hi, hz0, hz1, hz2⟩ := info_parts intInfo
  obtain ⟨kh, hkh⟩ : ∃ k : Nat, f.hd = k := Int.eq_ofNat_of_zero_le h3.1
  have hkr : kh ≤ f.rs.length := by omega
  have hkw : kh < f.ws.length := by omega
  obtain ⟨A, c, hv, hc, ou, hA⟩ := h.wallH hkw
  have hxl : (f.ws.getD kh []).length ≤ 500 := by rw [getD_get hkw]; exact h4 _ (List.getElem_mem hkw)
  obtain ⟨x, hx⟩ : ∃ x, f.ws.getD kh [] = x := ⟨_, rfl⟩
  rw [hx] at hv hc ou hxl
  have q1 : w.drew.cell? ⟨g, 1, none⟩ = some (.int .i64 (kh : Int)) := by have := h.blk.cell 1; rw [hkh] at this; exact this
  have q3 : w.drew.cell? ⟨g, 3, none⟩ = some (.slice (some ⟨gw, 0, none⟩) f.ws.length cw) := h.blk.cell 3
  have qc : w.drew.cell? ⟨gw, kh, none⟩ = some (.slice A x.length c) := hc
  have hd := h.ext (Ext.drew w)
  have k0 := KpB.ext (Ext.drew w) h.kb
  have hx2 := h.blk.cell 2
  have HN := Lib.hid (And.intro h1 (And.intro h2 (And.intro hkh hx)))
  have HOU := Lib.hid (And.intro hv (ownsRow_ext ou (Ext.drew w)))
  have H := Lib.hid hd
  have HK := Lib.hid k0
  have HH := Lib.hid h
  have p2 : w.drew.cell? ⟨g, 2, none⟩ = some (.int .i64 f.at_) := h.blk.cell 2
  have p1 := q1
  clear hc h h1 h2 h3 h4 hkh hv ou hd k0 hx hx2
  go_enter Tryz.func162, Tryz.ntmps162
  go_wp2_with fail
  refine wp_region_ordT 10 (readsT [0, 1, 2, 3, 4, 5, 6, 7, 8, 9] .done) (by kernel_rfl) (by kernel_rfl) (fun _ _ _ _ _ h => h) ?_
  simp only [readsT]
  iterate 10 (refine wpOrdT_read (v := ?_) (by rfl) (Or.inl ⟨by rfl, fun x hx => ?_⟩) ?_; rotate_left; (· have y1 := Ext.cell hx q1; have y3 := Ext.cell hx q3; have yc := Ext.cell hx qc; go_simp; try first | with_reducible rfl | (rw [if_pos (by omega)]; try with_reducible rfl)); try simp only [Act.put, List.setIfInBounds_toArray, List.set_cons_zero, List.set_cons_succ])
  refine wpOrdT_done ?_
  try simp only [List.drop_succ_cons, List.drop_zero]
  clear q1 q3 qc
  obtain ⟨W, hW⟩ : ∃ W, w.drew = W := ⟨_, rfl⟩
  rw [hW] at p1 p2 HOU H HK
  go_upto_region 1 with fail
  try rw [hW]
  clear hW
  go_cut [13] (fun u wx => u = .bool (decide (f.at_ = -1 ∧ kh = 0)) ∧ W = wx)
  case first =>
    by_cases cA : f.at_ = -1
    · have ea : (f.at_ == -1) = true := by simp [cA]
      by_cases c0 : kh = 0
      · have eh : ((kh : Int) == 0) = true := by simp [c0]
        have hdd : decide (f.at_ = -1 ∧ kh = 0) = true := decide_eq_true ⟨cA, c0⟩
        have HDD := Lib.hid hdd
        clear cA c0 hdd
        go_wp2_with fail
        go_meet
        exact ⟨by rw [HDD.out], rfl⟩
      · have eh : ((kh : Int) == 0) = false := by simp; omega
        have hdd : decide (f.at_ = -1 ∧ kh = 0) = false := decide_eq_false (fun hh => c0 hh.2)
        have HDD := Lib.hid hdd
        clear cA c0 hdd
        go_wp2_with fail
        go_meet
        exact ⟨by rw [HDD.out], rfl⟩
    · have ea : (f.at_ == -1) = false := by simp [cA]
      have hdd : decide (f.at_ = -1 ∧ kh = 0) = false := decide_eq_false (fun hh => cA hh.1)
      have HDD := Lib.hid hdd
      clear cA hdd
      go_wp2_with fail
      go_meet
      exact ⟨by rw [HDD.out], rfl⟩
  case rest =>
    obtain ⟨rfl, rfl⟩ := hcut
    by_cases cC : f.at_ = -1 ∧ kh = 0
    · have hdd : decide (f.at_ = -1 ∧ kh = 0) = true := decide_eq_true cC
      rw [hdd]
      clear hdd
      obtain ⟨cA, rfl⟩ := cC
      go_wp2_with fail
      have hwf : wideF f = ⟨f.q, f.hd, 0, f.ws.set 0 ([0] ++ x), f.rs, f.os⟩ := by
        unfold wideF
        rw [if_pos ⟨cA, by rw [HN.out.2.2.1]; rfl⟩, HN.out.2.2.2]
        rfl
      have HWF := Lib.hid hwf
      have HL0 : Hid (0 < f.ws.length) := Lib.hid hkw
      have g3 : W.drew.cell? ⟨g, 3, none⟩ = some (.slice (some ⟨gw, 0, none⟩) f.ws.length cw) := (H.out.ext (Ext.drew W)).blk.cell 3
      obtain ⟨Wx, hWx⟩ : ∃ Wx, W.drew.alloc (.cells #[.int .i64 0] 2) = Wx := ⟨_, rfl⟩
      obtain ⟨gx, hgx⟩ : ∃ gx, W.drew.heap.size = gx := ⟨_, rfl⟩
      have hgx' : W.heap.size = gx := hgx
      have ex : Ext W.drew Wx := by rw [← hWx]; exact Ext.alloc _ _
      have exW : Ext W Wx := (Ext.drew W).trans ex
      have bx : Blk Wx gx 2 #[.int .i64 0] := by rw [← hWx]; exact Blk.new _ _ _ _ hgx
      have i1 : IL Wx (gx + 1) (.slice (some ⟨gx, 0, none⟩) 1 1) [0] := IL.one (base := 0) bx (by omega)
      have ou := ownsRow_ext HOU.out.2 exW
      have JC := joinedA_c (some ⟨gx, 0, none⟩) A 1 c [0] x Wx i1.ints (OwnInts.ints ou) i1.flat (OwnInts.flat ou) (by simp; omega)
      simp only [List.length_singleton] at JC
      have HW7 := Lib.hid exW
      clear hwf i1 ou bx
      refine wp_region_ordTS (fun x : World => x.cell? ⟨g, 3, none⟩ = some (.slice (some ⟨gw, 0, none⟩) f.ws.length cw)) 11 (readsT [0, 1, 2, 3, 4, 6] (.stir 5 (.stir 7 (.stir 8 (readsT [9] (.stir 10 .done)))))) (by kernel_rfl) (by kernel_rfl) (fun _ _ _ _ _ h => h) g3 ?_
      simp only [readsT]
      iterate 6 (refine wpOrdT_read (v := ?_) (by rfl) (Or.inl ⟨by rfl, fun x hx => ?_⟩) ?_; rotate_left; (· have y3 : x.cell? _ = _ := hx; go_simp; try first | with_reducible rfl | (rw [if_pos (by omega)]; try with_reducible rfl)); try simp only [Act.put, List.setIfInBounds_toArray, List.set_cons_zero, List.set_cons_succ])
      refine wpOrdT_keep (by rfl) (fun K hK => ?_)
      go_simp
      have hWx' : (W.alloc (.cells #[.int .i64 0] 2)).drew = Wx := hWx
      try rw [hWx]
      try rw [hWx']
      try rw [hgx]
      try rw [hgx']
      clear hWx hWx'
      refine hK _ _ (ex.cell g3) ?_
      clear hK K
      try simp only [Act.put, List.setIfInBounds_toArray, List.set_cons_zero, List.set_cons_succ]
      refine wpOrdT_keep (by rfl) (fun K hK => ?_)
      go_simp
      refine hK _ _ ((Ext.alloc _ _).cell (ex.cell g3)) ?_
      clear hK K
      try simp only [Act.put, List.setIfInBounds_toArray, List.set_cons_zero, List.set_cons_succ]
      refine wpOrdT_keep (by rfl) (fun K hK => ?_)
      go_simp
      go_at_call 44
      refine JC.mono ?_
      rintro e w6 ⟨uX, rfl, oX, hx6a⟩
      have hx6x := (Ext.alloc Wx (.cells #[.slice (some ⟨gx, 0, none⟩) 1 1, .slice A x.length c] 27)).trans hx6a
      refine hK _ _ (hx6x.cell (ex.cell g3)) ?_
      clear hK K JC hx6a
      try simp only [Act.put, List.setIfInBounds_toArray, List.set_cons_zero, List.set_cons_succ]
      refine wpOrdT_read (v := ?_) (by rfl) (Or.inl ⟨by rfl, fun x hx => ?_⟩) ?_; rotate_left; (· have hl0 := HL0.out; go_simp; try first | with_reducible rfl | (rw [if_pos (by omega)]; try with_reducible rfl)); try simp only [Act.put, List.setIfInBounds_toArray, List.set_cons_zero, List.set_cons_succ]
      have h6 := H.out.ext (HW7.out.trans hx6x)
      have oX1 : OwnInts W.heap.size w6 uX ([0] ++ x) := ownsRow_base oX HW7.out.size
      obtain ⟨fr1, fr2⟩ := H.out.fresh oX1
      have oX2 : OwnInts w0.heap.size w6 uX ([0] ++ x) := ownsRow_base oX1 H.out.ext0.size
      obtain ⟨h7, k7⟩ := h6.putW HL0.out oX2 (fun j v _ hj => fr1 v (List.mem_of_getElem? hj)) fr2
      have k6 : KpB K0 W w6 := KpB.ext (HW7.out.trans hx6x) H.out.kb
      obtain ⟨h8, k8⟩ := h7.setA 0
      obtain ⟨⟨csw, bW⟩, _⟩ := own_blk h6.ow
      obtain ⟨gX, cX, hgX⟩ := own_some oX (by simp)
      have hlx : ([0] ++ x).length = x.length + 1 := by simp
      rw [hlx] at hgX
      subst hgX
      have cw6 : w6.cell? ⟨gw, 0, none⟩ = some (.slice A x.length c) := by rw [own_cell h6.ow HL0.out]; exact HOU.out.1
      have fw6 := bW.frozen 0
      have HR8 := Lib.hid (And.intro h8 (((HK.out.trans k6).trans k7).trans k8))
      have f8 := h6.blk.frozen 2
      have c8 : (w6.setCell ⟨gw, 0, none⟩ (.slice (some ⟨gX, 0, none⟩) (x.length + 1) cX)).cell? ⟨g, 2, none⟩ = some (.int .i64 f.at_) := h7.blk.cell 2
      have g8 : (w6.setCell ⟨gw, 0, none⟩ (.slice (some ⟨gX, 0, none⟩) (x.length + 1) cX)).cell? ⟨g, 3, none⟩ = some (.slice (some ⟨gw, 0, none⟩) f.ws.length cw) := by have := h7.blk.cell 3; simpa using this
      clear h6 oX oX1 fr1 fr2 oX2 h7 k7 k6 h8 k8 bW exW ex g3
      refine wpOrdT_keep (by rfl) (fun K hK => ?_)
      go_simp
      refine hK _ _ g8 ?_
      clear hK K
      try simp only [Act.put, List.setIfInBounds_toArray, List.set_cons_zero, List.set_cons_succ]
      refine wpOrdT_done ?_
      try simp only [List.drop_succ_cons, List.drop_zero]
      have HFIN : Hid (∃ vw', FoO w0 K0 ((w6.setCell ⟨gw, 0, none⟩ (.slice (some ⟨gX, 0, none⟩) (x.length + 1) cX)).setCell ⟨g, 2, none⟩ (.int .i64 0)) g (wideF f) gw gr go cw cr co vw' vr ∧ KpB K0 w ((w6.setCell ⟨gw, 0, none⟩ (.slice (some ⟨gX, 0, none⟩) (x.length + 1) cX)).setCell ⟨g, 2, none⟩ (.int .i64 0))) := Lib.hid ⟨_, by rw [HWF.out]; exact HR8.out.1, HR8.out.2⟩
      clear HR8 HWF
      go_wp2
      exact bodyPost_end (results_none rfl _ _ _) rfl ⟨rfl, HFIN.out⟩
    · have hdd : decide (f.at_ = -1 ∧ kh = 0) = false := decide_eq_false cC
      rw [hdd]
      clear hdd
      have HCC := Lib.hid cC
      clear cC
      go_upto_region 3 with fail
      by_cases cB : f.at_ = (x.length : Int)
      · have eb : (f.at_ == (x.length : Int)) = true := by simp [cB]
        have HB := Lib.hid cB
        clear cB
        by_cases cL : kh = f.rs.length
        · have el : ((kh : Int) == (f.ws.length : Int) - 1) = true := by have := HN.out.2.1; simp; omega
          have HCL := Lib.hid cL
          clear cL
          have SZ := sizeIN_c A x.length c W.drew
          have g2 : W.drew.cell? ⟨g, 2, none⟩ = some (.int .i64 f.at_) := p2
          refine wp_region_ordT 18 (readsT [0, 1, 2, 3, 4] (.stir 5 (readsT [6, 7, 8, 9, 10, 11, 12, 13, 14] (.stir 15 (readsT [16, 17] .done))))) (by kernel_rfl) (by kernel_rfl) (fun _ _ _ _ _ h => h) ?_
          simp only [readsT]
          iterate 5 (refine wpOrdT_read (v := ?_) (by rfl) (Or.inl ⟨by rfl, fun x hx => ?_⟩) ?_; rotate_left; (· have y2 := Ext.cell hx g2; go_simp; try first | with_reducible rfl | (rw [if_pos (by omega)]; try with_reducible rfl)); try simp only [Act.put, List.setIfInBounds_toArray, List.set_cons_zero, List.set_cons_succ])
          refine wpOrdT_stir (by rfl) (fun K hK => ?_)
          go_simp
          go_at_call 112
          refine SZ.mono ?_
          rintro e wz ⟨rfl, rfl⟩
          refine hK _ _ (Ext.refl _) ?_
          clear hK K SZ
          try simp only [Act.put, List.setIfInBounds_toArray, List.set_cons_zero, List.set_cons_succ]
          iterate 2 (refine wpOrdT_read (v := .bool true) (by rfl) (Or.inl ⟨by rfl, fun x hx => ?_⟩) ?_; (· go_simp; try rw [eb]); try simp only [Act.put, List.setIfInBounds_toArray, List.set_cons_zero, List.set_cons_succ])
          have LA := last_c _ _ _ _ f W.drew (H.out.ext (Ext.drew W)).at.val (by have := HN.out; omega)
          have hh1 : W.drew.cell? ⟨g, 1, none⟩ = some (.int .i64 (kh : Int)) := p1
          have hb := (H.out.ext (Ext.drew W)).blk.cell
          have b0 := hb 0
          have b3 := hb 3
          have b4 := hb 4
          have b5 := hb 5
          simp only [List.getElem?_toArray, List.getElem?_cons_zero, List.getElem?_cons_succ] at b0 b3 b4 b5
          have hhd : f.hd = (kh : Int) := HN.out.2.2.1
          rw [hhd] at LA
          clear hb hhd
          iterate 7 (refine wpOrdT_read (v := ?_) (by rfl) (Or.inl ⟨by rfl, fun x hx => ?_⟩) ?_; rotate_left; (· have y0 := Ext.cell hx b0; have y1 := Ext.cell hx hh1; have y2 := Ext.cell hx g2; have y3 := Ext.cell hx b3; have y4 := Ext.cell hx b4; have y5 := Ext.cell hx b5; go_simp; try first | with_reducible rfl | (rw [if_pos (by omega)]; try with_reducible rfl)); try simp only [Act.put, List.setIfInBounds_toArray, List.set_cons_zero, List.set_cons_succ])
          refine wpOrdT_stir (by rfl) (fun K hK => ?_)
          go_simp
          go_at_call 187
          refine LA.mono ?_
          rintro e wz ⟨rfl, hxz⟩
          refine hK _ _ hxz ?_
          clear hK K LA b0 b3 b4 b5 hh1
          try simp only [Act.put, List.setIfInBounds_toArray, List.set_cons_zero, List.set_cons_succ]
          iterate 2 (refine wpOrdT_read (v := .bool true) (by rfl) (Or.inl ⟨by rfl, fun x hx => ?_⟩) ?_; (· go_simp; try rw [el]); try simp only [Act.put, List.setIfInBounds_toArray, List.set_cons_zero, List.set_cons_succ])
          refine wpOrdT_done ?_
          try simp only [List.drop_succ_cons, List.drop_zero]
          have hwf : wideF f = ⟨f.q, f.hd, f.at_, f.ws.set kh (x ++ [0]), f.rs, f.os⟩ := by
            unfold wideF
            rw [if_neg (fun hh => HCC.out ⟨hh.1, by have := HN.out.2.2.1; omega⟩), HN.out.2.2.1, Int.toNat_natCast, HN.out.2.2.2, if_pos ⟨HB.out, by have := HN.out.2.1; have := HCL.out; omega⟩]
          have HWF := Lib.hid hwf
          have hZ : Ext W wz := (Ext.drew W).trans hxz
          have HZ := Lib.hid hZ
          have hkl : kh < f.ws.length := hkw
          clear hwf hxz g2 el eb
          go_wp2_with fail
          have r1 : wz.drew.cell? ⟨g, 1, none⟩ = some (.int .i64 (kh : Int)) := hZ.cell p1
          have r3 : wz.drew.cell? ⟨g, 3, none⟩ = some (.slice (some ⟨gw, 0, none⟩) f.ws.length cw) := (H.out.ext hZ).blk.cell 3
          obtain ⟨Wx, hWx⟩ : ∃ Wx, wz.drew.alloc (.cells #[.int .i64 0] 2) = Wx := ⟨_, rfl⟩
          obtain ⟨gx, hgx⟩ : ∃ gx, wz.heap.size = gx := ⟨_, rfl⟩
          have ex : Ext wz Wx := by rw [← hWx]; exact (Ext.drew wz).trans (Ext.alloc _ _)
          have exx : Ext wz.drew Wx := by rw [← hWx]; exact Ext.alloc _ _
          have hgs : gx ≤ Wx.heap.size := by have := ex.size; omega
          have h5 := H.out.ext (hZ.trans ex)
          have hq1 : Wx.ownsRow w0.heap.size 2 1 (.slice A x.length c) x.length (ivs x) := ownsRow_ext HOU.out.2 (hZ.trans ex)
          have hbs : w0.heap.size ≤ Wx.heap.size := h5.ext0.size
          have cell1 : ∀ (j : Nat) (u : Value), [(.int .i64 0 : Value)][j]? = some u → Wx.cell? ((⟨gx, 0, none⟩ : Addr).add j) = some u := by
            have := cell_one_new wz.drew (.int .i64 0) 2
            rw [hWx] at this
            rw [← hgx]
            exact this
          clear hZ
          refine wp_region_ordTS (fun x : World => x.cell? ⟨g, 1, none⟩ = some (.int .i64 (kh : Int)) ∧ x.cell? ⟨g, 3, none⟩ = some (.slice (some ⟨gw, 0, none⟩) f.ws.length cw)) 11 (readsT [0, 1, 2, 3, 4, 5, 6, 7, 8] (.stir 9 (.stir 10 .done))) (by kernel_rfl) (by kernel_rfl) (fun _ _ _ _ _ h => h) ⟨r1, r3⟩ ?_
          simp only [readsT]
          iterate 9 (refine wpOrdT_read (v := ?_) (by rfl) (Or.inl ⟨by rfl, fun x hx => ?_⟩) ?_; rotate_left; (· have y1 : x.cell? _ = _ := hx.1; have y3 : x.cell? _ = _ := hx.2; go_simp; try first | with_reducible rfl | (rw [if_pos (by omega)]; try with_reducible rfl)); try simp only [Act.put, List.setIfInBounds_toArray, List.set_cons_zero, List.set_cons_succ])
          refine wpOrdT_keep (by rfl) (fun K hK => ?_)
          go_simp
          have hWx' : (wz.alloc (.cells #[.int .i64 0] 2)).drew = Wx := hWx
          try rw [hWx]
          try rw [hWx']
          try rw [hgx]
          refine hK _ _ ⟨exx.cell r1, exx.cell r3⟩ ?_
          clear hK K hWx hWx' hgx
          try simp only [Act.put, List.setIfInBounds_toArray, List.set_cons_zero, List.set_cons_succ]
          refine wpOrdT_keep (by rfl) (fun K hK => ?_)
          refine step_append_lies _ rfl (.tmp 65) (.tmp 66) 27 rfl w0.heap.size 2 i0 (.int .i64 0) 1 8 Tryz.underlying27 hi hz0 hz1 hz2 rfl (by decide) _ _ _ rfl hq1 ⟨gx, 0, none⟩ 1 1 [.int .i64 0] rfl rfl cell1 ?c2 (by decide) ?c3 ?c4 ?c5 _ rfl ?_
          case c2 => intro u hu; simp at hu; subst hu; rfl
          case c3 => unfold maxLen; omega
          case c4 => omega
          case c5 => exact hbs
          intro g9 c9 w9 hown9 hg9 hat9 hlt9
          have hos : OwnInts w0.heap.size w9 (.slice (some ⟨g9, 0, none⟩) (x.length + 1) c9) (x ++ [0]) := by simpa [OwnInts, ivs_append, ivs] using hown9
          have hat : (.slice (some ⟨g9, 0, none⟩) (x.length + 1) c9 : Value).ownBlock = (.slice A x.length c : Value).ownBlock ∨ (.slice (some ⟨g9, 0, none⟩) (x.length + 1) c9 : Value).ownBlock = some Wx.heap.size := by
            rcases hat9 with e | e
            · exact .inl (by rw [show (.slice A x.length c : Value).ownBlock = some g9 from e]; rfl)
            · exact .inr (by rw [← e]; rfl)
          obtain ⟨h7, k7, f7, c7⟩ := h5.grow hkl HOU.out.1 hg9 hos hat
          have bF9 := Blk.apart h5.blk hq1 (by decide) hg9
          have s1 : w9.cell? ⟨g, 1, none⟩ = some (.int .i64 (kh : Int)) := by have := bF9.cell 1; rw [show f.hd = (kh : Int) from HN.out.2.2.1] at this; exact this
          have s3 : w9.cell? ⟨g, 3, none⟩ = some (.slice (some ⟨gw, 0, none⟩) f.ws.length cw) := bF9.cell 3
          refine hK _ _ ⟨s1, s3⟩ ?_
          clear hK K
          try simp only [Act.put, List.setIfInBounds_toArray, List.set_cons_zero, List.set_cons_succ]
          refine wpOrdT_done ?_
          try simp only [List.drop_succ_cons, List.drop_zero]
          have HFIN : Hid (∃ vw', FoO w0 K0 (w9.setCell ⟨gw, kh, none⟩ (.slice (some ⟨g9, 0, none⟩) (x.length + 1) c9)) g (wideF f) gw gr go cw cr co vw' vr ∧ KpB K0 w (w9.setCell ⟨gw, kh, none⟩ (.slice (some ⟨g9, 0, none⟩) (x.length + 1) c9))) := Lib.hid ⟨_, by rw [HWF.out]; exact h7, (HK.out.trans (KpB.ext (HZ.out.trans ex) H.out.kb)).trans k7⟩
          clear h7 k7 bF9 hos hat hown9 hg9 hat9 hq1 h5 ex exx cell1 r1 r3 HWF hbs hgs
          go_wp2
          exact bodyPost_end (results_none rfl _ _ _) rfl ⟨rfl, HFIN.out⟩
        · have el : ((kh : Int) == (f.ws.length : Int) - 1) = false := by have := HN.out.2.1; simp; omega
          have HWF : Hid (wideF f = f) := Lib.hid (by
            unfold wideF
            rw [if_neg (fun hh => HCC.out ⟨hh.1, by have := HN.out.2.2.1; omega⟩), if_neg (fun hh => cL (by have := HN.out.2.1; have := HN.out.2.2.1; omega))])
          clear cL
          have SZ := sizeIN_c A x.length c W.drew
          have g2 : W.drew.cell? ⟨g, 2, none⟩ = some (.int .i64 f.at_) := p2
          refine wp_region_ordT 18 (readsT [0, 1, 2, 3, 4] (.stir 5 (readsT [6, 7, 8, 9, 10, 11, 12, 13, 14] (.stir 15 (readsT [16, 17] .done))))) (by kernel_rfl) (by kernel_rfl) (fun _ _ _ _ _ h => h) ?_
          simp only [readsT]
          iterate 5 (refine wpOrdT_read (v := ?_) (by rfl) (Or.inl ⟨by rfl, fun x hx => ?_⟩) ?_; rotate_left; (· have y2 := Ext.cell hx g2; go_simp; try first | with_reducible rfl | (rw [if_pos (by omega)]; try with_reducible rfl)); try simp only [Act.put, List.setIfInBounds_toArray, List.set_cons_zero, List.set_cons_succ])
          refine wpOrdT_stir (by rfl) (fun K hK => ?_)
          go_simp
          go_at_call 112
          refine SZ.mono ?_
          rintro e wz ⟨rfl, rfl⟩
          refine hK _ _ (Ext.refl _) ?_
          clear hK K SZ
          try simp only [Act.put, List.setIfInBounds_toArray, List.set_cons_zero, List.set_cons_succ]
          iterate 2 (refine wpOrdT_read (v := .bool true) (by rfl) (Or.inl ⟨by rfl, fun x hx => ?_⟩) ?_; (· go_simp; try rw [eb]); try simp only [Act.put, List.setIfInBounds_toArray, List.set_cons_zero, List.set_cons_succ])
          have LA := last_c _ _ _ _ f W.drew (H.out.ext (Ext.drew W)).at.val (by have := HN.out; omega)
          have hh1 : W.drew.cell? ⟨g, 1, none⟩ = some (.int .i64 (kh : Int)) := p1
          have hb := (H.out.ext (Ext.drew W)).blk.cell
          have b0 := hb 0
          have b3 := hb 3
          have b4 := hb 4
          have b5 := hb 5
          simp only [List.getElem?_toArray, List.getElem?_cons_zero, List.getElem?_cons_succ] at b0 b3 b4 b5
          have hhd : f.hd = (kh : Int) := HN.out.2.2.1
          rw [hhd] at LA
          clear hb hhd
          iterate 7 (refine wpOrdT_read (v := ?_) (by rfl) (Or.inl ⟨by rfl, fun x hx => ?_⟩) ?_; rotate_left; (· have y0 := Ext.cell hx b0; have y1 := Ext.cell hx hh1; have y2 := Ext.cell hx g2; have y3 := Ext.cell hx b3; have y4 := Ext.cell hx b4; have y5 := Ext.cell hx b5; go_simp; try first | with_reducible rfl | (rw [if_pos (by omega)]; try with_reducible rfl)); try simp only [Act.put, List.setIfInBounds_toArray, List.set_cons_zero, List.set_cons_succ])
          refine wpOrdT_stir (by rfl) (fun K hK => ?_)
          go_simp
          go_at_call 187
          refine LA.mono ?_
          rintro e wz ⟨rfl, hxz⟩
          refine hK _ _ hxz ?_
          clear hK K LA b0 b3 b4 b5 hh1
          try simp only [Act.put, List.setIfInBounds_toArray, List.set_cons_zero, List.set_cons_succ]
          iterate 2 (refine wpOrdT_read (v := .bool false) (by rfl) (Or.inl ⟨by rfl, fun x hx => ?_⟩) ?_; (· go_simp; try rw [el]); try simp only [Act.put, List.setIfInBounds_toArray, List.set_cons_zero, List.set_cons_succ])
          refine wpOrdT_done ?_
          try simp only [List.drop_succ_cons, List.drop_zero]
          have HFIN : Hid (∃ vw', FoO w0 K0 wz g (wideF f) gw gr go cw cr co vw' vr ∧ KpB K0 w wz) := Lib.hid ⟨vw, by rw [HWF.out]; exact (H.out.ext (Ext.drew W)).ext hxz, (HK.out.trans (KpB.ext (Ext.drew W) H.out.kb)).trans (KpB.ext hxz (H.out.ext (Ext.drew W)).kb)⟩
          go_wp2
          exact bodyPost_end (results_none rfl _ _ _) rfl ⟨rfl, HFIN.out⟩
      · have eb : (f.at_ == (x.length : Int)) = false := by simp [cB]
        have HWF : Hid (wideF f = f) := Lib.hid (by
          unfold wideF
          rw [if_neg (fun hh => HCC.out ⟨hh.1, by have := HN.out.2.2.1; omega⟩), if_neg (fun hh => cB (by rw [hh.1, HN.out.2.2.1, Int.toNat_natCast, HN.out.2.2.2]))])
        clear cB
        have SZ := sizeIN_c A x.length c W.drew
        have g2 : W.drew.cell? ⟨g, 2, none⟩ = some (.int .i64 f.at_) := p2
        refine wp_region_ordT 18 (readsT [0, 1, 2, 3, 4] (.stir 5 (readsT [6, 7, 8, 9, 10, 11, 12, 13, 14] (.stir 15 (readsT [16, 17] .done))))) (by kernel_rfl) (by kernel_rfl) (fun _ _ _ _ _ h => h) ?_
        simp only [readsT]
        iterate 5 (refine wpOrdT_read (v := ?_) (by rfl) (Or.inl ⟨by rfl, fun x hx => ?_⟩) ?_; rotate_left; (· have y2 := Ext.cell hx g2; go_simp; try first | with_reducible rfl | (rw [if_pos (by omega)]; try with_reducible rfl)); try simp only [Act.put, List.setIfInBounds_toArray, List.set_cons_zero, List.set_cons_succ])
        refine wpOrdT_stir (by rfl) (fun K hK => ?_)
        go_simp
        go_at_call 112
        refine SZ.mono ?_
        rintro e wz ⟨rfl, rfl⟩
        refine hK _ _ (Ext.refl _) ?_
        clear hK K SZ
        try simp only [Act.put, List.setIfInBounds_toArray, List.set_cons_zero, List.set_cons_succ]
        iterate 2 (refine wpOrdT_read (v := .bool false) (by rfl) (Or.inl ⟨by rfl, fun x hx => ?_⟩) ?_; (· go_simp; try rw [eb]); try simp only [Act.put, List.setIfInBounds_toArray, List.set_cons_zero, List.set_cons_succ])
        iterate 7 (refine wpOrdT_read (v := undef) (by rfl) (Or.inr ⟨by rfl, by rfl⟩) ?_; try simp only [Act.put, List.setIfInBounds_toArray, List.set_cons_zero, List.set_cons_succ])
        refine wpOrdT_stir (by rfl) (fun K hK => ?_)
        go_simp
        refine hK _ _ (Ext.refl _) ?_
        clear hK K
        try simp only [Act.put, List.setIfInBounds_toArray, List.set_cons_zero, List.set_cons_succ]
        refine wpOrdT_read (v := undef) (by rfl) (Or.inr ⟨by rfl, by rfl⟩) ?_
        try simp only [Act.put, List.setIfInBounds_toArray, List.set_cons_zero, List.set_cons_succ]
        refine wpOrdT_read (v := ?_) (by rfl) (Or.inl ⟨by rfl, fun x hx => ?_⟩) ?_; rotate_left; (· go_simp; try with_reducible rfl); try simp only [Act.put, List.setIfInBounds_toArray, List.set_cons_zero, List.set_cons_succ]
        refine wpOrdT_done ?_
        try simp only [List.drop_succ_cons, List.drop_zero]
        have HFIN : Hid (∃ vw', FoO w0 K0 W.drew g (wideF f) gw gr go cw cr co vw' vr ∧ KpB K0 w W.drew) := Lib.hid ⟨vw, by rw [HWF.out]; exact (H.out.ext (Ext.drew W)), (HK.out.trans (KpB.ext (Ext.drew W) H.out.kb))⟩
        go_wp2
        exact bodyPost_end (results_none rfl _ _ _) rfl ⟨rfl, HFIN.out⟩
end Go.Proofs.YtojiammendjpkaaGreat
end
section
set_option linter.unusedSimpArgs false
set_option linter.unusedVariables false
namespace Go.Proofs.YtojiammendjpkaaGreat
open Go Go.RowKit Go.Proofs
set_option maxHeartbeats 400000
section
variable {w0 : World} {K : Nat → Prop} {w W : World} {g : Nat} {f : FoD} {gw gr go cw cr co : Nat} {vw vr : List Value}
/-- Blocks made later are kept too. -/
theorem FoO.more {K' : Nat → Prop} (h : FoO w0 K w g f gw gr go cw cr co vw vr) (he : Ext w W) (hK : ∀ k, K' k → K k ∨ (w.heap.size ≤ k ∧ k < W.heap.size)) : FoO w0 K' W g f gw gr go cw cr co vw vr := by
  have hb : ∀ {k : Nat} {t : TypeId} {cs : Array Value}, Blk w k t cs → ¬ K k → ¬ K' k := fun b hn hk => by
    rcases hK _ hk with c | c
    · exact hn c
    · have := b.lt; omega
  obtain ⟨⟨_, b1⟩, _⟩ := own_blk h.ow
  obtain ⟨⟨_, b2⟩, _⟩ := own_blk h.or
  obtain ⟨⟨_, b3⟩, _⟩ := own_blk h.oo
  have h' := h.ext he
  refine ⟨h'.ext0, fun k hk => ?_, hb h.blk h.kg, hb b1 h.kw, hb b2 h.kr, hb b3 h.ko, fun v hv k hk => ⟨fun hk' => ?_, (h.lst v hv k hk).2⟩, h'.blk, h'.ow, h'.or, h'.oo, h'.iw, h'.ir, h.ne, h.bg, h.pw⟩
  · rcases hK k hk with c | c
    · exact h'.kb k c
    · exact c.2
  · rcases hK k hk' with c | c
    · exact (h.lst v hv k hk).1 c
    · have hlt : ∃ ys, OwnInts w0.heap.size w v ys := by
        rcases List.mem_append.1 hv with d | d
        · obtain ⟨i, hi, rfl⟩ := List.getElem_of_mem d
          obtain ⟨z, a, b⟩ := h.iw i (by have := h.ow.1; omega)
          rw [List.getElem?_eq_getElem hi] at a
          rw [Option.some.inj a]
          exact ⟨_, b⟩
        · obtain ⟨i, hi, rfl⟩ := List.getElem_of_mem d
          obtain ⟨z, a, b⟩ := h.ir i (by have := h.or.1; omega)
          rw [List.getElem?_eq_getElem hi] at a
          rw [Option.some.inj a]
          exact ⟨_, b⟩
      obtain ⟨ys, hy⟩ := hlt
      have := (World.ownsRow.lt hy k hk).2
      omega
theorem KpB.mono {K' : Nat → Prop} (h : KpB K w W) (hk : ∀ k, K' k → K k) : KpB K' w W := fun k a => h k (hk k a)
end
theorem foOk_word' {m : MachD} {f : FoD} (h : foOk m f = true) : (∀ x ∈ f.ws, ∀ z ∈ x, 0 ≤ z ∧ z < m.sy) ∧ (∀ x ∈ f.rs, ∀ z ∈ x, 0 ≤ z ∧ z < m.sy) ∧ 0 ≤ f.q ∧ f.q < m.st := by
  unfold foOk at h
  simp only [Bool.and_eq_true, decide_eq_true_eq, List.all_eq_true] at h
  obtain ⟨⟨⟨⟨⟨⟨⟨⟨q, _⟩, _⟩, _⟩, d⟩, e⟩, _⟩, _⟩, _⟩ := h
  have q := inB_iff.1 q
  refine ⟨fun x hx z hz => ?_, fun x hx z hz => ?_, by omega, by omega⟩
  · have := d x hx
    simp only [wordIn, Bool.and_eq_true, List.all_eq_true] at this
    have := inB_iff.1 (this.2 z hz); omega
  · have := e x hx
    simp only [repIn, wordIn, Bool.and_eq_true, List.all_eq_true] at this
    have := inB_iff.1 (this.2.2 z hz); omega
set_option maxRecDepth 20000 in
set_option maxHeartbeats 8000000 in
theorem stepWall_c (m : MachD) (mv : Value) {w0 w : World} {K0 : Nat → Prop} {g : Nat} {f : FoD} {gw gr go cw cr co : Nat} {vw vr : List Value} (h : FoO w0 K0 w g f gw gr go cw cr co vw vr) (hM : Rules w mv m.rules) (hm : machOk m = true) (hok : foOk m f = true)
    (ha : 0 ≤ f.at_ ∧ f.at_ < ((f.ws.getD f.hd.toNat []).length : Int)) :
    Calls Tryz.prog 126 #[.pointer (some ⟨g, 0, none⟩), .agg #[.int .i64 m.sy, .int .i64 m.st, mv]] w fun e w' =>
      (ruleW m f = noR ∧ e = .returned (.bool false) ∧ Ext w w') ∨ (¬ ruleW m f = noR ∧ e = .returned (.bool true) ∧ ∃ vw', FoO w0 K0 w' g (stW m f) gw gr go cw cr co vw' vr ∧ KpB K0 w w') := by
  obtain ⟨y1, y2, t1, t2⟩ := (machOk_five hm).1
  obtain ⟨hr13, hws, hos, hwl, _⟩ := foOk_parts hok
  have hhd := foOk_hd hok
  obtain ⟨hwz, _, hq0, hq1⟩ := foOk_word' hok
  obtain ⟨kh, hkh⟩ : ∃ k : Nat, f.hd = k := Int.eq_ofNat_of_zero_le hhd.1
  obtain ⟨j, hj⟩ : ∃ j : Nat, f.at_ = j := Int.eq_ofNat_of_zero_le ha.1
  have hkw : kh < f.ws.length := by omega
  obtain ⟨A, c, hv, hc, ou, hA⟩ := h.wallH hkw
  have hxl : (f.ws.getD kh []).length ≤ 100 := by rw [getD_get hkw]; exact hwl _ (List.getElem_mem hkw)
  have hxz : ∀ z ∈ f.ws.getD kh [], 0 ≤ z ∧ z < m.sy := by rw [getD_get hkw]; exact hwz _ (List.getElem_mem hkw)
  have hxe : f.ws[kh] = f.ws.getD kh [] := (getD_get hkw).symm
  obtain ⟨x, hx⟩ : ∃ x, f.ws.getD kh [] = x := ⟨_, rfl⟩
  rw [hx] at hv hc ou hxl hxz hxe
  have hjx : j < x.length := by rw [hkh, Int.toNat_natCast, hx] at ha; omega
  obtain ⟨bw, cb, hAe⟩ := own_some ou (by omega)
  injection hAe with hAe _ hce
  subst hAe hce
  obtain ⟨z, hz⟩ : ∃ z, x[j] = z := ⟨_, rfl⟩
  have hzr := hxz _ (List.getElem_mem hjx)
  rw [hz] at hzr
  obtain ⟨i, hil, hi1, hi2, hi3, hi4, hi5⟩ := rule_idx hm ⟨hq0, hq1⟩ hzr
  obtain ⟨Ar, car, rfl, _, _⟩ := hM.form
  obtain ⟨b', off, rfl, hcr⟩ := hM.at hil
  obtain ⟨r0, r1, r2⟩ := hcr i hil
  obtain ⟨ru, hru⟩ : ∃ ru, m.rules[i] = ru := ⟨_, rfl⟩
  rw [hru] at r0 r1 r2 hi3
  have hrW : ruleW m f = ru := by unfold ruleW; rw [hkh, Int.toNat_natCast, hx, hj, Int.toNat_natCast, getD_get hjx, hz, hi3]
  have hpr := fun hr => rule_parts hm hil (by rw [hru]; exact hr)
  rw [hru] at hpr
  obtain ⟨V, hV⟩ : ∃ V, V = w.alloc (.cells #[.int .i64 m.sy, .int .i64 m.st, .slice (some ⟨b', off, none⟩) m.rules.length car] 26) := ⟨_, rfl⟩
  obtain ⟨gm, hgm⟩ : ∃ g, w.heap.size = g := ⟨_, rfl⟩
  have hX : Ext w V := by rw [hV]; exact Ext.alloc _ _
  have bm : Blk V gm 26 #[.int .i64 m.sy, .int .i64 m.st, .slice (some ⟨b', off, none⟩) m.rules.length car] := by rw [hV]; exact Blk.new _ _ _ _ hgm
  have hD := h.ext (hX.trans (Ext.drew V))
  have q1 : V.drew.cell? ⟨g, 1, none⟩ = some (.int .i64 (kh : Int)) := by have := hD.blk.cell 1; rw [hkh] at this; exact this
  have q3 : V.drew.cell? ⟨g, 3, none⟩ = some (.slice (some ⟨gw, 0, none⟩) f.ws.length cw) := hD.blk.cell 3
  have qc : V.drew.cell? ⟨gw, kh, none⟩ = some (.slice (some ⟨bw, 0, none⟩) x.length c) := (hX.trans (Ext.drew V)).cell hc
  have cz : w.cell? ⟨bw, j, none⟩ = some (.int .i64 z) := by have := own_cell ou hjx; rw [ivs_get _ j hjx, hz] at this; exact this
  have HALL := Lib.hid (And.intro hr13 (And.intro hws (And.intro hkh (And.intro hj (And.intro hx (And.intro hxe (And.intro hrW (And.intro hpr hwl))))))))
  have HX := Lib.hid hX
  have H := Lib.hid h
  have HV := Lib.hid (And.intro hv hz)
  have m0 := bm.cell 0
  have m2 := bm.cell 2
  simp only [List.getElem?_toArray, List.getElem?_cons_zero, List.getElem?_cons_succ] at m0 m2
  have HC := Lib.hid (And.intro (hX.cell r0) (And.intro (hX.cell r1) (And.intro (hX.cell r2) (And.intro (hX.cell cz) (And.intro m0 m2)))))
  have hww : IntKind.i64.wrap (f.q * m.sy) = f.q * m.sy := IntWalk.i64_in _ (by omega)
  have hwa : IntKind.i64.wrap (f.q * m.sy + z) = (i : Int) := by rw [hi1]; exact IntWalk.i64_in _ (by omega)
  have hgq := hD.blk.cell 0
  have hgat := hD.blk.cell 2
  rw [hj] at hgat
  have HGQ : Hid (V.cell? ⟨g, 0, none⟩ = some (.int .i64 f.q) ∧ V.cell? ⟨g, 2, none⟩ = some (.int .i64 (j : Int))) := Lib.hid ⟨hgq, hgat⟩
  clear h hX hr13 hws hkh hj hx hxe hrW hpr hv hz r0 r1 r2 cz hi1 hi2 hi3 hi4 hcr hM ou hc bm hru hok ha hhd hwz hxz hzr hwl m0 m2 hos hgq hgat hD
  go_enter Tryz.func126, Tryz.ntmps126
  go_wp2_with fail
  try rw [← hV]
  try rw [hgm]
  refine wp_region_ordT 10 (readsT [0, 1, 2, 3, 4, 5, 6, 7, 8, 9] .done) (by kernel_rfl) (by kernel_rfl) (fun _ _ _ _ _ h => h) ?_
  simp only [readsT]
  iterate 10 (refine wpOrdT_read (v := ?_) (by rfl) (Or.inl ⟨by rfl, fun x hx => ?_⟩) ?_; rotate_left; (· have y1 := Ext.cell hx q1; have y3 := Ext.cell hx q3; have yc := Ext.cell hx qc; go_simp; try first | with_reducible rfl | (rw [if_pos (by omega)]; try with_reducible rfl)); try simp only [Act.put, List.setIfInBounds_toArray, List.set_cons_zero, List.set_cons_succ])
  refine wpOrdT_done ?_
  try simp only [List.drop_succ_cons, List.drop_zero]
  clear q1 q3 qc
  obtain ⟨W, hW⟩ : ∃ W, V.drew = W := ⟨_, rfl⟩
  have HXW : Hid (Ext V W) := Lib.hid (by rw [← hW]; exact Ext.drew V)
  go_wp2_with fail
  try rw [hW]
  clear hW hV
  have e2 := HXW.out.trans (Ext.drew W)
  have x0 := e2.cell HC.out.1
  have x1 := e2.cell HC.out.2.1
  have x2 := e2.cell HC.out.2.2.1
  have xz := e2.cell HC.out.2.2.2.1
  have xm0 := e2.cell HC.out.2.2.2.2.1
  have xm2 := e2.cell HC.out.2.2.2.2.2
  have xq := e2.cell HGQ.out.1
  have xa := e2.cell HGQ.out.2
  refine wp_region_ordT 20 (readsT [0, 1, 2, 3, 4, 5, 6, 7, 8, 9, 10, 11, 12, 13, 14, 15, 16, 17, 18] (.stir 19 .done)) (by kernel_rfl) (by kernel_rfl) (fun _ _ _ _ _ h => h) ?_
  simp only [readsT]
  iterate 19 (refine wpOrdT_read (v := ?_) (by rfl) (Or.inl ⟨by rfl, fun x hx => ?_⟩) ?_; rotate_left; (· have y0 := Ext.cell hx x0; have y1 := Ext.cell hx x1; have y2 := Ext.cell hx x2; have yz := Ext.cell hx xz; have ym0 := Ext.cell hx xm0; have ym2 := Ext.cell hx xm2; have yq := Ext.cell hx xq; have ya := Ext.cell hx xa; go_simp; try first | with_reducible rfl | (rw [hww]; try with_reducible rfl) | (rw [hwa]; try with_reducible rfl) | (rw [if_pos (by omega)]; try with_reducible rfl)); try simp only [Act.put, List.setIfInBounds_toArray, List.set_cons_zero, List.set_cons_succ])
  clear x0 x1 x2 xz xm0 xm2 xq xa hww hwa
  refine wpOrdT_stir (by rfl) (fun K hK => ?_)
  go_simp
  refine hK _ _ (Ext.alloc _ _) ?_
  clear hK K
  try simp only [Act.put, List.setIfInBounds_toArray, List.set_cons_zero, List.set_cons_succ]
  refine wpOrdT_done ?_
  try simp only [List.drop_succ_cons, List.drop_zero]
  go_wp2_with fail
  obtain ⟨W2, hW2⟩ : ∃ W2, W2 = (W.drew.alloc (.cells #[.int .i64 ru.w, .int .i64 ru.m, .int .i64 ru.n] 76)) := ⟨_, rfl⟩
  obtain ⟨gq, hgq⟩ : ∃ g, W.heap.size = g := ⟨_, rfl⟩
  have eX2 : Ext W W2 := by rw [hW2]; exact (Ext.drew W).trans (Ext.alloc _ _)
  have bR : Blk W2 gq 76 #[.int .i64 ru.w, .int .i64 ru.m, .int .i64 ru.n] := by rw [hW2]; exact Blk.new _ _ _ _ (by rw [← hgq]; simp)
  have hgqw : w.heap.size ≤ gq := by have a1 := HX.out.size; have a2 := HXW.out.size; omega
  rw [show (W.alloc (.cells #[.int .i64 ru.w, .int .i64 ru.m, .int .i64 ru.n] 76)).drew = W2 by rw [hW2]; rfl]
  try rw [hgq]
  clear hW2 hgq e2
  refine (isRule_c ru.w ru.m ru.n W2).mono ?_
  rintro e w3 ⟨rfl, hx3⟩
  have hE3 : Ext w w3 := ((HX.out.trans HXW.out).trans eX2).trans hx3
  have bR3 := bR.ext hx3
  by_cases hr : ru = noR
  · have hb : isR ⟨ru.w, ru.m, ru.n⟩ = false := by rw [isR_iff]; simp [hr]
    rw [hb]
    have HR0 : Hid (ruleW m f = noR) := Lib.hid (by rw [HALL.out.2.2.2.2.2.2.1]; exact hr)
    have HE3 := Lib.hid hE3
    clear hr hb bR3 hE3 hx3 eX2 bR
    go_wp2
    go_ret
    exact .inl ⟨HR0.out, rfl, HE3.out⟩
  · have hb : isR ⟨ru.w, ru.m, ru.n⟩ = true := by rw [isR_iff]; simp [hr]
    rw [hb]
    obtain ⟨⟨pw0, pw1⟩, pm, ⟨pn0, pn1⟩⟩ := HALL.out.2.2.2.2.2.2.2.1 hr
    obtain ⟨a1, a2, a3, a4, a5, a6, a7, _, a9⟩ := HALL.out
    obtain ⟨K1, hK1⟩ : ∃ K1 : Nat → Prop, K1 = fun k => K0 k ∨ k = gq := ⟨_, rfl⟩
    have h3 : FoO w0 K1 w3 g f gw gr go cw cr co vw vr := H.out.more hE3 (fun k hk => by
      rw [hK1] at hk
      rcases hk with c | rfl
      · exact .inl c
      · exact .inr ⟨hgqw, bR3.lt⟩)
    have hkq : K1 gq := by rw [hK1]; exact .inr rfl
    have hk10 : ∀ k, K0 k → K1 k := fun k hk => by rw [hK1]; exact .inl hk
    have hw : kh < f.ws.length := hkw
    -- the symbol
    have hjl : j < f.ws[kh].length := by rw [a6]; exact hjx
    obtain ⟨h4, k4⟩ := h3.cellW hkw HV.out.1 hjl ru.w
    rw [a6] at h4
    have bR4 := k4.blk bR3 hkq
    obtain ⟨h5, k5⟩ := h4.setQ ru.n
    have bR5 := k5.blk bR4 hkq
    obtain ⟨h6, k6⟩ := h5.setA ((j : Int) + ru.m)
    -- cells for the walk
    have fj : w3.frozen? ⟨bw, j, none⟩ = false := by
      obtain ⟨v0, e0, b0⟩ := h3.iw kh hkw
      rw [HV.out.1] at e0
      obtain rfl := Option.some.inj e0
      rw [a6] at b0
      exact b0.frozenAt j
    have cj : w3.cell? ⟨bw, j, none⟩ = some (.int .i64 z) := by
      have := ((HXW.out.trans eX2).trans hx3).cell HC.out.2.2.2.1
      exact this
    have ga : w3.cell? ⟨g, 2, none⟩ = some (.int .i64 (j : Int)) := ((HXW.out.trans eX2).trans hx3).cell HGQ.out.2
    have y0 : w3.cell? ⟨gq, 0, none⟩ = some (.int .i64 ru.w) := bR3.cell 0
    have y1' : w3.cell? ⟨gq, 1, none⟩ = some (.int .i64 ru.m) := bR3.cell 1
    have y2' : w3.cell? ⟨gq, 2, none⟩ = some (.int .i64 ru.n) := bR3.cell 2
    have H4 := Lib.hid (And.intro h4 (And.intro k4 bR4))
    have HE3 := Lib.hid (And.intro hE3 hk10)
    have HR1 := Lib.hid hr
    have HKQ := Lib.hid hkq
    clear h3 k4 bR4 h5 k5 bR5 h6 k6 h4 bR3 hx3 bR eX2 hE3 hr hb hjl a1 a2 a3 a4 a5 a6 a7 a9 hK1 hgqw hk10 hkq
    go_wp2_with fail
    have u0 : w3.drew.cell? ⟨gq, 0, none⟩ = some (.int .i64 ru.w) := y0
    have ua : w3.drew.cell? ⟨g, 2, none⟩ = some (.int .i64 (j : Int)) := ga
    have h4d : FoO w0 K1 ((w3.drew).setCell ⟨bw, j, none⟩ (.int .i64 ru.w)) g ⟨f.q, f.hd, f.at_, f.ws.set kh (x.set j ru.w), f.rs, f.os⟩ gw gr go cw cr co vw vr := H4.out.1.ext (Ext.drew _)
    have k4d : KpB K1 w3 ((w3.drew).setCell ⟨bw, j, none⟩ (.int .i64 ru.w)) := fun k hk => H4.out.2.1 k hk
    have b4d : Blk ((w3.drew).setCell ⟨bw, j, none⟩ (.int .i64 ru.w)) gq 76 #[.int .i64 ru.w, .int .i64 ru.m, .int .i64 ru.n] := H4.out.2.2
    refine wp_region_ordT 8 (readsT [0, 1, 2, 3, 4, 5, 6, 7] .done) (by kernel_rfl) (by kernel_rfl) (fun _ _ _ _ _ h => h) ?_
    simp only [readsT]
    iterate 8 (refine wpOrdT_read (v := ?_) (by rfl) (Or.inl ⟨by rfl, fun x hx => ?_⟩) ?_; rotate_left; (· have y0 := Ext.cell hx u0; have y1 := Ext.cell hx ua; go_simp; try first | with_reducible rfl | (rw [if_pos (by omega)]; try with_reducible rfl)); try simp only [Act.put, List.setIfInBounds_toArray, List.set_cons_zero, List.set_cons_succ])
    refine wpOrdT_done ?_
    try simp only [List.drop_succ_cons, List.drop_zero]
    have cjd : w3.drew.cell? ⟨bw, j, none⟩ = some (.int .i64 z) := cj
    have fjd : w3.drew.frozen? ⟨bw, j, none⟩ = false := fj
    obtain ⟨h5, k5⟩ := h4d.setQ ru.n
    have b5 := k5.blk b4d HKQ.out
    have HS5 := Lib.hid (And.intro h5 (And.intro (KpB.trans k4d k5) b5))
    have fq := h4d.blk.frozen 0
    have cq : ((w3.drew).setCell ⟨bw, j, none⟩ (.int .i64 ru.w)).cell? ⟨g, 0, none⟩ = some (.int .i64 f.q) := h4d.blk.cell 0
    have cq2 : ((w3.drew).setCell ⟨bw, j, none⟩ (.int .i64 ru.w)).cell? ⟨gq, 2, none⟩ = some (.int .i64 ru.n) := b4d.cell 2
    clear h4d k4d b4d h5 k5 b5 H4
    go_upto_region 6 with fail
    clear u0 ua cjd fjd fj cj y0 y1' y2' ga
    obtain ⟨W4, hW4⟩ : ∃ W, (w3.drew).setCell ⟨bw, j, none⟩ (.int .i64 ru.w) = W := ⟨_, rfl⟩
    have hW4' : (w3.setCell ⟨bw, j, none⟩ (.int .i64 ru.w)).drew = W4 := hW4
    rw [hW4] at HS5 fq cq cq2
    try rw [hW4]
    try rw [hW4']
    clear hW4 hW4'
    go_upto_region 7 with fail
    clear fq cq cq2
    obtain ⟨W5, hW5⟩ : ∃ W, W4.setCell ⟨g, 0, none⟩ (.int .i64 ru.n) = W := ⟨_, rfl⟩
    rw [hW5] at HS5
    try rw [hW5]
    clear hW5
    have h5d := HS5.out.1.ext (Ext.drew W5)
    have ua : W5.drew.cell? ⟨g, 2, none⟩ = some (.int .i64 (j : Int)) := by
      have := h5d.blk.cell 2
      rw [show f.at_ = (j : Int) from HALL.out.2.2.2.1] at this
      exact this
    have um : W5.drew.cell? ⟨gq, 1, none⟩ = some (.int .i64 ru.m) := (HS5.out.2.2.ext (Ext.drew W5)).cell 1
    have hwa : IntKind.i64.wrap ((j : Int) + ru.m) = (j : Int) + ru.m := IntWalk.i64_in _ (by omega)
    obtain ⟨h6, k6⟩ := h5d.setA ((j : Int) + ru.m)
    have hHW := HALL.out
    have WD := widen_c h6 hHW.1 (by simp [hHW.2.1]) (by show 0 ≤ f.hd ∧ f.hd ≤ f.rs.length; rw [hHW.2.2.1]; have := hHW.2.1; omega) (fun y hy => by
      rcases List.mem_or_eq_of_mem_set hy with c | c
      · have := hHW.2.2.2.2.2.2.2.2 y c; omega
      · rw [c, List.length_set]; omega)
    have fa : W5.drew.frozen? ⟨g, 2, none⟩ = false := h5d.blk.frozen 2
    have HK5 := Lib.hid (KpB.trans (KpB.trans HS5.out.2.1 (KpB.ext (Ext.drew W5) HS5.out.1.kb)) k6)
    clear h6 k6 h5d hHW HS5
    refine wp_region_ordT 9 (readsT [0, 1, 2, 3, 4, 5, 6, 7, 8] .done) (by kernel_rfl) (by kernel_rfl) (fun _ _ _ _ _ h => h) ?_
    simp only [readsT]
    iterate 9 (refine wpOrdT_read (v := ?_) (by rfl) (Or.inl ⟨by rfl, fun x hx => ?_⟩) ?_; rotate_left; (· have y0 := Ext.cell hx ua; have y1 := Ext.cell hx um; go_simp; try first | with_reducible rfl | (rw [hwa]; try with_reducible rfl)); try simp only [Act.put, List.setIfInBounds_toArray, List.set_cons_zero, List.set_cons_succ])
    refine wpOrdT_done ?_
    try simp only [List.drop_succ_cons, List.drop_zero]
    clear um hwa
    go_wp2_with fail
    refine WD.mono ?_
    rintro e w7 ⟨rfl, vw', hF, hK7⟩
    have HST : Hid (stW m f = wideF ⟨ru.n, f.hd, (j : Int) + ru.m, f.ws.set kh (x.set j ru.w), f.rs, f.os⟩) := Lib.hid (by
      unfold stW
      rw [HALL.out.2.2.2.2.2.2.1, HALL.out.2.2.1, HALL.out.2.2.2.1, Int.toNat_natCast, Int.toNat_natCast, HALL.out.2.2.2.2.1])
    have HF := Lib.hid hF
    have HK7 := Lib.hid (KpB.trans (KpB.ext HE3.out.1 H.out.kb) ((KpB.trans HK5.out hK7).mono HE3.out.2))
    have HNR : Hid (¬ ruleW m f = noR) := Lib.hid (by rw [HALL.out.2.2.2.2.2.2.1]; exact HR1.out)
    clear WD hF hK7 fa ua
    go_wp2
    go_ret
    refine .inr ⟨HNR.out, rfl, vw', ?_, HK7.out⟩
    rw [HST.out]
    exact HF.out.mono HE3.out.2
end Go.Proofs.YtojiammendjpkaaGreat
end
section
set_option linter.unusedSimpArgs false
set_option linter.unusedVariables false
namespace Go.Proofs.YtojiammendjpkaaGreat
open Go Go.RowKit Go.Proofs
set_option maxHeartbeats 400000
set_option maxRecDepth 20000 in
set_option maxHeartbeats 8000000 in
theorem passRepeater_c {w0 w : World} {K0 : Nat → Prop} {g : Nat} {f : FoD} {gw gr go cw cr co : Nat} {vw vr : List Value} (h : FoO w0 K0 w g f gw gr go cw cr co vw vr) (h1 : 1 ≤ f.rs.length ∧ f.rs.length ≤ 3) (h2 : f.ws.length = f.rs.length + 1) (h4 : ∀ x ∈ f.ws, x.length ≤ 500)
    {i : Nat} (hi : i < f.rs.length) (side : Int) (hs : side = 1 ∨ side = -1) (A : Option Addr) (c : Nat) (y : List Int) (hu : OwnInts w0.heap.size w (.slice A y.length c) y) (hap : ∀ v ∈ vw ++ vr, AptF v (.slice A y.length c)) (hkk : ∀ k, (.slice A y.length c : Value).ownBlock = some k → ¬ K0 k ∧ k ≠ go) :
    Calls Tryz.prog 128 #[.pointer (some ⟨g, 0, none⟩), .int .i64 (i : Int), .int .i64 side, .slice A y.length c] w fun e w' => e = .returned (.tuple #[]) ∧ ∃ vw' vr', FoO w0 K0 w' g (passF f i side y) gw gr go cw cr co vw' vr' ∧ KpB K0 w w' := by
  obtain ⟨⟨csr, bR⟩, _⟩ := own_blk h.or
  obtain ⟨A0, c0, _, cR, _⟩ := h.repH hi
  have fR := bR.frozen i
  have q4 : w.cell? ⟨g, 4, none⟩ = some (.slice (some ⟨gr, 0, none⟩) f.rs.length cr) := h.blk.cell 4
  obtain ⟨h7, k7⟩ := h.putR hi hu (fun j v _ hj => hap v (List.mem_of_getElem? hj)) hkk
  have HN := Lib.hid (And.intro h1 (And.intro h2 h4))
  have H7 := Lib.hid (And.intro h7 k7)
  have hir : i < f.rs.length := hi
  have hi4 : i ≤ 3 := by omega
  clear h h1 h2 h4 hu hap hkk h7 k7 bR
  go_enter Tryz.func128, Tryz.ntmps128
  go_upto_region 1 with fail
  obtain ⟨W1, hW1⟩ : ∃ W, w.setCell ⟨gr, i, none⟩ (.slice A y.length c) = W := ⟨_, rfl⟩
  rw [hW1] at H7
  try rw [hW1]
  clear hW1 cR fR q4
  have q1 := H7.out.1.blk.cell 1
  have f1 := H7.out.1.blk.frozen 1
  simp only [List.getElem?_toArray, List.getElem?_cons_zero, List.getElem?_cons_succ] at q1
  obtain ⟨h8, k8⟩ := H7.out.1.setH (i : Int)
  have H8 := Lib.hid (And.intro h8 (H7.out.2.trans k8))
  clear H7 h8 k8
  rcases hs with rfl | rfl
  · go_upto_region 3 with fail
    obtain ⟨W2, hW2⟩ : ∃ W, W1.setCell ⟨g, 1, none⟩ (.int .i64 (i : Int)) = W := ⟨_, rfl⟩
    rw [hW2] at H8
    try rw [hW2]
    clear hW2 q1 f1
    have q1 := H8.out.1.blk.cell 1
    have f1 := H8.out.1.blk.frozen 1
    simp only [List.getElem?_toArray, List.getElem?_cons_zero, List.getElem?_cons_succ] at q1
    have hw1 : IntKind.i64.wrap ((i : Int) + 1) = (i : Int) + 1 := IntWalk.i64_in _ (by omega)
    obtain ⟨h9, k9⟩ := H8.out.1.setH ((i : Int) + 1)
    have H9 := Lib.hid (And.intro h9 (H8.out.2.trans k9))
    clear H8 h9 k9
    go_upto_region 4 with fail
    obtain ⟨W3, hW3⟩ : ∃ W, W2.setCell ⟨g, 1, none⟩ (.int .i64 ((i : Int) + 1)) = W := ⟨_, rfl⟩
    rw [hW3] at H9
    try rw [hW3]
    clear hW3 q1 f1 hw1
    have q2 := H9.out.1.blk.cell 2
    have f2 := H9.out.1.blk.frozen 2
    simp only [List.getElem?_toArray, List.getElem?_cons_zero, List.getElem?_cons_succ] at q2
    obtain ⟨h10, k10⟩ := H9.out.1.setA 0
    have WD := widen_c h10 (by simp; exact HN.out.1) (by simp; exact HN.out.2.1) (by simp; omega) HN.out.2.2
    have H10 := Lib.hid (H9.out.2.trans k10)
    clear h10 k10 H9
    go_wp2_with fail
    refine WD.mono ?_
    rintro e w7 ⟨rfl, vw', hF, hK7⟩
    have HFIN : Hid (∃ vw' vr', FoO w0 K0 w7 g (passF f i 1 y) gw gr go cw cr co vw' vr' ∧ KpB K0 w w7) := Lib.hid ⟨vw', _, by
      unfold passF
      rw [if_pos rfl, if_neg (by decide), Int.toNat_natCast]
      exact hF, H10.out.trans hK7⟩
    clear WD hF hK7 q2 f2
    go_wp2
    exact bodyPost_end (results_none rfl _ _ _) rfl ⟨rfl, HFIN.out⟩
  · go_upto_region 4 with fail
    obtain ⟨W2, hW2⟩ : ∃ W, W1.setCell ⟨g, 1, none⟩ (.int .i64 (i : Int)) = W := ⟨_, rfl⟩
    rw [hW2] at H8
    try rw [hW2]
    clear hW2 q1 f1
    have q2 := H8.out.1.blk.cell 2
    have f2 := H8.out.1.blk.frozen 2
    simp only [List.getElem?_toArray, List.getElem?_cons_zero, List.getElem?_cons_succ] at q2
    obtain ⟨h9, k9⟩ := H8.out.1.setA 0
    have H9 := Lib.hid (And.intro h9 (H8.out.2.trans k9))
    clear H8 h9 k9
    go_upto_region 6 with fail
    obtain ⟨W3, hW3⟩ : ∃ W, W2.setCell ⟨g, 2, none⟩ (.int .i64 0) = W := ⟨_, rfl⟩
    rw [hW3] at H9
    try rw [hW3]
    clear hW3 q2 f2
    have hiw : i < f.ws.length := by have := HN.out.2.1; omega
    obtain ⟨Aw, cW, _, cc, _⟩ := H9.out.1.wallH (k := i) hiw
    obtain ⟨n, hn⟩ : ∃ n, (f.ws.getD i []).length = n := ⟨_, rfl⟩
    have hn5 : n ≤ 500 := by rw [← hn, getD_get hiw]; exact HN.out.2.2 _ (List.getElem_mem hiw)
    simp only at cc
    rw [hn] at cc
    have q3 : W3.cell? ⟨g, 3, none⟩ = some (.slice (some ⟨gw, 0, none⟩) f.ws.length cw) := H9.out.1.blk.cell 3
    have q2 := H9.out.1.blk.cell 2
    have f2 := H9.out.1.blk.frozen 2
    simp only [List.getElem?_toArray, List.getElem?_cons_zero, List.getElem?_cons_succ] at q2
    have hw1 : IntKind.i64.wrap ((n : Int) - 1) = (n : Int) - 1 := IntWalk.i64_in _ (by omega)
    obtain ⟨h10, k10⟩ := H9.out.1.setA ((n : Int) - 1)
    have WD := widen_c h10 (by simp; exact HN.out.1) (by simp; exact HN.out.2.1) (by simp; omega) HN.out.2.2
    have H10 := Lib.hid (H9.out.2.trans k10)
    have HNN := Lib.hid hn
    clear h10 k10 H9 hn
    go_wp2_with fail
    refine (sizeIN_c _ _ _ _).mono ?_
    rintro e wz ⟨rfl, rfl⟩
    go_wp2_with fail
    refine WD.mono ?_
    rintro e w7 ⟨rfl, vw', hF, hK7⟩
    have HFIN : Hid (∃ vw' vr', FoO w0 K0 w7 g (passF f i (-1) y) gw gr go cw cr co vw' vr' ∧ KpB K0 w w7) := Lib.hid ⟨vw', _, by
      unfold passF
      rw [if_neg (by decide), if_pos rfl, Int.toNat_natCast, HNN.out]
      exact hF, H10.out.trans hK7⟩
    clear WD hF hK7 q2 f2 q3 cc
    go_wp2
    exact bodyPost_end (results_none rfl _ _ _) rfl ⟨rfl, HFIN.out⟩
set_option maxRecDepth 20000 in
set_option maxHeartbeats 8000000 in
theorem unroll_c {w0 w : World} {K0 : Nat → Prop} {g : Nat} {f : FoD} {gw gr go cw cr co : Nat} {vw vr : List Value} (h : FoO w0 K0 w g f gw gr go cw cr co vw vr) (h1 : 1 ≤ f.rs.length ∧ f.rs.length ≤ 3) (h2 : f.ws.length = f.rs.length + 1) (h3 : f.os.length = f.rs.length) (h4 : ∀ x ∈ f.ws, x.length ≤ 500) (h5 : ∀ x ∈ f.rs, x.length ≤ 500) (h6 : ∀ o ∈ f.os, -100000 ≤ o ∧ o ≤ 100000)
    {i : Nat} (hi : i < f.rs.length) (side : Int) (hs : side = 1 ∨ side = -1) :
    Calls Tryz.prog 129 #[.pointer (some ⟨g, 0, none⟩), .int .i64 (i : Int), .int .i64 side] w fun e w' => e = .returned (.tuple #[]) ∧ ∃ vw' vr', FoO w0 K0 w' g (unrF f i side) gw gr go cw cr co vw' vr' ∧ KpB K0 w w' := by
  obtain ⟨Ar, cR, _, cv, ov⟩ := (h.ext (Ext.drew w)).repH hi
  obtain ⟨v, hv⟩ : ∃ v, f.rs.getD i [] = v := ⟨_, rfl⟩
  have hv5 : v.length ≤ 500 := by rw [← hv, getD_get hi]; exact h5 _ (List.getElem_mem hi)
  rw [hv] at cv ov
  have q3 : w.drew.cell? ⟨g, 3, none⟩ = some (.slice (some ⟨gw, 0, none⟩) f.ws.length cw) := h.blk.cell 3
  have q4 : w.drew.cell? ⟨g, 4, none⟩ = some (.slice (some ⟨gr, 0, none⟩) f.rs.length cr) := h.blk.cell 4
  have HN := Lib.hid (And.intro h1 (And.intro h2 (And.intro h4 (And.intro h3 h6))))
  have H := Lib.hid h
  have HD := Lib.hid (h.ext (Ext.drew w))
  have hir : i < f.rs.length := hi
  have hi4 : i ≤ 3 := by omega
  have hwi : IntKind.i64.wrap ((i : Int) + 1) = ((i + 1 : Nat) : Int) := by rw [show (i : Int) + 1 = ((i + 1 : Nat) : Int) by omega]; exact IntWalk.i64_in _ (by omega)
  clear h h1 h2 h3 h4 h5 h6
  go_enter Tryz.func129, Tryz.ntmps129
  rcases hs with rfl | rfl
  · skip
    have hiw : i < f.ws.length := by have := HN.out.2.1; omega
    obtain ⟨Aw, cW, hvx, cx, ox, _⟩ := HD.out.wallH (k := i) hiw
    obtain ⟨x, hx⟩ : ∃ x, f.ws.getD i [] = x := ⟨_, rfl⟩
    have hx5 : x.length ≤ 500 := by rw [← hx, getD_get hiw]; exact HN.out.2.2.1 _ (List.getElem_mem hiw)
    rw [hx] at hvx cx ox
    have JC := joinedA_c Aw Ar cW cR x v w.drew (OwnInts.ints ox) (OwnInts.ints ov) (OwnInts.flat ox) (OwnInts.flat ov) (by omega)
    have HXV := Lib.hid (And.intro hx hv)
    clear ox ov hvx hx hv
    go_wp2_with fail
    refine wp_region_ordT 21 (readsT [0, 1, 2, 3, 4, 5, 6, 7, 8, 9, 10, 11, 12, 13, 14, 15, 16, 17, 18] (.stir 19 (.stir 20 .done))) (by kernel_rfl) (by kernel_rfl) (fun _ _ _ _ _ h => h) ?_
    simp only [readsT]
    iterate 19 (refine wpOrdT_read (v := ?_) (by rfl) (Or.inl ⟨by rfl, fun x hx => ?_⟩) ?_; rotate_left; (· have y3 := Ext.cell hx q3; have y4 := Ext.cell hx q4; have yx := Ext.cell hx cx; have yv := Ext.cell hx cv; go_simp; try first | with_reducible rfl | (rw [if_pos (by omega)]; try with_reducible rfl) | (rw [hwi]; try with_reducible rfl) | (rw [hwi, Int.toNat_natCast, if_pos (by omega)]; try with_reducible rfl)); try simp only [Act.put, List.setIfInBounds_toArray, List.set_cons_zero, List.set_cons_succ])
    refine wpOrdT_stir (by rfl) (fun K hK => ?_)
    go_simp
    refine hK _ _ (Ext.alloc _ _) ?_
    clear hK K
    try simp only [Act.put, List.setIfInBounds_toArray, List.set_cons_zero, List.set_cons_succ]
    refine wpOrdT_stir (by rfl) (fun K hK => ?_)
    go_simp
    go_at_call 44
    refine JC.mono ?_
    rintro e w6 ⟨uX, rfl, oX, hx6⟩
    have hx6w : Ext w w6 := ((Ext.drew w).trans (Ext.alloc w.drew (.cells #[.slice Aw x.length cW, .slice Ar v.length cR] 27))).trans hx6
    refine hK _ _ hx6 ?_
    clear hK K JC hx6
    try simp only [Act.put, List.setIfInBounds_toArray, List.set_cons_zero, List.set_cons_succ]
    refine wpOrdT_done ?_
    try simp only [List.drop_succ_cons, List.drop_zero]
    have h6 := H.out.ext hx6w
    have oX1 : OwnInts w.heap.size w6 uX (x ++ v) := oX
    obtain ⟨fr1, fr2⟩ := H.out.fresh oX1
    have oX2 : OwnInts w0.heap.size w6 uX (x ++ v) := ownsRow_base oX1 H.out.ext0.size
    obtain ⟨⟨csw, bW⟩, _⟩ := own_blk h6.ow
    obtain ⟨A0, c0, _, cx6, _⟩ := h6.wallH (k := i) hiw
    have fx6 := bW.frozen i
    obtain ⟨AX, cX, hAX, _, _⟩ := oX.ints.form
    subst hAX
    obtain ⟨h7, k7⟩ := h6.putW hiw oX2 (fun j v _ hj => fr1 v (List.mem_of_getElem? hj)) fr2
    have H7 := Lib.hid (And.intro h7 ((KpB.ext hx6w H.out.kb).trans k7))
    clear h6 oX oX1 oX2 fr1 fr2 h7 k7 bW hx6w q3 q4 cx cv
    go_upto_region 4 with fail
    obtain ⟨W7, hW7⟩ : ∃ W, w6.setCell ⟨gw, i, none⟩ (.slice AX (x ++ v).length cX) = W := ⟨_, rfl⟩
    have hlx : (x ++ v).length = x.length + v.length := List.length_append
    rw [hW7] at H7
    rw [hlx] at hW7
    try rw [hW7]
    clear hW7 cx6 fx6 hlx
    obtain ⟨o, ho⟩ : ∃ o, f.os.getD i 0 = o := ⟨_, rfl⟩
    have hio : i < f.os.length := by rw [HN.out.2.2.2.1]; exact hi
    have hob : -100000 ≤ o ∧ o ≤ 100000 := by rw [← ho, getD_get hio]; exact HN.out.2.2.2.2 _ (List.getElem_mem hio)
    have co5 := own_cell H7.out.1.oo (i := i) hio
    rw [ivs_get _ i hio, ← getD_get (d := 0) hio, ho] at co5
    have q5 : W7.cell? ⟨g, 5, none⟩ = some (.slice (some ⟨go, 0, none⟩) f.os.length co) := H7.out.1.blk.cell 5
    have fo := H7.out.1.oo.frozenAt i
    have hwo : IntKind.i64.wrap (o - 1) = o - 1 := IntWalk.i64_in _ (by omega)
    obtain ⟨h9, k9⟩ := H7.out.1.setO i (o - 1)
    have HFIN : Hid (∃ vw' vr', FoO w0 K0 (W7.setCell ⟨go, i, none⟩ (.int .i64 (o - 1))) g (unrF f i 1) gw gr go cw cr co vw' vr' ∧ KpB K0 w (W7.setCell ⟨go, i, none⟩ (.int .i64 (o - 1)))) := Lib.hid ⟨_, _, by
      unfold unrF
      rw [if_pos rfl, Int.toNat_natCast, HXV.out.1, HXV.out.2, ho]
      exact h9, H7.out.2.trans k9⟩
    clear h9 k9 H7 ho
    go_wp2
    exact bodyPost_end (results_none rfl _ _ _) rfl ⟨rfl, HFIN.out⟩
  · skip
    have hiw : (i + 1) < f.ws.length := by have := HN.out.2.1; omega
    obtain ⟨Aw, cW, hvx, cx, ox, _⟩ := HD.out.wallH (k := (i + 1)) hiw
    obtain ⟨x, hx⟩ : ∃ x, f.ws.getD (i + 1) [] = x := ⟨_, rfl⟩
    have hx5 : x.length ≤ 500 := by rw [← hx, getD_get hiw]; exact HN.out.2.2.1 _ (List.getElem_mem hiw)
    rw [hx] at hvx cx ox
    have JC := joinedA_c Ar Aw cR cW v x w.drew (OwnInts.ints ov) (OwnInts.ints ox) (OwnInts.flat ov) (OwnInts.flat ox) (by omega)
    have HXV := Lib.hid (And.intro hx hv)
    clear ox ov hvx hx hv
    go_wp2_with fail
    refine wp_region_ordT 23 (readsT [0, 1, 2, 3, 4, 5, 6, 7, 8, 9, 10, 11, 12, 13, 14, 15, 16, 17, 18, 19, 20] (.stir 21 (.stir 22 .done))) (by kernel_rfl) (by kernel_rfl) (fun _ _ _ _ _ h => h) ?_
    simp only [readsT]
    iterate 21 (refine wpOrdT_read (v := ?_) (by rfl) (Or.inl ⟨by rfl, fun x hx => ?_⟩) ?_; rotate_left; (· have y3 := Ext.cell hx q3; have y4 := Ext.cell hx q4; have yx := Ext.cell hx cx; have yv := Ext.cell hx cv; go_simp; try first | with_reducible rfl | (rw [if_pos (by omega)]; try with_reducible rfl) | (rw [hwi]; try with_reducible rfl) | (rw [hwi, Int.toNat_natCast, if_pos (by omega)]; try with_reducible rfl)); try simp only [Act.put, List.setIfInBounds_toArray, List.set_cons_zero, List.set_cons_succ])
    refine wpOrdT_stir (by rfl) (fun K hK => ?_)
    go_simp
    refine hK _ _ (Ext.alloc _ _) ?_
    clear hK K
    try simp only [Act.put, List.setIfInBounds_toArray, List.set_cons_zero, List.set_cons_succ]
    refine wpOrdT_stir (by rfl) (fun K hK => ?_)
    go_simp
    go_at_call 44
    refine JC.mono ?_
    rintro e w6 ⟨uX, rfl, oX, hx6⟩
    have hx6w : Ext w w6 := ((Ext.drew w).trans (Ext.alloc w.drew (.cells #[.slice Ar v.length cR, .slice Aw x.length cW] 27))).trans hx6
    refine hK _ _ hx6 ?_
    clear hK K JC hx6
    try simp only [Act.put, List.setIfInBounds_toArray, List.set_cons_zero, List.set_cons_succ]
    refine wpOrdT_done ?_
    try simp only [List.drop_succ_cons, List.drop_zero]
    have h6 := H.out.ext hx6w
    have oX1 : OwnInts w.heap.size w6 uX (v ++ x) := oX
    obtain ⟨fr1, fr2⟩ := H.out.fresh oX1
    have oX2 : OwnInts w0.heap.size w6 uX (v ++ x) := ownsRow_base oX1 H.out.ext0.size
    obtain ⟨⟨csw, bW⟩, _⟩ := own_blk h6.ow
    obtain ⟨A0, c0, _, cx6, _⟩ := h6.wallH (k := (i + 1)) hiw
    have fx6 := bW.frozen (i + 1)
    obtain ⟨AX, cX, hAX, _, _⟩ := oX.ints.form
    subst hAX
    obtain ⟨h7, k7⟩ := h6.putW hiw oX2 (fun j v _ hj => fr1 v (List.mem_of_getElem? hj)) fr2
    have H7 := Lib.hid (And.intro h7 ((KpB.ext hx6w H.out.kb).trans k7))
    clear h6 oX oX1 oX2 fr1 fr2 h7 k7 bW hx6w q3 q4 cx cv
    go_upto_region 3 with fail
    obtain ⟨W6, hW6⟩ : ∃ W, w6.setCell ⟨gw, i + 1, none⟩ (.slice AX (v ++ x).length cX) = W := ⟨_, rfl⟩
    have hlx : (v ++ x).length = v.length + x.length := List.length_append
    rw [hW6] at H7
    rw [hlx] at hW6
    try rw [hW6]
    clear hW6 cx6 fx6 hlx
    obtain ⟨A1, c1, _, cr6, _⟩ := H7.out.1.repH (k := i) hi
    simp only at cr6
    rw [HXV.out.2] at cr6
    have q4 : W6.cell? ⟨g, 4, none⟩ = some (.slice (some ⟨gr, 0, none⟩) f.rs.length cr) := H7.out.1.blk.cell 4
    have q2 : W6.cell? ⟨g, 2, none⟩ = some (.int .i64 f.at_) := H7.out.1.blk.cell 2
    have f2 := H7.out.1.blk.frozen 2
    have hw1 : IntKind.i64.wrap ((v.length : Int) - 1) = (v.length : Int) - 1 := IntWalk.i64_in _ (by omega)
    obtain ⟨h8, k8⟩ := H7.out.1.setA ((v.length : Int) - 1)
    have H8 := Lib.hid (And.intro h8 (H7.out.2.trans k8))
    clear H7 h8 k8
    go_wp2_with fail
    refine (sizeIN_c _ _ _ _).mono ?_
    rintro e wz ⟨rfl, rfl⟩
    go_upto_region 4 with fail
    obtain ⟨W7, hW7⟩ : ∃ W, W6.setCell ⟨g, 2, none⟩ (.int .i64 ((v.length : Int) - 1)) = W := ⟨_, rfl⟩
    rw [hW7] at H8
    try rw [hW7]
    clear hW7 cr6 q4 q2 f2 hw1
    have H7 := H8
    clear H8
    obtain ⟨o, ho⟩ : ∃ o, f.os.getD i 0 = o := ⟨_, rfl⟩
    have hio : i < f.os.length := by rw [HN.out.2.2.2.1]; exact hi
    have hob : -100000 ≤ o ∧ o ≤ 100000 := by rw [← ho, getD_get hio]; exact HN.out.2.2.2.2 _ (List.getElem_mem hio)
    have co5 := own_cell H7.out.1.oo (i := i) hio
    rw [ivs_get _ i hio, ← getD_get (d := 0) hio, ho] at co5
    have q5 : W7.cell? ⟨g, 5, none⟩ = some (.slice (some ⟨go, 0, none⟩) f.os.length co) := H7.out.1.blk.cell 5
    have fo := H7.out.1.oo.frozenAt i
    have hwo : IntKind.i64.wrap (o - 1) = o - 1 := IntWalk.i64_in _ (by omega)
    obtain ⟨h9, k9⟩ := H7.out.1.setO i (o - 1)
    have HFIN : Hid (∃ vw' vr', FoO w0 K0 (W7.setCell ⟨go, i, none⟩ (.int .i64 (o - 1))) g (unrF f i (-1)) gw gr go cw cr co vw' vr' ∧ KpB K0 w (W7.setCell ⟨go, i, none⟩ (.int .i64 (o - 1)))) := Lib.hid ⟨_, _, by
      unfold unrF
      rw [if_neg (by decide), Int.toNat_natCast, HXV.out.1, HXV.out.2, ho]
      exact h9, H7.out.2.trans k9⟩
    clear h9 k9 H7 ho
    go_wp2
    exact bodyPost_end (results_none rfl _ _ _) rfl ⟨rfl, HFIN.out⟩
end Go.Proofs.YtojiammendjpkaaGreat
end
