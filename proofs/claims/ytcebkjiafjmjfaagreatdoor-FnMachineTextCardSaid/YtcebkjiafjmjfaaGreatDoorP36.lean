/- The walk of the law on the texts of machines and configurations.
Machines and configurations are read back from their texts, and the cells of a configuration are its two sides: the law answers true for all bytes, and leaves its arguments as they are. The listed tables of the library hold what the program's text lays in them. -/
import Derived.Test.YtcebkjiafjmjfaaGreatDoorP21
import Derived.Test.YtcebkjiafjmjfaaGreatDoorP26
import Derived.Test.YtcebkjiafjmjfaaGreatDoorP27
import Derived.Test.YtcebkjiafjmjfaaGreatDoorP35
import Derived.Deep.CutBlock
import Derived.Deep.DeepCutAuto
import Derived.Test.YtcebkjiafjmjfaaGreatDoorP22
import Derived.Test.YtcebkjiafjmjfaaGreatDoorCards
section
set_option linter.unusedSimpArgs false
set_option linter.unusedVariables false
namespace Go.Proofs.YtcebkjiafjmjfaaGreatDoor
open Go Go.RowKit Go.Proofs
set_option maxHeartbeats 400000
/-- Behind the reading of a configuration. -/
def CutRC (W : World) (c : ConfD) (s t : Value) (X : World) : Prop :=
  ∃ (gc : Nat) (A B : Option Addr) (k l : Nat), s = .pointer (some ⟨gc, 0, none⟩) ∧ t = .bool true ∧ Blk X gc 29 #[.int .i64 c.q, .slice A c.l.length k, .slice B c.r.length l] ∧ Ints X (.slice A c.l.length k) c.l ∧ Ints X (.slice B c.r.length l) c.r ∧ Ext W X
theorem CutRC.late {W V : World} {c : ConfD} {A B : Option Addr} {k l : Nat} (hx : Ext W V) (h1 : OwnInts 0 V (.slice A c.l.length k) c.l) (h2 : OwnInts 0 V (.slice B c.r.length l) c.r) :
    CutRC W c (.pointer (some ⟨V.heap.size, 0, none⟩)) (.bool true) (V.alloc (.cells #[.int .i64 c.q, .slice A c.l.length k, .slice B c.r.length l] 29)) :=
  ⟨_, A, B, k, l, rfl, rfl, Blk.new _ _ _ _ rfl, h1.ints.ext (Ext.alloc _ _), h2.ints.ext (Ext.alloc _ _), hx.trans (Ext.alloc _ _)⟩
theorem CutRC.early {W V : World} {c : ConfD} {A B : Option Addr} {k l g : Nat} (hx : Ext W V) (h1 : OwnInts 0 V (.slice A c.l.length k) c.l) (h2 : OwnInts 0 V (.slice B c.r.length l) c.r) (hb : Blk V g 29 #[.int .i64 0, .slice none 0 0, .slice none 0 0]) (hg : W.heap.size ≤ g) :
    CutRC W c (.pointer (some ⟨g, 0, none⟩)) (.bool true) (((V.setCell ⟨g, 0, none⟩ (.int .i64 c.q)).setCell ⟨g, 1, none⟩ (.slice A c.l.length k)).setCell ⟨g, 2, none⟩ (.slice B c.r.length l)) := by
  have f1 := own_far_blk h1 hb (by decide)
  have f2 := own_far_blk h2 hb (by decide)
  refine ⟨g, A, B, k, l, rfl, rfl, ((hb.set_ 0 (.int .i64 c.q)).set_ 1 (.slice A c.l.length k)).set_ 2 (.slice B c.r.length l), ?_, ?_, ?_⟩
  · exact OwnInts.ints (ownsRow_far (p := ⟨g, 2, none⟩) (ownsRow_far (p := ⟨g, 1, none⟩) (ownsRow_far (p := ⟨g, 0, none⟩) h1 f1 _) f1 _) f1 _)
  · exact OwnInts.ints (ownsRow_far (p := ⟨g, 2, none⟩) (ownsRow_far (p := ⟨g, 1, none⟩) (ownsRow_far (p := ⟨g, 0, none⟩) h2 f2 _) f2 _) f2 _)
  · exact ((hx.setCell (p := ⟨g, 0, none⟩) hg _).setCell (p := ⟨g, 1, none⟩) hg _).setCell (p := ⟨g, 2, none⟩) hg _
set_option maxRecDepth 20000 in
set_option maxHeartbeats 4000000 in
theorem law29_c (v v' : Value) (bs bs' : List Int) (w : World) (h : Bytes w v bs) (h' : Bytes w v' bs') (hT : Tab w) (hML : MaxL w) :
    Calls Tryz.prog 3 #[v, v'] w fun e w' => e = .returned (.bool true) ∧ Ext w w' := by
  obtain ⟨A, k, rfl, _, _, _⟩ := h.1.form
  obtain ⟨A', k', rfl, _, _, _⟩ := h'.1.form
  go_enter Tryz.func3, Tryz.ntmps3
  go_wp2_with fail
  refine (r8Longs_c w A A' bs.length k bs'.length k').mono ?_
  rintro e w' ⟨rfl, rfl⟩
  cases hb : (decide (1048576 < bs.length) || decide (1048576 < bs'.length))
  rotate_left
  · go_wp2
    go_ret
    exact ⟨rfl, Ext.refl _⟩
  clear hb
  go_wp2_with fail
  refine (R8Machine_c _ bs w h).mono ?_
  rintro e w1 ⟨⟨m, c, mv, lv, rv, rfl, hm, hm6, hc, hom, hol, hor⟩, hx1⟩
  obtain ⟨⟨q0, q9⟩, ⟨l1, l2⟩, ⟨r1, r2⟩⟩ := conf_digs hm hc
  obtain ⟨Am, km, rfl, _, _⟩ := (OwnRules.rules hom).form
  obtain ⟨Al, kl, rfl, _, _⟩ := hol.ints.form
  obtain ⟨Ar, kr, rfl, _, _⟩ := hor.ints.form
  obtain ⟨W, hW⟩ : ∃ W, (w1.alloc (.cells #[.int .i64 m.sy, .int .i64 m.st, .slice Am m.rules.length km] 26)).alloc (.cells #[.int .i64 c.q, .slice Al c.l.length kl, .slice Ar c.r.length kr] 29) = W := ⟨_, rfl⟩
  have hXW : Ext w1 W := by rw [← hW]; exact (Ext.alloc _ _).trans (Ext.alloc _ _)
  have hX := hx1.trans hXW
  have bM : Blk W w1.heap.size 26 #[.int .i64 m.sy, .int .i64 m.st, .slice Am m.rules.length km] := by rw [← hW]; exact (Blk.new _ _ _ _ rfl).alloc _
  have bC : Blk W (w1.heap.size + 1) 29 #[.int .i64 c.q, .slice Al c.l.length kl, .slice Ar c.r.length kr] := by rw [← hW]; exact Blk.new _ _ _ _ (by simp)
  have hMr : Rules W (.slice Am m.rules.length km) m.rules := (OwnRules.rules hom).ext hXW
  have hLi : Ints W (.slice Al c.l.length kl) c.l := hol.ints.ext hXW
  have hRi : Ints W (.slice Ar c.r.length kr) c.r := hor.ints.ext hXW
  have hLf : Flat (.slice Al c.l.length kl) := hol.flat
  have hRf : Flat (.slice Ar c.r.length kr) := hor.flat
  clear hom hol hor
  generalize hg : w1.heap.size = g at *
  have c0 := bM.cell 0
  have c1 := bM.cell 1
  have c2 := bM.cell 2
  simp only [List.getElem?_toArray, List.getElem?_cons_zero, List.getElem?_cons_succ] at c0 c1 c2
  rw [← hW] at c0 c1 c2
  have HW := Lib.hid hW
  clear hW
  go_wp2_with fail
  rw [HW.out]
  clear HW c0 c1 c2
  refine (MachineText_c _ m W ⟨_, rfl, hMr⟩ hm (hT.ext hX)).mono ?_
  rintro e w2 ⟨rfl, hx2⟩
  have hX2 := hX.trans hx2
  go_wp2_with fail
  refine (ReadMachine_c m w2 hm (hT.ext hX2) (hML.ext hX2)).mono ?_
  rintro e w3 ⟨bv, rfl, hob, hx3⟩
  obtain ⟨Ab, kb, rfl, _, _⟩ := (OwnRules.rules hob).form
  obtain ⟨W3, hW3⟩ : ∃ W, w3.alloc (.cells #[.int .i64 m.sy, .int .i64 m.st, .slice Ab m.rules.length kb] 26) = W := ⟨_, rfl⟩
  have hXW3 : Ext w3 W3 := by rw [← hW3]; exact Ext.alloc _ _
  have hY3 := hx2.trans (hx3.trans hXW3)
  have hX3 := hX.trans hY3
  have bB : Blk W3 w3.heap.size 26 #[.int .i64 m.sy, .int .i64 m.st, .slice Ab m.rules.length kb] := by rw [← hW3]; exact Blk.new _ _ _ _ rfl
  have hBr : Rules W3 (.slice Ab m.rules.length kb) m.rules := (OwnRules.rules hob).ext hXW3
  have HW3 := Lib.hid hW3
  clear hob hW3
  go_upto_region 5 with fail
  rw [HW3.out]
  clear HW3
  have bM3 := bM.ext hY3
  have bC3 := bC.ext hY3
  have a0 := bM3.cell 0
  have a1 := bM3.cell 1
  have a2 := bM3.cell 2
  have b0 := bC3.cell 0
  have b1 := bC3.cell 1
  have b2 := bC3.cell 2
  simp only [List.getElem?_toArray, List.getElem?_cons_zero, List.getElem?_cons_succ] at a0 a1 a2 b0 b1 b2
  have a0 := (Ext.drew W3).cell a0
  have a1 := (Ext.drew W3).cell a1
  have a2 := (Ext.drew W3).cell a2
  have b0 := (Ext.drew W3).cell b0
  have b1 := (Ext.drew W3).cell b1
  have b2 := (Ext.drew W3).cell b2
  have hct : ∀ X, Ext W3.drew X → Calls Tryz.prog 9 #[.agg #[.int .i64 m.sy, .int .i64 m.st, .slice Am m.rules.length km], .agg #[.int .i64 c.q, .slice Al c.l.length kl, .slice Ar c.r.length kr]] X fun e w' => e = .returned (.string (bsS (confT c))) ∧ Ext X w' := fun X hx =>
    have hx := hY3.trans ((Ext.drew W3).trans hx)
    ConfigText_c _ _ _ m c X ⟨_, rfl, hMr.ext hx⟩ (hLi.ext hx) (hRi.ext hx) hm hc hLf (hT.ext (hX.trans hx))
  have hrc : ∀ X, Ext W3.drew X → Calls Tryz.prog 8 #[.agg #[.int .i64 m.sy, .int .i64 m.st, .slice Am m.rules.length km], .string (bsS (confT c))] X (RcRes c X) := fun X hx =>
    have hx := hY3.trans ((Ext.drew W3).trans hx)
    ReadConfig_c _ m c X ⟨_, rfl, hMr.ext hx⟩ hm hc (hT.ext (hX.trans hx)) (hML.ext (hX.trans hx))
  go_cut [9, 10] (fun s t wx => CutRC W3 c s t wx)
  case first =>
    refine wp_region_ordT 10 (readsT [0, 1, 2] (.fork 3 (.fork 4 (readsT [5, 6, 7] (.stir 8 (.stir 9 .done))) 8 (.stir 4 (readsT [5, 6, 7] (.stir 9 .done)))) 8 (.stir 3 (.stir 4 (readsT [5, 6, 7] (.stir 9 .done)))))) (by kernel_rfl) (by kernel_rfl) (fun _ _ _ _ _ h => h) ?_
    simp only [readsT]
    iterate 3 (refine wpOrdT_read (v := ?_) (by rfl) (Or.inl ⟨by rfl, fun x hx => ?_⟩) ?_; rotate_left; (· have x0 := hx.cell a0; have x1 := hx.cell a1; have x2 := hx.cell a2; have y0 := hx.cell b0; have y1 := hx.cell b1; have y2 := hx.cell b2; go_simp; try with_reducible rfl); try simp only [Act.put, List.setIfInBounds_toArray, List.set_cons_zero, List.set_cons_succ])
    refine wpOrdT_forks (by rfl) (by rfl) (fun K hK => ?_) (fun K hK => ?_)
    · go_simp
      refine (hct _ (Ext.refl _)).mono ?_
      rintro e V1 ⟨rfl, hv1⟩
      refine hK _ _ _ (fun _ h => h) hv1 ?_
      clear hK K
      refine wpOrdT_forks (by rfl) (by rfl) (fun K hK => ?_) (fun K hK => ?_)
      · go_simp
        refine (hrc V1 hv1).mono ?_
        rintro e V2 ⟨lu, ru, rfl, hou, hor, hv2⟩
        obtain ⟨Au, ku, rfl, _, _⟩ := hou.ints.form
        obtain ⟨Bu, ju, rfl, _, _⟩ := hor.ints.form
        have hv2 := hv1.trans hv2
        refine hK _ _ _ (fun _ h => h) hv2 ?_
        clear hK K
        iterate 3 (refine wpOrdT_read (v := ?_) (by rfl) (Or.inl ⟨by rfl, fun x hx => ?_⟩) ?_; rotate_left; (· go_simp; try with_reducible rfl); try simp only [Act.put, List.setIfInBounds_toArray, List.set_cons_zero, List.set_cons_succ])
        refine wpOrdT_keep (by rfl) (fun K hK => ?_)
        go_simp
        refine hK _ _ (hv2.trans (Ext.alloc _ _)) ?_
        clear hK K
        refine wpOrdT_keep (by rfl) (fun K hK => ?_)
        go_simp
        refine hK _ _ (hv2.trans (Ext.alloc _ _)) ?_
        clear hK K
        refine wpOrdT_done ?_
        try simp only [List.drop_succ_cons, List.drop_zero]
        have HCUT := Lib.hid (CutRC.late (W := W3) (c := c) ((Ext.drew W3).trans hv2) (ownsRow_base hou (Nat.zero_le _)) (ownsRow_base hor (Nat.zero_le _)))
        go_wp2_with fail
        go_meet
        exact HCUT.out
      · go_simp
        have hvz := hv1.trans (Ext.alloc V1 (.cells #[.int .i64 0, .slice none 0 0, .slice none 0 0] 29))
        have bZ := Blk.new V1 V1.heap.size 29 #[.int .i64 0, .slice none 0 0, .slice none 0 0] rfl
        refine hK _ _ _ (fun _ h => h) hvz ?_
        clear hK K
        refine wpOrdT_keep (by rfl) (fun K hK => ?_)
        go_simp
        refine (hrc _ hvz).mono ?_
        rintro e V2 ⟨lu, ru, rfl, hou, hor, hv2⟩
        obtain ⟨Au, ku, rfl, _, _⟩ := hou.ints.form
        obtain ⟨Bu, ju, rfl, _, _⟩ := hor.ints.form
        have bZ2 := Blk.ext bZ hv2
        have hv2 := Ext.trans hvz hv2
        refine hK _ _ hv2 ?_
        clear hK K
        iterate 3 (refine wpOrdT_read (v := ?_) (by rfl) (Or.inl ⟨by rfl, fun x hx => ?_⟩) ?_; rotate_left; (· go_simp; try with_reducible rfl); try simp only [Act.put, List.setIfInBounds_toArray, List.set_cons_zero, List.set_cons_succ])
        have g0 := bZ2.cell 0
        have g1 := bZ2.cell 1
        have g2 := bZ2.cell 2
        have gf := bZ2.frozen
        simp only [List.getElem?_toArray, List.getElem?_cons_zero, List.getElem?_cons_succ] at g0 g1 g2
        have hgz : W3.heap.size ≤ V1.heap.size := hv1.size
        have HCUT := Lib.hid (CutRC.early (W := W3) (c := c) ((Ext.drew W3).trans hv2) (ownsRow_base hou (Nat.zero_le _)) (ownsRow_base hor (Nat.zero_le _)) bZ2 hgz)
        have HST := Lib.hid (((hv2.setCell (p := ⟨V1.heap.size, 0, none⟩) hgz (.int .i64 c.q)).setCell (p := ⟨V1.heap.size, 1, none⟩) hgz (.slice Au c.l.length ku)).setCell (p := ⟨V1.heap.size, 2, none⟩) hgz (.slice Bu c.r.length ju))
        refine wpOrdT_keep (by rfl) (fun K hK => ?_)
        go_simp
        refine hK _ _ HST.out ?_
        clear hK K
        refine wpOrdT_done ?_
        try simp only [List.drop_succ_cons, List.drop_zero]
        go_wp2_with fail
        go_meet
        exact HCUT.out
    · go_simp
      have hvz := Ext.alloc W3.drew (.cells #[.int .i64 0, .slice none 0 0, .slice none 0 0] 29)
      have bZ := Blk.new W3.drew W3.heap.size 29 #[.int .i64 0, .slice none 0 0, .slice none 0 0] rfl
      refine hK _ _ _ (fun _ h => h) hvz ?_
      clear hK K
      refine wpOrdT_keep (by rfl) (fun K hK => ?_)
      go_simp
      refine (hct _ hvz).mono ?_
      rintro e V1 ⟨rfl, hv1⟩
      have hvy := hvz.trans hv1
      have bY := Blk.ext bZ hv1
      refine hK _ _ hvy ?_
      clear hK K
      refine wpOrdT_keep (by rfl) (fun K hK => ?_)
      go_simp
      refine (hrc _ hvy).mono ?_
      rintro e V2 ⟨lu, ru, rfl, hou, hor, hv2⟩
      obtain ⟨Au, ku, rfl, _, _⟩ := hou.ints.form
      obtain ⟨Bu, ju, rfl, _, _⟩ := hor.ints.form
      have bZ2 := Blk.ext bY hv2
      have hv2 := Ext.trans hvy hv2
      refine hK _ _ hv2 ?_
      clear hK K
      iterate 3 (refine wpOrdT_read (v := ?_) (by rfl) (Or.inl ⟨by rfl, fun x hx => ?_⟩) ?_; rotate_left; (· go_simp; try with_reducible rfl); try simp only [Act.put, List.setIfInBounds_toArray, List.set_cons_zero, List.set_cons_succ])
      have g0 := bZ2.cell 0
      have g1 := bZ2.cell 1
      have g2 := bZ2.cell 2
      have gf := bZ2.frozen
      simp only [List.getElem?_toArray, List.getElem?_cons_zero, List.getElem?_cons_succ] at g0 g1 g2
      have hgz : W3.heap.size ≤ W3.heap.size := Nat.le_refl _
      have HCUT := Lib.hid (CutRC.early (W := W3) (c := c) ((Ext.drew W3).trans hv2) (ownsRow_base hou (Nat.zero_le _)) (ownsRow_base hor (Nat.zero_le _)) bZ2 hgz)
      have HST := Lib.hid (((hv2.setCell (p := ⟨W3.heap.size, 0, none⟩) hgz (.int .i64 c.q)).setCell (p := ⟨W3.heap.size, 1, none⟩) hgz (.slice Au c.l.length ku)).setCell (p := ⟨W3.heap.size, 2, none⟩) hgz (.slice Bu c.r.length ju))
      refine wpOrdT_keep (by rfl) (fun K hK => ?_)
      go_simp
      refine hK _ _ HST.out ?_
      clear hK K
      refine wpOrdT_done ?_
      try simp only [List.drop_succ_cons, List.drop_zero]
      go_wp2_with fail
      go_meet
      exact HCUT.out
  case rest =>
    rename World => wS
    obtain ⟨gc, AS, BS, kS, lS, rfl, rfl, bS, hiL, hiR, hxS⟩ := hcut
    have hYS := hY3.trans hxS
    have hXS := hX3.trans hxS
    have bMS := bM3.ext hxS
    have bCS := bC3.ext hxS
    have bBS := bB.ext hxS
    have hBrS := hBr.ext hxS
    have hMrS := hMr.ext hYS
    have hLiS := hLi.ext hYS
    have hRiS := hRi.ext hYS
    clear a0 a1 a2 b0 b1 b2 hct hrc bB hBr bM3 bC3 bM bC
    have a0 := bMS.cell 0
    have a1 := bMS.cell 1
    have a2 := bMS.cell 2
    have b0 := bCS.cell 0
    have b1 := bCS.cell 1
    have b2 := bCS.cell 2
    simp only [List.getElem?_toArray, List.getElem?_cons_zero, List.getElem?_cons_succ] at a0 a1 a2 b0 b1 b2
    have hco := CellsOf_c _ _ _ m c wS ⟨_, rfl, hMrS⟩ hLiS hRiS hLf hRf hm hc l1 r1
    go_wp2_with fail
    refine hco.mono ?_
    rintro e v1 ⟨u, rfl, hou, hv1⟩
    obtain ⟨Ac, kc, rfl, hkc, hkc2⟩ := hou.ints.form
    have bM1 := bMS.ext hv1
    have bC1 := bCS.ext hv1
    have bB1 := bBS.ext hv1
    have bS1 := bS.ext hv1
    clear a0 a1 a2 b0 b1 b2 hco
    have a0 := bM1.cell 0
    have a1 := bM1.cell 1
    have a2 := bM1.cell 2
    have b0 := bB1.cell 0
    have b1 := bB1.cell 1
    have b2 := bB1.cell 2
    simp only [List.getElem?_toArray, List.getElem?_cons_zero, List.getElem?_cons_succ] at a0 a1 a2 b0 b1 b2
    have hsm := SameMachine_c _ _ m v1 (hBrS.ext hv1) (hMrS.ext hv1)
    go_wp2_with fail
    refine hsm.mono ?_
    rintro e v2 ⟨rfl, hv2⟩
    have hv12 := hv1.trans hv2
    have bC2 := bC1.ext hv2
    have bS2 := bS1.ext hv2
    clear a0 a1 a2 b0 b1 b2 hsm
    have a0 := bS2.cell 0
    have a1 := bS2.cell 1
    have a2 := bS2.cell 2
    have b0 := bC2.cell 0
    have b1 := bC2.cell 1
    have b2 := bC2.cell 2
    simp only [List.getElem?_toArray, List.getElem?_cons_zero, List.getElem?_cons_succ] at a0 a1 a2 b0 b1 b2
    have hsc := r8Config_c v2 c.q _ _ _ _ c.l c.r (hiL.ext hv12) (hiR.ext hv12) (hLiS.ext hv12) (hRiS.ext hv12)
    go_wp2_with fail
    refine hsc.mono ?_
    rintro e v3 ⟨rfl, hv3⟩
    have hv13 := hv12.trans hv3
    have bC3 := bC2.ext hv3
    clear a0 a1 a2 b0 b1 b2 hsc
    have b1 := bC3.cell 1
    have b2 := bC3.cell 2
    simp only [List.getElem?_toArray, List.getElem?_cons_zero, List.getElem?_cons_succ] at b1 b2
    have hCi := hou.ints.ext (hv2.trans hv3)
    have hRi3 := hRiS.ext hv13
    have hLi3 := hLiS.ext hv13
    have hXf := hXS.trans hv13
    obtain ⟨N, hN⟩ : ∃ N, (cellsD c).length = N := ⟨_, rfl⟩
    have HN := Lib.hid hN
    rw [hN] at hkc ⊢
    have hN1 : c.l.length + c.r.length ≤ N := by rw [← hN]; unfold cellsD; simp only [List.length_append, List.length_reverse]; omega
    have hN2 : N ≤ 401 := by rw [← hN]; unfold cellsD; simp only [List.length_append, List.length_reverse]; split <;> simp <;> omega
    have hN3 : c.l.length < N := by
      rw [← hN]
      unfold cellsD
      simp only [List.length_append, List.length_reverse]
      by_cases hr0 : c.r.length = 0
      · rw [if_pos hr0]; simp only [List.length_cons, List.length_nil]; omega
      · omega
    clear hN
    go_wp2_with fail
    have HCG : Hid (∀ i, i < c.r.length → (cellsD c)[c.l.length + i]? = c.r[i]?) := by
      intro i hi
      unfold cellsD
      rw [List.getElem?_append_left (by simp; omega), List.getElem?_append_right (by simp), List.length_reverse, Nat.add_sub_cancel_left]
    have HCL : Hid (∀ i, i < c.l.length → (cellsD c)[c.l.length - 1 - i]? = c.l[i]?) := by
      intro i hi
      unfold cellsD
      rw [List.getElem?_append_left (by simp; omega), List.getElem?_append_left (by simp; omega), List.getElem?_reverse (by omega)]
      congr 1
      omega
    go_loopw [14] (fun i wr => ∃ k : Nat, k ≤ c.r.length ∧ i = .int .i64 (k : Int) ∧ Ext v3 wr) (fun i _ => c.r.length - (intOf i).toNat)
    case atStart => exact ⟨0, Nat.zero_le _, rfl, Ext.refl _⟩
    case round =>
      obtain ⟨k, hk, rfl, hx⟩ := hrel
      have b1 := hx.cell b1
      have b2 := hx.cell b2
      by_cases hlt : k < c.r.length
      · have hkI : (k : Int) < (c.r.length : Int) := by omega
        obtain ⟨bq, oq, rfl, hcq⟩ := hRi3.at hlt
        have e0 := hcq k hlt
        have hgc := HCG.out k hlt
        have hi1 : c.l.length + k < (cellsD c).length := by have := HN.out; omega
        rw [List.getElem?_eq_getElem hlt, List.getElem?_eq_getElem hi1] at hgc
        injection hgc with hgc
        obtain ⟨bd, od, rfl, hcd⟩ := hCi.at (k := c.l.length + k) hi1
        have e1 := hcd (c.l.length + k) hi1
        rw [hgc] at e1
        generalize c.r[k] = z at *
        have hXd := hx.trans (Ext.drew wr)
        have e0 := hXd.cell e0
        have e1 := hXd.cell e1
        have b1d := (Ext.drew wr).cell b1
        have b2d := (Ext.drew wr).cell b2
        have hw : IntKind.i64.wrap ((c.l.length : Int) + (k : Int)) = (c.l.length : Int) + (k : Int) := IntWalk.i64_in _ (by omega)
        have d1 : ¬ (N : Int) ≤ (c.l.length : Int) + (k : Int) := by omega
        have d2 : (c.l.length : Int) + (k : Int) < (N : Int) := by omega
        have d3 : 0 ≤ (c.l.length : Int) + (k : Int) := by omega
        have d4 : ((c.l.length : Int) + (k : Int)).toNat = c.l.length + k := by omega
        clear hcq hcd hgc hi1
        go_wp2_with fail
        refine wp_region_ordT 19 (readsT [0, 1, 2, 3, 4, 5, 6, 7, 8, 9, 10, 11, 12, 13, 14, 15, 16, 17, 18] .done) (by kernel_rfl) (by kernel_rfl) (fun _ _ _ _ _ h => h) ?_
        simp only [readsT]
        iterate 5 (refine wpOrdT_read (v := ?_) (by rfl) (Or.inl ⟨by rfl, fun x hx => ?_⟩) ?_; rotate_left; (· have x0 := hx.cell e0; have x1 := hx.cell e1; have x2 := hx.cell b1d; have x3 := hx.cell b2d; go_simp; try with_reducible rfl); try simp only [Act.put, List.setIfInBounds_toArray, List.set_cons_zero, List.set_cons_succ])
        refine wpOrdT_read (v := .bool false) (by rfl) (Or.inl ⟨by rfl, fun x hx => ?_⟩) ?_
        · go_simp
          all_goals (first | omega | (simp; omega))
        try simp only [Act.put, List.setIfInBounds_toArray, List.set_cons_zero, List.set_cons_succ]
        iterate 13 (refine wpOrdT_read (v := ?_) (by rfl) (Or.inl ⟨by rfl, fun x hx => ?_⟩) ?_; rotate_left; (· have x0 := hx.cell e0; have x1 := hx.cell e1; have x2 := hx.cell b1d; have x3 := hx.cell b2d; go_simp; try with_reducible rfl); try simp only [Act.put, List.setIfInBounds_toArray, List.set_cons_zero, List.set_cons_succ])
        refine wpOrdT_done ?_
        try simp only [List.drop_succ_cons, List.drop_zero]
        change wpList _ _ _ _ _ wr.drew
        go_wp2
        go_roundw
        case rel => exact ⟨k + 1, by omega, by go_num, hXd⟩
        case measure => simp [intOf]; omega
      · have hge : ¬ (k : Int) < (c.r.length : Int) := by omega
        clear HCG
        go_wp2_with fail
        have hv3r := hx
        go_loopw [15] (fun i wr' => ∃ k : Nat, k ≤ c.l.length ∧ i = .int .i64 (k : Int) ∧ Ext v3 wr') (fun i _ => c.l.length - (intOf i).toNat)
        case atStart => exact ⟨0, Nat.zero_le _, rfl, hv3r⟩
        case round =>
          clear b1 b2
          obtain ⟨k, hk, rfl, hx⟩ := hrel
          have b1 := (bC3.ext hx).cell 1
          have b2 := (bC3.ext hx).cell 2
          simp only [List.getElem?_toArray, List.getElem?_cons_zero, List.getElem?_cons_succ] at b1 b2
          by_cases hlt : k < c.l.length
          · have hkI : (k : Int) < (c.l.length : Int) := by omega
            obtain ⟨bq, oq, rfl, hcq⟩ := hLi3.at hlt
            have e0 := hcq k hlt
            have hgc := HCL.out k hlt
            have hi1 : c.l.length - 1 - k < (cellsD c).length := by have := HN.out; omega
            rw [List.getElem?_eq_getElem hlt, List.getElem?_eq_getElem hi1] at hgc
            injection hgc with hgc
            obtain ⟨bd, od, rfl, hcd⟩ := hCi.at (k := c.l.length - 1 - k) hi1
            have e1 := hcd (c.l.length - 1 - k) hi1
            rw [hgc] at e1
            generalize c.l[k] = z at *
            have hXd := hx.trans (Ext.drew wr)
            have e0 := hXd.cell e0
            have e1 := hXd.cell e1
            have b1d := (Ext.drew wr).cell b1
            have b2d := (Ext.drew wr).cell b2
            have hw1 : IntKind.i64.wrap ((c.l.length : Int) - 1) = (c.l.length : Int) - 1 := IntWalk.i64_in _ (by omega)
            have hw2 : IntKind.i64.wrap ((c.l.length : Int) - 1 - (k : Int)) = (c.l.length : Int) - 1 - (k : Int) := IntWalk.i64_in _ (by omega)
            have d1 : ¬ (N : Int) ≤ (c.l.length : Int) := by omega
            have d2 : ((c.l.length - 1 - k : Nat) : Int) < (N : Int) := by omega
            have d3 : 0 ≤ (c.l.length : Int) - 1 - (k : Int) := by omega
            have d4 : ((c.l.length : Int) - 1 - (k : Int)).toNat = c.l.length - 1 - k := by omega
            have d6 : (k : Int) ≤ (c.l.length : Int) - 1 := by omega
            have d5 : (c.l.length : Int) - 1 - (k : Int) < (N : Int) := by omega
            clear hcq hcd hgc hi1
            go_wp2_with fail
            refine wp_region_ordT 18 (readsT [0, 1, 2, 3, 4, 5, 6, 7, 8, 9, 10, 11, 12, 13, 14, 15, 16, 17] .done) (by kernel_rfl) (by kernel_rfl) (fun _ _ _ _ _ h => h) ?_
            simp only [readsT]
            iterate 3 (refine wpOrdT_read (v := ?_) (by rfl) (Or.inl ⟨by rfl, fun x hx => ?_⟩) ?_; rotate_left; (· have x0 := hx.cell e0; have x1 := hx.cell e1; have x2 := hx.cell b1d; have x3 := hx.cell b2d; go_simp; try with_reducible rfl); try simp only [Act.put, List.setIfInBounds_toArray, List.set_cons_zero, List.set_cons_succ])
            refine wpOrdT_read (v := .bool false) (by rfl) (Or.inl ⟨by rfl, fun x hx => ?_⟩) ?_
            · go_simp
              all_goals (first | omega | (simp; omega))
            try simp only [Act.put, List.setIfInBounds_toArray, List.set_cons_zero, List.set_cons_succ]
            iterate 14 (refine wpOrdT_read (v := ?_) (by rfl) (Or.inl ⟨by rfl, fun x hx => ?_⟩) ?_; rotate_left; (· have x0 := hx.cell e0; have x1 := hx.cell e1; have x2 := hx.cell b1d; have x3 := hx.cell b2d; go_simp; try with_reducible rfl); try simp only [Act.put, List.setIfInBounds_toArray, List.set_cons_zero, List.set_cons_succ])
            refine wpOrdT_done ?_
            try simp only [List.drop_succ_cons, List.drop_zero]
            change wpList _ _ _ _ _ wr.drew
            go_wp2
            go_roundw
            case rel => exact ⟨k + 1, by omega, by go_num, hXd⟩
            case measure => simp [intOf]; omega
          · have hge : ¬ (k : Int) < (c.l.length : Int) := by omega
            have hww : IntKind.i64.wrap ((c.l.length : Int) + (c.r.length : Int)) = ((c.l.length + c.r.length : Nat) : Int) := by rw [IntWalk.i64_in _ (by omega)]; omega
            have dge : ((c.l.length + c.r.length : Nat) : Int) ≤ (N : Int) := by omega
            have HXF := Lib.hid (hXf.trans hx)
            go_wp2
            go_ret
            refine ⟨?_, HXF.out⟩
            have : decide ((c.l.length : Int) + (c.r.length : Int) ≤ (N : Int)) = true := decide_eq_true (by omega)
            show Ending.returned (.bool (decide ((c.l.length : Int) + (c.r.length : Int) ≤ (N : Int)))) = _
            rw [this]
end Go.Proofs.YtcebkjiafjmjfaaGreatDoor
end
section
namespace Go.Proofs.YtcebkjiafjmjfaaGreatDoor
open Go Go.RowKit Go.ChangeShapes Go.WideShapes Go.ChangeAt
set_option maxRecDepth 100000 in
theorem lifted29 (os : Os) (started : os.Started) (H : Type) (enc : TypeId × Value → H) :
    ReturnsInHanded {} Tryz.checked os 3 .any (fun w args => (Rows.fnMachineTextSpec.pre enc Tryz.prog Tryz.f3 [] false w args ∧ laidMetH Tryz.prog laidP w) ∧ sizedMet enc Tryz.prog Tryz.f3 (OpenSpec.ofChange Rows.fnMachineTextSpec) false w args)
      (Rows.fnMachineTextSpec.post enc Tryz.prog Tryz.f3 false true false false) := by
  refine law_liftS (C := Tryz.checked) (X := fun w _ => laidMetH Tryz.prog laidP w) (tb := 4) (fun _ _ _ hh h => h.of_heap hh) ownKnP started (by kernel_rfl) Tryz.func3
    (ChangeSpec.witness_shaped (enc := enc) (C := Tryz.checked) (os := os) (X := fun w _ => laidMetH Tryz.prog laidP w) false (World.laidAll Tryz.prog os laidP) #[.slice none 0 0, .slice none 0 0] 8 (World.laidAll_os _ _ _) (World.shaped_of_ZipB (by kernel_rfl) (by kernel_rfl)) (by kernel_rfl) (by kernel_rfl) (by kernel_rfl) (laid_metP os _))
    laidOutPP (by kernel_rfl) (by kernel_rfl) Tryz.underlying4 rfl
    (fun ds hd => by
      match ds, hd.trans (show Tryz.f3.params.size = 2 by kernel_rfl) with
      | [d0, d1], _ => rfl) ?_
  intro W base args ds p hval hA hL hSh
  rw [Tryz.params3] at hA hval
  obtain ⟨v0, v1, d0, d1, p0, p1, rfl, rfl, rfl, h0, h1⟩ := trodAll_two hA
  obtain ⟨bs, hb⟩ := open_bytesT (hval 0 _ v0 rfl rfl) h0
  obtain ⟨bs', hb'⟩ := open_bytesT (hval 1 _ v1 rfl rfl) h1
  exact law29_c v0 v1 bs bs' W hb hb' (tab_of_laidP hL) (maxL_of_shape hSh)
theorem row29 : Rows.FnMachineTextSaid :=
  OpenClaim.holds_of_wide 3 Tryz.f3 rfl rfl rfl rfl rfl rfl rfl ⟨rfl, rfl, rfl, rfl, rfl⟩ rfl rfl rfl rfl rfl (by kernel_rfl) Tryz.func3 (by kernel_rfl)
    (of_decide_eq_true (by kernel_rfl)) (by unfold Func.isWrapper; first | (rw [if_pos (by decide +kernel)]; kernel_rfl) | (rw [if_neg (by decide +kernel)]; exact ⟨rfl, rfl⟩))
    (fun os started H enc _ => lifted29 os started H enc)
theorem machineText_holds : Rows.FnMachineTextCardSaid :=
  Claim7.holds_tied_plain_at .later [] Rows.fnMachineTextCard.laidKinds true Rows.fnMachineTextCard.stood.harness Rows.fnMachineTextCard.stood.looks
    row29 (fun _ h => by cases h) (by kernel_rfl) (fun _ h => by cases h) fnMachineText_row_tie rfl ⟨rfl, rfl⟩ (by kernel_rfl) rfl
    (fun f fn hf hfn => by
      obtain rfl : f = 3 := Option.some.inj ((show Tryz.prog.funcNamed "loop.example/g01079/laws.FnMachineText" = some 3 by kernel_rfl).symm.trans hf) |>.symm
      obtain rfl : fn = Tryz.f3 := (Option.some.inj (Tryz.func3.symm.trans hfn)).symm
      exact ⟨by kernel_rfl, fun j t ht => by
        rw [Tryz.params3] at ht
        have hm : t ∈ [22, 22] := by simpa using Array.mem_of_getElem? ht
        have hall : ([22, 22].all fun u => !Tryz.prog.wantsStandIn u) = true := by kernel_rfl
        exact (show Tryz.prog.wantsStandIn t = false by simpa using List.all_eq_true.1 hall t hm)⟩)
    (by kernel_rfl)
#print axioms machineText_holds
end Go.Proofs.YtcebkjiafjmjfaaGreatDoor
end
