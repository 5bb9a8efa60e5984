/- The walk of the law on machines with other numbers of the states and symbols. Written by mklaw2.py. -/
import Derived.Test.YtheokhgppmmjlaaRenL
import Derived.Deep.RegionHeld3
import Derived.Deep.DeepCutAuto
set_option linter.unusedSimpArgs false
set_option linter.unusedVariables false
set_option linter.unusedSectionVars false
namespace Go.Proofs.Ytheokhgppmmjlaa
open Go Go.RowKit Go.Proofs
set_option maxHeartbeats 400000
theorem movedL_len (xs order : List Int) : (movedL xs order).length = xs.length := by simp [movedL]
theorem movedL_map (xs order : List Int) : movedL xs order = xs.map (pickL order) := rfl
/-- A configuration in a block that has been made. -/
def CutR (w0 : World) (C : ConfD) (s : Value) (w : World) : Prop := ∃ g lv rv, s = .pointer (some ⟨g, 0, none⟩) ∧ Blk w g 29 #[.int .i64 C.q, lv, rv] ∧ Ext w0 w ∧ w0.heap.size ≤ g ∧ OwnInts w0.heap.size w lv C.l ∧ OwnInts w0.heap.size w rv C.r
abbrev zeroCf : Obj := .cells #[.int .i64 0, .slice none 0 0, .slice none 0 0] 29
theorem CutR.late {w0 wB : World} {q zq : Int} {l r zs ys : List Int} {A B : Option Addr} {ca cb : Nat} (hz : pickL zs q = zq) (hx : Ext w0 wB) (h1 : OwnInts w0.heap.size wB (.slice A (movedL l ys).length ca) (movedL l ys)) (h2 : OwnInts w0.heap.size wB (.slice B (movedL r ys).length cb) (movedL r ys)) :
    CutR w0 (renC (pickL zs) (pickL ys) ⟨q, l, r⟩) (.pointer (some ⟨wB.heap.size, 0, none⟩)) (wB.alloc (.cells #[.int .i64 zq, .slice A (movedL l ys).length ca, .slice B (movedL r ys).length cb] 29)) :=
  ⟨_, _, _, rfl, by simp only [renC, hz]; exact Blk.new _ _ _ _ rfl, hx.trans (Ext.alloc _ _), hx.size, h1.ext (Ext.alloc _ _), h2.ext (Ext.alloc _ _)⟩
theorem CutR.early {w0 wB : World} {q zq : Int} {l r zs ys : List Int} {A B : Option Addr} {ca cb g : Nat} (hz : pickL zs q = zq) (hx : Ext w0 wB) (h1 : OwnInts w0.heap.size wB (.slice A (movedL l ys).length ca) (movedL l ys)) (h2 : OwnInts w0.heap.size wB (.slice B (movedL r ys).length cb) (movedL r ys))
    (hb : Blk wB g 29 #[.int .i64 0, .slice none 0 0, .slice none 0 0]) (hg : w0.heap.size ≤ g) :
    CutR w0 (renC (pickL zs) (pickL ys) ⟨q, l, r⟩) (.pointer (some ⟨g, 0, none⟩)) (((wB.setCell ⟨g, 0, none⟩ (.int .i64 zq)).setCell ⟨g, 1, none⟩ (.slice A (movedL l ys).length ca)).setCell ⟨g, 2, none⟩ (.slice B (movedL r ys).length cb)) := by
  have n1 := own_far_blk h1 hb (by decide)
  have n2 := own_far_blk h2 hb (by decide)
  refine ⟨g, _, _, rfl, ?_, ((hx.setCell hg _).setCell hg _).setCell hg _, hg, ownsRow_far (ownsRow_far (ownsRow_far h1 n1 _) n1 _) n1 _, ownsRow_far (ownsRow_far (ownsRow_far h2 n2 _) n2 _) n2 _⟩
  simp only [renC, hz]
  exact ((hb.set_ 0 _).set_ 1 _).set_ 2 _
theorem Ext.set3' {w0 wC : World} {g : Nat} (hx : Ext w0 wC) (hg : w0.heap.size ≤ g) (x y z : Value) : Ext w0 (((wC.setCell ⟨g, 0, none⟩ x).setCell ⟨g, 1, none⟩ y).setCell ⟨g, 2, none⟩ z) :=
  ((hx.setCell hg _).setCell hg _).setCell hg _
theorem symL_at (t : Nat) : ∀ j, j < t → (0 :: downL t)[j + 1]? = some ((t - j : Nat) : Int) := by
  induction t with
  | zero => intro j h; omega
  | succ t ih =>
    intro j h
    cases j with
    | zero => simp [downL]
    | succ j =>
      have := ih j (by omega)
      simp only [List.getElem?_cons_succ, downL] at this ⊢
      rw [this]
      simp
theorem symL_len (t : Nat) : (0 :: downL t).length = t + 1 := by
  induction t with
  | zero => rfl
  | succ t ih => simp only [downL, List.length_cons] at ih ⊢; omega
theorem symL_take (t j : Nat) (h : j < t) : (0 :: downL t).take (j + 1 + 1) = (0 :: downL t).take (j + 1) ++ [((t - j : Nat) : Int)] := by
  have hl := symL_len t
  rw [List.take_add_one, symL_at t j h]
  rfl
theorem run_ok {w w' : World} {m : MachD} {c : ConfD} {e : Ending} (h : RunRes w m c 40 e w') (hm : machOk m = true) (hc : confB m c = true) :
    Ext w w' ∧ ((∃ i, FullAt m c 40 i ∧ RunVal w w' blankC 0 false 5 e) ∨ (∃ i : Nat, EndAt m c 40 i ∧ RunVal w w' (cfgI m c i) i (decide (lookI m (cfgI m c i) = noR)) 0 e)) := by
  obtain ⟨hx, h | h | h | h⟩ := h
  · rw [hm, hc] at h; exact absurd h.1 (by decide)
  · exact absurd h.2.1 (by decide)
  · obtain ⟨_, _, i, h1, h2⟩ := h; exact ⟨hx, .inl ⟨i, h1, h2⟩⟩
  · obtain ⟨_, _, i, h1, h2⟩ := h; exact ⟨hx, .inr ⟨i, h1, h2⟩⟩
/-- A machine under other numbers of the states and then of the symbols. -/
def twoM (m : MachD) (S Y : Int → Int) : MachD := renM (renM m S (fun z => z)) (fun z => z) Y
theorem renC_two (S Y : Int → Int) (c : ConfD) : renC (fun z => z) Y (renC S (fun z => z) c) = renC S Y c := by simp [renC]
section
variable {m : MachD} {S Y : Int → Int} {c : ConfD} (hm : machOk m = true) (hS : Chg m.st S) (hY : Chg m.sy Y) (h0 : Y 0 = 0) (hc : confB m c = true)
include hm hS hY
theorem one_ok : machOk (renM m S (fun z => z)) = true := renM_ok hm hS (Chg.id _)
theorem two_ok : machOk (twoM m S Y) = true := renM_ok (one_ok hm hS hY) (Chg.id _) hY
include h0 hc
theorem one_conf : confB (renM m S (fun z => z)) (renC S (fun z => z) c) = true := ren_conf hm hS (Chg.id _) rfl hc
theorem two_conf : confB (twoM m S Y) (renC S Y c) = true := by
  rw [← renC_two]
  exact ren_conf (one_ok hm hS hY) (Chg.id _) hY h0 (one_conf hm hS hY h0 hc)
theorem two_end {N i : Nat} (h : EndAt m c N i) : EndAt (twoM m S Y) (renC S Y c) N i := by
  rw [← renC_two]
  exact ren_end (one_ok hm hS hY) (Chg.id _) hY h0 (conf_run (one_conf hm hS hY h0 hc)).1 (ren_end hm hS (Chg.id _) rfl (conf_run hc).1 h)
theorem two_full {N i : Nat} (h : FullAt m c N i) : FullAt (twoM m S Y) (renC S Y c) N i := by
  rw [← renC_two]
  exact ren_full (one_ok hm hS hY) (Chg.id _) hY h0 (conf_run (one_conf hm hS hY h0 hc)).1 (ren_full hm hS (Chg.id _) rfl (conf_run hc).1 h)
theorem two_cfg {N i : Nat} (h : EndAt m c N i) : cfgI (twoM m S Y) (renC S Y c) i = renC S Y (cfgI m c i) := by
  have h1 := ren_end hm hS (Chg.id m.sy) rfl (conf_run hc).1 h
  rw [← renC_two, twoM, ren_cfg (one_ok hm hS hY) (Chg.id _) hY h0 (conf_run (one_conf hm hS hY h0 hc)).1 i h1.runs.no, ren_cfg hm hS (Chg.id _) rfl (conf_run hc).1 i h.runs.no, renC_two]
theorem two_stop {N i : Nat} (h : EndAt m c N i) : lookI (twoM m S Y) (cfgI (twoM m S Y) (renC S Y c) i) = noR ↔ lookI m (cfgI m c i) = noR := by
  have h1 := ren_end hm hS (Chg.id m.sy) rfl (conf_run hc).1 h
  rw [← renC_two, twoM, ren_stop (one_ok hm hS hY) (Chg.id _) hY h0 (conf_run (one_conf hm hS hY h0 hc)).1 i h1.runs.no, ren_stop hm hS (Chg.id _) rfl (conf_run hc).1 i h.runs.no]
end
set_option maxRecDepth 20000 in
set_option maxHeartbeats 4000000 in
theorem law2_c (v u : Value) (bs ms : List Int) (w : World) (h : Bytes w v bs) (h' : Bytes w u ms) :
    Calls Try.prog 3 #[v, u] w fun e w' => e = .returned (.bool true) ∧ Ext w w' := by
  obtain ⟨i0, hi, hz0, hz1, hz2⟩ := info_parts intInfo
  obtain ⟨Av, cv, rfl, _, _, _⟩ := h.1.form
  obtain ⟨Au, cu, rfl, _, _, _⟩ := h'.1.form
  go_enter Try.func3, Try.ntmps3
  go_wp2_with fail
  refine (r8Long_c w Av Au bs.length cv ms.length cu).mono ?_
  rintro e w1 ⟨rfl, rfl⟩
  cases hbig : (decide (1048576 < bs.length) || decide (1048576 < ms.length)) with
  | true =>
    go_wp2
    go_ret
    exact ⟨rfl, Ext.refl _⟩
  | false =>
    clear hbig
    go_wp2_with fail
    refine (R8Machine_c _ bs w h).mono ?_
    rintro e w2 ⟨⟨⟨sy, st, rules⟩, ⟨q, l, r⟩, mv, lv, rv, rfl, hok, hl6, hcf, oM, oL, oR⟩, hx2⟩
    obtain ⟨⟨s1, s2⟩, s3, s4⟩ := mac_st hok
    simp only at s1 s2 s3 s4 hl6 oM oL oR
    obtain ⟨n, rfl⟩ := Int.eq_ofNat_of_zero_le (show 0 ≤ st by omega)
    obtain ⟨t, ht⟩ : ∃ t : Nat, sy = ((t + 1 : Nat) : Int) := ⟨(sy - 1).toNat, by omega⟩
    have HT := Lib.hid ht
    have ht5 : t ≤ 5 := by omega
    clear ht
    obtain ⟨Am, cm, rfl, _, _, _⟩ := (ownsRow_row oM).form
    obtain ⟨Al, cl, rfl, _, _, _⟩ := (ownsRow_row oL).form
    obtain ⟨Ar, cr, rfl, _, _, _⟩ := (ownsRow_row oR).form
    have HOK := Lib.hid hok
    have HCF := Lib.hid hcf
    clear hok hcf
    obtain ⟨V, hV⟩ : ∃ V, V = (w2.alloc (.cells #[.int .i64 sy, .int .i64 (n : Int), .slice Am rules.length cm] 26)).alloc (.cells #[.int .i64 q, .slice Al l.length cl, .slice Ar r.length cr] 29) := ⟨_, rfl⟩
    have hXV : Ext w2 V := by rw [hV]; exact (Ext.alloc _ _).trans (Ext.alloc _ _)
    obtain ⟨bm, hbm⟩ : ∃ bm, bm = w2.heap.size := ⟨_, rfl⟩
    have bMV : Blk V bm 26 #[.int .i64 sy, .int .i64 (n : Int), .slice Am rules.length cm] := by rw [hV, hbm]; exact (Blk.new _ _ _ _ rfl).alloc _
    have bCV : Blk V (bm + 1) 29 #[.int .i64 q, .slice Al l.length cl, .slice Ar r.length cr] := by rw [hV, hbm]; exact Blk.new _ _ _ _ (by simp)
    have oMV : OwnRules w.heap.size V _ rules := OwnRules.ext oM hXV
    have oLV : OwnInts w.heap.size V _ l := oL.ext hXV
    have oRV : OwnInts w.heap.size V _ r := oR.ext hXV
    have hX := hx2.trans hXV
    have hmV := h'.ext hX
    clear oM oL oR hXV hx2 h h'
    go_wp2_with fail
    rw [← hV, ← hbm]
    clear hV hbm
    refine (R8Order_c _ ms n V hmV (by omega) (by omega)).mono ?_
    rintro e w3 ⟨zv, zs, rfl, oZ, hperm, hx3⟩
    have hX3 := hX.trans hx3
    have bM3 := bMV.ext hx3
    have bC3 := bCV.ext hx3
    have oM3 := OwnRules.ext oMV hx3
    have oL3 := oLV.ext hx3
    have oR3 := oRV.ext hx3
    have oZ3 : OwnInts w.heap.size w3 zv zs := ownsRow_base oZ hX.size
    have HP := Lib.hid hperm
    have hlz : zs.length = n := by rw [hperm.length_eq, upL_len]
    have HLZ := Lib.hid hlz
    clear hperm hlz oZ hmV bMV bCV oMV oLV oRV
    obtain ⟨Az, cz', rfl, _, _, _⟩ := (ownsRow_row oZ3).form
    have m0 := (bM3.alloc (.cells #[.int .i64 0] 2)).cell 0
    simp only [List.getElem?_toArray, List.getElem?_cons_zero] at m0
    have hw0 : w.heap.size ≤ w3.heap.size := hX3.size
    obtain ⟨V3, hV3⟩ : ∃ V, V = w3.alloc (.cells #[.int .i64 0] 2) := ⟨_, rfl⟩
    obtain ⟨gs, hgs⟩ : ∃ g, g = w3.heap.size := ⟨_, rfl⟩
    have hXV3 : Ext w3 V3 := by rw [hV3]; exact Ext.alloc _ _
    have oS : OwnInts w3.heap.size V3 (.slice (some ⟨gs, 0, none⟩) 1 1) [0] := by
      refine ⟨by simp [ivs], .inr ⟨gs, 1, #[.int .i64 0], rfl, by rw [hgs]; exact Nat.le_refl _, by rw [hV3, hgs]; exact heap_alloc_new w3 _, by simp, by unfold maxLen; omega, rfl, by simp [ivs]⟩⟩
    have HX3 := Lib.hid hX3
    have HXV3 := Lib.hid hXV3
    go_wp2
    rw [← hV3, ← hgs]
    clear hV3 hgs m0 hXV3 hX3 hw0
    go_loopw [8, 9] (fun s i wr => ∃ (j : Nat), j ≤ t ∧ i = .int .i64 ((t - j : Nat) : Int) ∧ OwnInts w3.heap.size wr s ((0 :: downL t).take (j + 1)) ∧ Ext w3 wr) (fun _ i _ => (intOf i).toNat)
    case atStart => exact ⟨0, Nat.zero_le _, by congr 1; have := HT.out; omega, by simpa using oS, HXV3.out⟩
    case round =>
      clear oS HXV3
      obtain ⟨j, hj, rfl, oS, hxr⟩ := hrel
      by_cases hlt : j < t
      · have hd : decide ((0 : Int) < ((t - j : Nat) : Int)) = true := by simp; omega
        have HR := Lib.hid (symL_take t j hlt)
        have hll : ((0 :: downL t).take (j + 1)).length ≤ 6 := by simp; omega
        generalize (0 :: downL t).take (j + 1) = ys at *
        obtain ⟨As, cs, rfl, _, _⟩ := oS.ints.form
        have ho1 : wr.ownsRow w3.heap.size 2 1 (.slice As ys.length cs) ys.length (ivs ys) := oS
        have ho' := ho1.alloc (.cells #[.int .i64 ((t - j : Nat) : Int)] 2)
        have hs : w3.heap.size ≤ wr.heap.size := hxr.size
        go_wp2_with (at_builtin; refine wpList_append_own_at _ rfl _ _ 27 rfl w3.heap.size 2 i0 (.int .i64 0) 1 8 Try.underlying27 hi hz0 hz1 hz2 rfl (by decide) _ _ _ rfl ho' ⟨wr.heap.size, 0, none⟩ 1 1 [.int .i64 ((t - j : Nat) : Int)] rfl rfl (cell_one_new _ _ _) ?c2 ?c3 ?c4 ?c5 ?_)
        case c2 => intro u hu; simp at hu; subst hu; rfl
        case c3 => unfold maxLen; omega
        case c4 => omega
        case c5 => simp; omega
        intro v' w4 hown4 hg4 _ hloc
        obtain ⟨A', c', rfl, _, _, _⟩ := (ownsRow_row hown4).form
        have hx4 : Ext w3 w4 := (hxr.trans (Ext.alloc _ _)).grown hg4 (fun k hk => (ho'.lt k hk).1)
        have HJ : Hid (((t - j : Nat) : Int) - 1 = ((t - (j + 1) : Nat) : Int)) := Lib.hid (by omega)
        have hge : 1 ≤ ((t - j : Nat) : Int) := by omega
        go_wp2
        go_roundw
        case rel => exact ⟨j + 1, by omega, by rw [HJ.out], by rw [HR.out]; simpa [OwnInts, ivs_append, ivs] using hown4, hx4⟩
        case measure => simp [intOf]; omega
      · obtain rfl : j = t := by omega
        have hd : decide ((0 : Int) < ((j - j : Nat) : Int)) = false := by simp
        have hys : (0 :: downL j).take (j + 1) = 0 :: downL j := List.take_of_length_le (by rw [symL_len]; exact Nat.le_refl _)
        rw [hys] at oS
        have HYP := Lib.hid (downL_perm j)
        have HY0 : Hid ((0 :: downL j).getD 0 0 = 0) := rfl
        have hyl := symL_len j
        clear hys
        generalize 0 :: downL j = ys at *
        obtain ⟨As, cs, rfl, _, _⟩ := oS.ints.form
        have HYL := Lib.hid hyl
        clear hyl
        have hXr := HX3.out.trans hxr
        have oSr : OwnInts w.heap.size wr (.slice As ys.length cs) ys := ownsRow_base oS HX3.out.size
        have bMr := bM3.ext hxr
        have bCr := bC3.ext hxr
        have oMr := OwnRules.ext oM3 hxr
        have oLr := oL3.ext hxr
        have oRr := oR3.ext hxr
        have oZr := oZ3.ext hxr
        clear oS bM3 bC3 oM3 oL3 oR3 oZ3 HX3 hxr hx3 hX
        have HCS : Hid (Chg (n : Int) (pickL zs)) := Lib.hid (Chg.of_perm HP.out)
        have HCY : Hid (Chg sy (pickL ys)) := Lib.hid (by rw [HT.out]; exact Chg.of_perm HYP.out)
        have HOS : Hid (isOrd zs (n : Int) = true) := Lib.hid (isOrd_of_perm HP.out)
        have HOY : Hid (isOrd ys sy = true) := Lib.hid (by rw [HT.out]; exact isOrd_of_perm HYP.out)
        have m0 := bMr.cell 0
        have m1 := bMr.cell 1
        have m2 := bMr.cell 2
        simp only [List.getElem?_toArray, List.getElem?_cons_zero, List.getElem?_cons_succ] at m0 m1 m2
        go_wp2_with fail
        refine (RenameStates_c ⟨sy, (n : Int), rules⟩ _ _ zs wr oMr.rules oZr.ints HOK.out HOS.out).mono ?_
        rintro e w5 ⟨uv, rfl, o1, hx5⟩
        obtain ⟨R1, hR1⟩ : ∃ R, R = (renM ⟨sy, (n : Int), rules⟩ (pickL zs) (fun z => z)).rules := ⟨_, rfl⟩
        have HR1 : Hid ((⟨sy, (n : Int), R1⟩ : MachD) = renM ⟨sy, (n : Int), rules⟩ (pickL zs) (fun z => z)) := Lib.hid (by rw [hR1]; rfl)
        rw [← hR1] at o1
        clear hR1
        have hok1 : Hid (machOk ⟨sy, (n : Int), R1⟩ = true) := Lib.hid (by rw [HR1.out]; exact one_ok HOK.out HCS.out HCY.out)
        obtain ⟨A1, c1, rfl, _, _, _⟩ := (ownsRow_row o1).form
        obtain ⟨V5, hV5⟩ : ∃ V, V = w5.alloc (.cells #[.int .i64 sy, .int .i64 (n : Int), .slice A1 R1.length c1] 26) := ⟨_, rfl⟩
        obtain ⟨b5, hb5⟩ : ∃ b, b = w5.heap.size := ⟨_, rfl⟩
        have hXV5 : Ext w5 V5 := by rw [hV5]; exact Ext.alloc _ _
        have bM5 : Blk V5 b5 26 #[.int .i64 sy, .int .i64 (n : Int), .slice A1 R1.length c1] := by rw [hV5, hb5]; exact Blk.new _ _ _ _ rfl
        have o1V := OwnRules.ext o1 hXV5
        have hx5V := hx5.trans hXV5
        have m0 := bM5.cell 0
        have m1 := bM5.cell 1
        have m2 := bM5.cell 2
        simp only [List.getElem?_toArray, List.getElem?_cons_zero, List.getElem?_cons_succ] at m0 m1 m2
        rw [hV5, hb5] at m0 m1 m2
        go_wp2_with fail
        rw [← hV5]
        clear hV5 hb5 m0 m1 m2
        refine (SwapSymbols_c ⟨sy, (n : Int), R1⟩ _ _ ys V5 o1V.rules (oSr.ext hx5V).ints hok1.out HOY.out HY0.out).mono ?_
        rintro e w6 ⟨uw, rfl, o2, hx6⟩
        obtain ⟨R2, hR2⟩ : ∃ R, R = (renM ⟨sy, (n : Int), R1⟩ (fun z => z) (pickL ys)).rules := ⟨_, rfl⟩
        have HR2 : Hid ((⟨sy, (n : Int), R2⟩ : MachD) = twoM ⟨sy, (n : Int), rules⟩ (pickL zs) (pickL ys)) := Lib.hid (by rw [hR2, twoM, ← HR1.out]; rfl)
        rw [← hR2] at o2
        clear hR2
        have hok2 : Hid (machOk ⟨sy, (n : Int), R2⟩ = true) := Lib.hid (by rw [HR2.out]; exact two_ok HOK.out HCS.out HCY.out)
        obtain ⟨A2, c2, rfl, _, _, _⟩ := (ownsRow_row o2).form
        obtain ⟨V6, hV6⟩ : ∃ V, V = w6.alloc (.cells #[.int .i64 sy, .int .i64 (n : Int), .slice A2 R2.length c2] 26) := ⟨_, rfl⟩
        obtain ⟨b6, hb6⟩ : ∃ b, b = w6.heap.size := ⟨_, rfl⟩
        have hXV6 : Ext w6 V6 := by rw [hV6]; exact Ext.alloc _ _
        have bM6 : Blk V6 b6 26 #[.int .i64 sy, .int .i64 (n : Int), .slice A2 R2.length c2] := by rw [hV6, hb6]; exact Blk.new _ _ _ _ rfl
        have o2V : OwnRules V5.heap.size V6 _ R2 := OwnRules.ext o2 hXV6
        have hX6 : Ext wr V6 := (hx5V.trans hx6).trans hXV6
        have m0 := bM6.cell 0
        have m1 := bM6.cell 1
        have m2 := bM6.cell 2
        simp only [List.getElem?_toArray, List.getElem?_cons_zero, List.getElem?_cons_succ] at m0 m1 m2
        rw [hV6, hb6] at m0 m1 m2
        clear o1 o1V o2 hx5 hXV5 hx5V hx6 hXV6 bM5
        go_wp2_with fail
        rw [← hV6]
        rw [← hV6, ← hb6] at m0 m1 m2
        clear hV6 m0 m1 m2
        refine (ValidMachine_c _ ⟨sy, (n : Int), R2⟩ V6 ⟨_, rfl, o2V.rules⟩).mono ?_
        rintro e w8 ⟨rfl, hx8⟩
        rw [hok2.out]
        have hX8 := hX6.trans hx8
        have bM8 := bMr.ext hX8
        have bC8 := bCr.ext hX8
        have oM8 := OwnRules.ext oMr hX8
        have oL8 := oLr.ext hX8
        have oR8 := oRr.ext hX8
        have oZ8 := oZr.ext hX8
        have oY8 := oSr.ext hX8
        have bT8 := bM6.ext hx8
        have oT8 := OwnRules.ext o2V hx8
        have hXw8 := hXr.trans hX8
        clear hX6 bMr bCr oMr oLr oRr oZr oSr bM6 o2V hx8 hXr hX8
        rw [← hb6]
        clear hb6
        obtain ⟨hcf1, hcf2⟩ := conf_run HCF.out
        simp only [fitI, Bool.and_eq_true, decide_eq_true_eq] at hcf2
        obtain ⟨qn, hqn⟩ := Int.eq_ofNat_of_zero_le hcf1.q0
        have hqlt : qn < n := by have := hcf1.q1; simp only at this hqn; omega
        simp only at hqn
        subst hqn
        have hqz : qn < zs.length := by rw [HLZ.out]; exact hqlt
        obtain ⟨gz, oz, rfl, hcz⟩ := (oZ8.ints).at hqz
        have cz := hcz qn hqz
        obtain ⟨zq, hzq⟩ : ∃ z, pickL zs (qn : Int) = z := ⟨_, rfl⟩
        have hzq2 : zs[qn] = zq := by
          rw [← hzq]
          simp only [pickL, Int.toNat_natCast, List.getD_eq_getElem?_getD, List.getElem?_eq_getElem hqz, Option.getD_some]
        rw [hzq2] at cz
        have HZQ := Lib.hid hzq
        have HLL : Hid (l.length ≤ 100000) := Lib.hid (by omega)
        have HRL : Hid (r.length ≤ 100000) := Lib.hid (by omega)
        have HIL : Hid (∀ x ∈ l, 0 ≤ x ∧ x < (ys.length : Int)) := Lib.hid (by rw [HYL.out, ← HT.out]; exact hcf1.l)
        have HIR : Hid (∀ x ∈ r, 0 ≤ x ∧ x < (ys.length : Int)) := Lib.hid (by rw [HYL.out, ← HT.out]; exact hcf1.r)
        clear hcz hzq hzq2 hcf1 hcf2
        have c0 := bC8.cell 0
        have c1 := bC8.cell 1
        have c2 := bC8.cell 2
        simp only [List.getElem?_toArray, List.getElem?_cons_zero, List.getElem?_cons_succ] at c0 c1 c2
        have hL0 := (oL8.ext (Ext.drew _)).ints
        have hR0 := (oR8.ext (Ext.drew _)).ints
        have hO0 := (oY8.ext (Ext.drew _)).ints
        have hLz := (oL8.ext ((Ext.alloc _ zeroCf).trans (Ext.drew _))).ints
        have hRz := (oR8.ext ((Ext.alloc _ zeroCf).trans (Ext.drew _))).ints
        have hOz := (oY8.ext ((Ext.alloc _ zeroCf).trans (Ext.drew _))).ints
        go_upto_region 14 with fail
        go_cut [14] (fun s wx => CutR w8 (renC (pickL zs) (pickL ys) ⟨(qn : Int), l, r⟩) s wx)
        case first =>
          go_region_held3 (fun w' => w'.cell? ⟨bm + 1, 0, none⟩ = some (.int .i64 (qn : Int)) ∧ w'.cell? ⟨bm + 1, 1, none⟩ = some (.slice Al l.length cl) ∧ w'.cell? ⟨bm + 1, 2, none⟩ = some (.slice Ar r.length cr) ∧ w'.cell? ⟨gz, oz + qn, none⟩ = some (.int .i64 zq))
            (first | (go_keep; done) | exact ⟨hS.cell c0, hS.cell c1, hS.cell c2, hS.cell cz⟩ | exact ⟨hD.cell c0, hD.cell c1, hD.cell c2, hD.cell cz⟩ | exact ⟨(hB.trans (Ext.alloc _ zeroCf)).cell c0, (hB.trans (Ext.alloc _ zeroCf)).cell c1, (hB.trans (Ext.alloc _ zeroCf)).cell c2, (hB.trans (Ext.alloc _ zeroCf)).cell cz⟩ | exact ⟨hB.cell c0, hB.cell c1, hB.cell c2, hB.cell cz⟩ | exact ⟨(hA.trans (Ext.alloc _ zeroCf)).cell c0, (hA.trans (Ext.alloc _ zeroCf)).cell c1, (hA.trans (Ext.alloc _ zeroCf)).cell c2, (hA.trans (Ext.alloc _ zeroCf)).cell cz⟩ | exact ⟨hA.cell c0, hA.cell c1, hA.cell c2, hA.cell cz⟩)
            (first
              | (go_at_call 10; ((with_reducible refine (r8Moved_c _ _ l ys _ hL0 hO0 HLL.out HIL.out).mono ?_)); rintro e wA ⟨uA, rfl, hoA0, hxA'⟩; have hoA : OwnInts w8.heap.size wA _ _ := ownsRow_base hoA0 (Nat.le_refl _); have hA := (Ext.drew w8).trans hxA'; have hR1 := hR0.ext hxA'; have hO1 := hO0.ext hxA')
              | (go_at_call 10; ((with_reducible refine (r8Moved_c _ _ l ys _ hLz hOz HLL.out HIL.out).mono ?_)); rintro e wA ⟨uA, rfl, hoA0, hxA'⟩; have hoA : OwnInts w8.heap.size wA _ _ := ownsRow_base hoA0 (Ext.alloc w8 zeroCf).size; have hA := ((Ext.alloc w8 zeroCf).trans (Ext.drew _)).trans hxA'; have hR1 := hRz.ext hxA'; have hO1 := hOz.ext hxA'; have bZA := (Blk.drew (Blk.new w8 w8.heap.size _ _ rfl)).ext hxA'; have hgz : w8.heap.size ≤ w8.heap.size := Nat.le_refl _)
              | (go_at_call 10; ((with_reducible refine (r8Moved_c _ _ r ys _ hR1 hO1 HRL.out HIR.out).mono ?_)); rintro e wB ⟨uB, rfl, hoB0, hxB⟩; have hoB : OwnInts w8.heap.size wB _ _ := ownsRow_base hoB0 hA.size; have hB := hA.trans hxB; have hoA2 := hoA.ext hxB; have bZB := bZA.ext hxB; obtain ⟨AA, cA, rfl, _, _⟩ := hoA2.ints.form; obtain ⟨AB, cB, rfl, _, _⟩ := hoB.ints.form; have hS := Ext.set3' hB hgz (.int .i64 zq) (.slice AA (movedL l ys).length cA) (.slice AB (movedL r ys).length cB); have vc := bZB.cell; have vf := bZB.frozen)
              | (go_at_call 10; ((with_reducible refine (r8Moved_c _ _ r ys _ hR1 hO1 HRL.out HIR.out).mono ?_)); rintro e wB ⟨uB, rfl, hoB0, hxB⟩; have hoB : OwnInts w8.heap.size wB _ _ := ownsRow_base hoB0 hA.size; have hB := hA.trans hxB; have hoA2 := hoA.ext hxB; obtain ⟨AA, cA, rfl, _, _⟩ := hoA2.ints.form; obtain ⟨AB, cB, rfl, _, _⟩ := hoB.ints.form; have hD := hB.trans (Ext.alloc wB (.cells #[.int .i64 zq, .slice AA (movedL l ys).length cA, .slice AB (movedL r ys).length cB] 29)))
              | (go_at_call 10; ((with_reducible refine (r8Moved_c _ _ r ys _ (hR1.ext (Ext.alloc _ zeroCf)) (hO1.ext (Ext.alloc _ zeroCf)) HRL.out HIR.out).mono ?_)); rintro e wB ⟨uB, rfl, hoB0, hxB⟩; have hoB : OwnInts w8.heap.size wB _ _ := ownsRow_base hoB0 (Nat.le_trans hA.size (Ext.alloc wA zeroCf).size); have hB := hA.trans ((Ext.alloc _ zeroCf).trans hxB); have hoA2 := (hoA.ext (Ext.alloc _ zeroCf)).ext hxB; have bZB := (Blk.new wA wA.heap.size _ _ rfl).ext hxB; have hgz := hA.size; obtain ⟨AA, cA, rfl, _, _⟩ := hoA2.ints.form; obtain ⟨AB, cB, rfl, _, _⟩ := hoB.ints.form; have hS := Ext.set3' hB hgz (.int .i64 zq) (.slice AA (movedL l ys).length cA) (.slice AB (movedL r ys).length cB); have vc := bZB.cell; have vf := bZB.frozen))
          all_goals
            go_wp2_with fail
            go_meet
            first
              | exact CutR.early (HZQ.out) hB hoA2 hoB bZB hgz
              | exact CutR.late (HZQ.out) hB hoA2 hoB

        case rest =>
          rename World => wS
          clear c0 c1 c2 cz hL0 hR0 hO0 hLz hRz hOz
          obtain ⟨L1, hL1⟩ : ∃ L, L = l.map (pickL ys) := ⟨_, rfl⟩
          obtain ⟨Q1, hQ1⟩ : ∃ L, L = r.map (pickL ys) := ⟨_, rfl⟩
          have hRz0 : renC (pickL zs) (pickL ys) ⟨(qn : Int), l, r⟩ = ⟨zq, L1, Q1⟩ := by simp only [renC, HZQ.out, hL1, hQ1]
          have HRZ := Lib.hid hRz0
          rw [hRz0] at hcut
          clear hRz0 hL1 hQ1
          obtain ⟨gS, lvS, rvS, rfl, bS, hxS, hgS, oS1, oS2⟩ := hcut
          simp only at bS oS1 oS2
          obtain ⟨AS, cS, rfl, _, _⟩ := oS1.ints.form
          obtain ⟨BS, dS, rfl, _, _⟩ := oS2.ints.form
          have bM9 := bM8.ext hxS
          have bC9 := bC8.ext hxS
          have bT9 := bT8.ext hxS
          have oM9 := OwnRules.ext oM8 hxS
          have oT9 := OwnRules.ext oT8 hxS
          have oL9 := oL8.ext hxS
          have oR9 := oR8.ext hxS
          have oZ9 := oZ8.ext hxS
          have oY9 := oY8.ext hxS
          have hX9 := hXw8.trans hxS
          clear bM8 bC8 bT8 oM8 oT8 oL8 oR8 oZ8 oY8 hXw8
          have m0 := bM9.cell 0
          have m1 := bM9.cell 1
          have m2 := bM9.cell 2
          have c0 := bC9.cell 0
          have c1 := bC9.cell 1
          have c2 := bC9.cell 2
          simp only [List.getElem?_toArray, List.getElem?_cons_zero, List.getElem?_cons_succ] at m0 m1 m2 c0 c1 c2
          have HCG := Lib.hid (two_conf HOK.out HCS.out HCY.out HY0.out HCF.out)
          go_wp2_with fail
          refine (RunMachine_c _ ⟨sy, (n : Int), rules⟩ ⟨(qn : Int), l, r⟩ _ _ 40 wS oM9.rules oL9.ints oR9.ints oL9.flat oR9.flat).mono ?_
          intro e w9 hrun
          obtain ⟨hx9, hrun⟩ := run_ok hrun HOK.out HCF.out
          rcases hrun with ⟨i, hF, lv9, rv9, rfl, oxl, oxr, _⟩ | ⟨i, hE, lv9, rv9, rfl, oxl, oxr, _⟩
          · have HF := Lib.hid (two_full HOK.out HCS.out HCY.out HY0.out HCF.out hF)
            clear hF m0 m1 m2 c0 c1 c2
            obtain ⟨Bl, dl, rfl, _, _⟩ := oxl.ints.form
            obtain ⟨Br, dr, rfl, _, _⟩ := oxr.ints.form
            simp only [blankC, List.length_nil]
            have hF2 : FullAt ⟨sy, (n : Int), R2⟩ ⟨zq, L1, Q1⟩ 40 i := by
              have := HF.out
              rwa [← HR2.out, HRZ.out] at this
            have HF2 := Lib.hid hF2
            clear HF hF2
            have hX99 := hX9.trans hx9
            obtain ⟨V9, hV9⟩ : ∃ V, V = w9.alloc (.cells #[.int .i64 0, .slice Bl 0 dl, .slice Br 0 dr] 29) := ⟨_, rfl⟩
            obtain ⟨bx, hbx⟩ : ∃ b, b = w9.heap.size := ⟨_, rfl⟩
            have hxV9 : Ext w9 V9 := by rw [hV9]; exact Ext.alloc _ _
            have bXV : Blk V9 bx 29 #[.int .i64 0, .slice Bl 0 dl, .slice Br 0 dr] := by rw [hV9, hbx]; exact Blk.new _ _ _ _ rfl
            have hxS9 := hx9.trans hxV9
            have hXV9 := hX9.trans hxS9
            have bTV := bT9.ext hxS9
            have bSV := bS.ext hxS9
            have m0 := bTV.cell 0
            have m1 := bTV.cell 1
            have m2 := bTV.cell 2
            have c0 := bSV.cell 0
            have c1 := bSV.cell 1
            have c2 := bSV.cell 2
            simp only [List.getElem?_toArray, List.getElem?_cons_zero, List.getElem?_cons_succ] at m0 m1 m2 c0 c1 c2
            rw [hV9] at m0 m1 m2 c0 c1 c2
            go_wp2_with fail
            rw [← hV9]
            rw [← hV9] at m0 m1 m2 c0 c1 c2
            rw [← hbx]
            clear hV9 hbx
            refine (RunMachine_c _ ⟨sy, (n : Int), R2⟩ ⟨zq, L1, Q1⟩ _ _ 40 V9 (oT9.rules.ext hxS9) (oS1.ext hxS9).ints (oS2.ext hxS9).ints (oS1.ext hxS9).flat (oS2.ext hxS9).flat).mono ?_
            intro e wA hrun
            have hcg : confB ⟨sy, (n : Int), R2⟩ ⟨zq, L1, Q1⟩ = true := by
              have := HCG.out
              rwa [← HR2.out, HRZ.out] at this
            obtain ⟨hxA, hrun⟩ := run_ok hrun hok2.out hcg
            clear hcg
            rcases hrun with ⟨j2, hG, lvA, rvA, rfl, oya, oyb, _⟩ | ⟨j2, hG, _⟩
            · clear hG m0 m1 m2 c0 c1 c2
              obtain ⟨Cl, el, rfl, _, _⟩ := oya.ints.form
              obtain ⟨Cr, er, rfl, _, _⟩ := oyb.ints.form
              simp only [blankC, List.length_nil]
              go_wp2
              go_ret
              exact ⟨rfl, (hXV9.trans hxA).trans (Ext.alloc _ _)⟩
            · exact absurd HF2.out (fun h => hG.notFull h)
          · have HE2 := Lib.hid (two_end HOK.out HCS.out HCY.out HY0.out HCF.out hE)
            have HC2 := Lib.hid (two_cfg HOK.out HCS.out HCY.out HY0.out HCF.out hE)
            have HS2 := Lib.hid (two_stop HOK.out HCS.out HCY.out HY0.out HCF.out hE)
            have HG := Lib.hid (cfg_good HOK.out (conf_run HCF.out).1 i hE.runs.no)
            have HFI := Lib.hid (hE.runs.fit i (Nat.le_refl _))
            obtain ⟨⟨xq, xl, xr⟩, hcx⟩ : ∃ C, cfgI ⟨sy, (n : Int), rules⟩ ⟨(qn : Int), l, r⟩ i = C := ⟨_, rfl⟩
            rw [hcx] at oxl oxr HC2 HS2 HG HFI
            rw [hcx]
            clear hE hcx
            clear m0 m1 m2 c0 c1 c2
            simp only at oxl oxr
            have hE2 : EndAt ⟨sy, (n : Int), R2⟩ ⟨zq, L1, Q1⟩ 40 i := by
              have := HE2.out
              rwa [← HR2.out, HRZ.out] at this
            have hC2 : cfgI ⟨sy, (n : Int), R2⟩ ⟨zq, L1, Q1⟩ i = renC (pickL zs) (pickL ys) ⟨xq, xl, xr⟩ := by
              have := HC2.out
              rwa [← HR2.out, HRZ.out] at this
            have hS2 : lookI ⟨sy, (n : Int), R2⟩ (cfgI ⟨sy, (n : Int), R2⟩ ⟨zq, L1, Q1⟩ i) = noR ↔ lookI ⟨sy, (n : Int), rules⟩ ⟨xq, xl, xr⟩ = noR := by
              have := HS2.out
              rwa [← HR2.out, HRZ.out] at this
            obtain ⟨zx, hzx⟩ : ∃ z, pickL zs xq = z := ⟨_, rfl⟩
            obtain ⟨X1, hX1⟩ : ∃ L, L = xl.map (pickL ys) := ⟨_, rfl⟩
            obtain ⟨X2, hX2⟩ : ∃ L, L = xr.map (pickL ys) := ⟨_, rfl⟩
            have hRx : renC (pickL zs) (pickL ys) ⟨xq, xl, xr⟩ = ⟨zx, X1, X2⟩ := by simp only [renC, hzx, hX1, hX2]
            rw [hRx] at hC2
            have HRX := Lib.hid hRx
            have HZX := Lib.hid hzx
            clear hRx hzx hX1 hX2
            have HEE := Lib.hid hE2
            have HCC := Lib.hid hC2
            have HSS := Lib.hid hS2
            clear hE2 hC2 hS2 HE2 HC2 HS2
            obtain ⟨Bl, dl, rfl, _, _⟩ := oxl.ints.form
            obtain ⟨Br, dr, rfl, _, _⟩ := oxr.ints.form
            obtain ⟨hb, hhb⟩ : ∃ x, x = decide (lookI ⟨sy, (n : Int), rules⟩ ⟨xq, xl, xr⟩ = noR) := ⟨_, rfl⟩
            rw [← hhb]
            have HB := Lib.hid hhb
            clear hhb
            have hX99 := hX9.trans hx9
            obtain ⟨V9, hV9⟩ : ∃ V, V = w9.alloc (.cells #[.int .i64 xq, .slice Bl xl.length dl, .slice Br xr.length dr] 29) := ⟨_, rfl⟩
            obtain ⟨bx, hbx⟩ : ∃ b, b = w9.heap.size := ⟨_, rfl⟩
            have hxV9 : Ext w9 V9 := by rw [hV9]; exact Ext.alloc _ _
            have bXV : Blk V9 bx 29 #[.int .i64 xq, .slice Bl xl.length dl, .slice Br xr.length dr] := by rw [hV9, hbx]; exact Blk.new _ _ _ _ rfl
            have hxS9 := hx9.trans hxV9
            have hXV9 := hX9.trans hxS9
            have bTV := bT9.ext hxS9
            have bSV := bS.ext hxS9
            have m0 := bTV.cell 0
            have m1 := bTV.cell 1
            have m2 := bTV.cell 2
            have c0 := bSV.cell 0
            have c1 := bSV.cell 1
            have c2 := bSV.cell 2
            simp only [List.getElem?_toArray, List.getElem?_cons_zero, List.getElem?_cons_succ] at m0 m1 m2 c0 c1 c2
            rw [hV9] at m0 m1 m2 c0 c1 c2
            go_wp2_with fail
            rw [← hV9]
            rw [← hV9] at m0 m1 m2 c0 c1 c2
            rw [← hbx]
            clear hV9 hbx
            refine (RunMachine_c _ ⟨sy, (n : Int), R2⟩ ⟨zq, L1, Q1⟩ _ _ 40 V9 (oT9.rules.ext hxS9) (oS1.ext hxS9).ints (oS2.ext hxS9).ints (oS1.ext hxS9).flat (oS2.ext hxS9).flat).mono ?_
            intro e wA hrun
            have hcg : confB ⟨sy, (n : Int), R2⟩ ⟨zq, L1, Q1⟩ = true := by
              have := HCG.out
              rwa [← HR2.out, HRZ.out] at this
            obtain ⟨hxA, hrun⟩ := run_ok hrun hok2.out hcg
            clear hcg
            rcases hrun with ⟨j2, hG, _⟩ | ⟨j2, hG, lvA, rvA, rfl, oya, oyb, _⟩
            · exact absurd hG (fun h => HEE.out.notFull h)
            · obtain rfl : i = j2 := HEE.out.uniq hG
              have hbb : decide (lookI ⟨sy, (n : Int), R2⟩ (cfgI ⟨sy, (n : Int), R2⟩ ⟨zq, L1, Q1⟩ i) = noR) = hb := by
                rw [HB.out]
                exact decide_eq_decide.2 HSS.out
              rw [hbb]
              rw [HCC.out] at oya oyb
              rw [HCC.out]
              simp only at oya oyb
              try simp only
              clear hbb hG m0 m1 m2 c0 c1 c2
              obtain ⟨Cl, el, rfl, _, _⟩ := oya.ints.form
              obtain ⟨Cr, er, rfl, _, _⟩ := oyb.ints.form
              obtain ⟨VA, hVA⟩ : ∃ V, V = wA.alloc (.cells #[.int .i64 zx, .slice Cl X1.length el, .slice Cr X2.length er] 29) := ⟨_, rfl⟩
              obtain ⟨by_, hby⟩ : ∃ b, b = wA.heap.size := ⟨_, rfl⟩
              have hxVA : Ext wA VA := by rw [hVA]; exact Ext.alloc _ _
              have bYA : Blk VA by_ 29 #[.int .i64 zx, .slice Cl X1.length el, .slice Cr X2.length er] := by rw [hVA, hby]; exact Blk.new _ _ _ _ rfl
              have hxQ := hxA.trans hxVA
              have bMA := bM9.ext (hxS9.trans hxQ)
              have bXA := bXV.ext hxQ
              have m0 := bMA.cell 0
              have m1 := bMA.cell 1
              have m2 := bMA.cell 2
              have c0 := bXA.cell 0
              have c1 := bXA.cell 1
              have c2 := bXA.cell 2
              simp only [List.getElem?_toArray, List.getElem?_cons_zero, List.getElem?_cons_succ] at m0 m1 m2 c0 c1 c2
              rw [hVA] at m0 m1 m2 c0 c1 c2
              have oxl2 := oxl.ext (hxV9.trans hxQ)
              have oxr2 := oxr.ext (hxV9.trans hxQ)
              go_wp2_with fail
              rw [← hVA]
              have hG1 := HG.out
              obtain ⟨xn, hxn⟩ := Int.eq_ofNat_of_zero_le hG1.q0
              simp only at hxn
              subst hxn
              refine (r8Good_c VA sy (n : Int) (xn : Int) _ _ _ xl xr oxl2.ints oxr2.ints hG1.l hG1.r (by omega) hG1.q1).mono ?_
              rintro e wC ⟨rfl, hxC⟩
              rw [← hby]
              clear hVA hby m0 m1 m2 c0 c1 c2
              have hE1 := hxQ.trans hxC
              have hE9 := hxV9.trans hE1
              have hES := hxS9.trans hE1
              have bXC := bXA.ext hxC
              have bYC := bYA.ext hxC
              have oXL := oxl2.ext hxC
              have oXR := oxr2.ext hxC
              have oZC := oZ9.ext hES
              have oYC := oY9.ext hES
              have oya2 := oya.ext (hxVA.trans hxC)
              have oyb2 := oyb.ext (hxVA.trans hxC)
              have hXC := hX9.trans hES
              have hxlt : xn < n := by have := hG1.q1; simp only at this; omega
              have hxz : xn < zs.length := by rw [HLZ.out]; exact hxlt
              have hFI := HFI.out
              simp only [fitI, Bool.and_eq_true, decide_eq_true_eq] at hFI
              obtain ⟨gz', oz', hgz', hcz⟩ := (oZC.ints).at hxz
              injection hgz' with hgz'
              injection hgz' with e1 e2
              subst e1 e2
              have cz := hcz xn hxz
              have hzq2 : zs[xn] = zx := by
                rw [← HZX.out]
                simp only [pickL, Int.toNat_natCast, List.getD_eq_getElem?_getD, List.getElem?_eq_getElem hxz, Option.getD_some]
              rw [hzq2] at cz
              have HLX : Hid (xl.length ≤ 100000) := Lib.hid (by omega)
              have HRX2 : Hid (xr.length ≤ 100000) := Lib.hid (by omega)
              have HJL : Hid (∀ x ∈ xl, 0 ≤ x ∧ x < (ys.length : Int)) := Lib.hid (by rw [HYL.out, ← HT.out]; exact hG1.l)
              have HJR : Hid (∀ x ∈ xr, 0 ≤ x ∧ x < (ys.length : Int)) := Lib.hid (by rw [HYL.out, ← HT.out]; exact hG1.r)
              clear hcz hzq2 hFI hG1
              have c0 := bXC.cell 0
              have c1 := bXC.cell 1
              have c2 := bXC.cell 2
              simp only [List.getElem?_toArray, List.getElem?_cons_zero, List.getElem?_cons_succ] at c0 c1 c2
              have hL0 := (oXL.ext (Ext.drew _)).ints
              have hR0 := (oXR.ext (Ext.drew _)).ints
              have hO0 := (oYC.ext (Ext.drew _)).ints
              have hLz := (oXL.ext ((Ext.alloc _ zeroCf).trans (Ext.drew _))).ints
              have hRz := (oXR.ext ((Ext.alloc _ zeroCf).trans (Ext.drew _))).ints
              have hOz := (oYC.ext ((Ext.alloc _ zeroCf).trans (Ext.drew _))).ints
              go_upto_region 21 with fail
              go_cut [23] (fun s wx => CutR wC (renC (pickL zs) (pickL ys) ⟨(xn : Int), xl, xr⟩) s wx)
              case first =>
                go_region_held3 (fun w' => w'.cell? ⟨bx, 0, none⟩ = some (.int .i64 (xn : Int)) ∧ w'.cell? ⟨bx, 1, none⟩ = some (.slice Bl xl.length dl) ∧ w'.cell? ⟨bx, 2, none⟩ = some (.slice Br xr.length dr) ∧ w'.cell? ⟨gz, oz + xn, none⟩ = some (.int .i64 zx))
                  (first | (go_keep; done) | exact ⟨hS.cell c0, hS.cell c1, hS.cell c2, hS.cell cz⟩ | exact ⟨hD.cell c0, hD.cell c1, hD.cell c2, hD.cell cz⟩ | exact ⟨(hB.trans (Ext.alloc _ zeroCf)).cell c0, (hB.trans (Ext.alloc _ zeroCf)).cell c1, (hB.trans (Ext.alloc _ zeroCf)).cell c2, (hB.trans (Ext.alloc _ zeroCf)).cell cz⟩ | exact ⟨hB.cell c0, hB.cell c1, hB.cell c2, hB.cell cz⟩ | exact ⟨(hA.trans (Ext.alloc _ zeroCf)).cell c0, (hA.trans (Ext.alloc _ zeroCf)).cell c1, (hA.trans (Ext.alloc _ zeroCf)).cell c2, (hA.trans (Ext.alloc _ zeroCf)).cell cz⟩ | exact ⟨hA.cell c0, hA.cell c1, hA.cell c2, hA.cell cz⟩)
                  (first
                    | (go_at_call 10; ((with_reducible refine (r8Moved_c _ _ xl ys _ hL0 hO0 HLX.out HJL.out).mono ?_)); rintro e wA ⟨uA, rfl, hoA0, hxA'⟩; have hoA : OwnInts wC.heap.size wA _ _ := ownsRow_base hoA0 (Nat.le_refl _); have hA := (Ext.drew wC).trans hxA'; have hR1 := hR0.ext hxA'; have hO1 := hO0.ext hxA')
                    | (go_at_call 10; ((with_reducible refine (r8Moved_c _ _ xl ys _ hLz hOz HLX.out HJL.out).mono ?_)); rintro e wA ⟨uA, rfl, hoA0, hxA'⟩; have hoA : OwnInts wC.heap.size wA _ _ := ownsRow_base hoA0 (Ext.alloc wC zeroCf).size; have hA := ((Ext.alloc wC zeroCf).trans (Ext.drew _)).trans hxA'; have hR1 := hRz.ext hxA'; have hO1 := hOz.ext hxA'; have bZA := (Blk.drew (Blk.new wC wC.heap.size _ _ rfl)).ext hxA'; have hgz : wC.heap.size ≤ wC.heap.size := Nat.le_refl _)
                    | (go_at_call 10; ((with_reducible refine (r8Moved_c _ _ xr ys _ hR1 hO1 HRX2.out HJR.out).mono ?_)); rintro e wB ⟨uB, rfl, hoB0, hxB⟩; have hoB : OwnInts wC.heap.size wB _ _ := ownsRow_base hoB0 hA.size; have hB := hA.trans hxB; have hoA2 := hoA.ext hxB; have bZB := bZA.ext hxB; obtain ⟨AA, cA, rfl, _, _⟩ := hoA2.ints.form; obtain ⟨AB, cB, rfl, _, _⟩ := hoB.ints.form; have hS := Ext.set3' hB hgz (.int .i64 zx) (.slice AA (movedL xl ys).length cA) (.slice AB (movedL xr ys).length cB); have vc := bZB.cell; have vf := bZB.frozen)
                    | (go_at_call 10; ((with_reducible refine (r8Moved_c _ _ xr ys _ hR1 hO1 HRX2.out HJR.out).mono ?_)); rintro e wB ⟨uB, rfl, hoB0, hxB⟩; have hoB : OwnInts wC.heap.size wB _ _ := ownsRow_base hoB0 hA.size; have hB := hA.trans hxB; have hoA2 := hoA.ext hxB; obtain ⟨AA, cA, rfl, _, _⟩ := hoA2.ints.form; obtain ⟨AB, cB, rfl, _, _⟩ := hoB.ints.form; have hD := hB.trans (Ext.alloc wB (.cells #[.int .i64 zx, .slice AA (movedL xl ys).length cA, .slice AB (movedL xr ys).length cB] 29)))
                    | (go_at_call 10; ((with_reducible refine (r8Moved_c _ _ xr ys _ (hR1.ext (Ext.alloc _ zeroCf)) (hO1.ext (Ext.alloc _ zeroCf)) HRX2.out HJR.out).mono ?_)); rintro e wB ⟨uB, rfl, hoB0, hxB⟩; have hoB : OwnInts wC.heap.size wB _ _ := ownsRow_base hoB0 (Nat.le_trans hA.size (Ext.alloc wA zeroCf).size); have hB := hA.trans ((Ext.alloc _ zeroCf).trans hxB); have hoA2 := (hoA.ext (Ext.alloc _ zeroCf)).ext hxB; have bZB := (Blk.new wA wA.heap.size _ _ rfl).ext hxB; have hgz := hA.size; obtain ⟨AA, cA, rfl, _, _⟩ := hoA2.ints.form; obtain ⟨AB, cB, rfl, _, _⟩ := hoB.ints.form; have hS := Ext.set3' hB hgz (.int .i64 zx) (.slice AA (movedL xl ys).length cA) (.slice AB (movedL xr ys).length cB); have vc := bZB.cell; have vf := bZB.frozen))
                all_goals
                  go_wp2_with fail
                  go_meet
                  first
                    | exact CutR.early (HZX.out) hB hoA2 hoB bZB hgz
                    | exact CutR.late (HZX.out) hB hoA2 hoB

              case rest =>
                rename World => wD
                clear c0 c1 c2 cz hL0 hR0 hO0 hLz hRz hOz
                rw [HRX.out] at hcut
                obtain ⟨gD, lvD, rvD, rfl, bD, hxD, hgD, oD1, oD2⟩ := hcut
                simp only at bD oD1 oD2
                obtain ⟨AD, cD, rfl, _, _⟩ := oD1.ints.form
                obtain ⟨BD, dD, rfl, _, _⟩ := oD2.ints.form
                have bYD := bYC.ext hxD
                have d0 := bD.cell 0
                have d1 := bD.cell 1
                have d2 := bD.cell 2
                have y0 := bYD.cell 0
                have y1 := bYD.cell 1
                have y2 := bYD.cell 2
                simp only [List.getElem?_toArray, List.getElem?_cons_zero, List.getElem?_cons_succ] at d0 d1 d2 y0 y1 y2
                go_wp2_with fail
                refine (r8Config_c wD zx _ _ _ _ X1 X2 oD1.ints oD2.ints (oya2.ext hxD).ints (oyb2.ext hxD).ints).mono ?_
                rintro e wE ⟨rfl, hxE⟩
                go_wp2
                go_ret
                exact ⟨rfl, (hXC.trans hxD).trans hxE⟩
end Go.Proofs.Ytheokhgppmmjlaa
