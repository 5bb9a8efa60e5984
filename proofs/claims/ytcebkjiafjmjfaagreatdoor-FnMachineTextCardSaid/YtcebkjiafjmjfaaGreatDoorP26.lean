/- Contract: a configuration is read back from its text. The machine is valid and the configuration is one of its; the library's table is as its text lays it, and its length of searches is some number.
Contracts: the cells of a configuration; two equal machines are the same. The machine is valid and the configuration is one of its. -/
import Derived.Test.YtcebkjiafjmjfaaGreatDoorP25
import Derived.Test.YtcebkjiafjmjfaaGreatDoorP24
import Derived.Test.YtcebkjiafjmjfaaGreatDoorP15
import Derived.Test.YtcebkjiafjmjfaaGreatDoorP13
import Derived.Test.YtcebkjiafjmjfaaGreatDoorP09
import Derived.Test.YtcebkjiafjmjfaaGreatDoorP21
section
set_option linter.unusedSimpArgs false
set_option linter.unusedVariables false
namespace Go.Proofs.YtcebkjiafjmjfaaGreatDoor
open Go Go.RowKit Go.Proofs
set_option maxHeartbeats 400000
theorem CutC_c (c : UInt8) (p r : List UInt8) (h : c ∉ p) (w : World) (hM : MaxL w) (hs : (p ++ c :: r).length < 4294967281) :
    Calls Tryz.prog 26 #[.string (bsS (p ++ c :: r)), .string ⟨#[c]⟩] w fun e w' => e = .returned (.tuple #[.string (bsS p), .string (bsS r), .bool true]) ∧ Ext w w' := by
  obtain ⟨n, hn⟩ := hM
  have := Tryz.strings_Cut (bsS (p ++ c :: r)) ⟨#[c]⟩ n w (by rw [bs_size]; exact hs) hn
  rw [show Lib.cut (bsS (p ++ c :: r)).data.toList (⟨#[c]⟩ : ByteArray).data.toList = (p, r, true) from cut_one r h] at this
  refine this.mono ?_
  rintro e w' ⟨rfl, k, rfl⟩
  exact ⟨rfl, ⟨rfl, rfl, rfl, Nat.le_refl _, fun _ _ => rfl⟩⟩
def RcRes (c : ConfD) (w : World) (e : Ending) (w' : World) : Prop :=
  ∃ lv rv, e = .returned (.tuple #[.agg #[.int .i64 c.q, lv, rv], .bool true]) ∧ OwnInts w.heap.size w' lv c.l ∧ OwnInts w.heap.size w' rv c.r ∧ Ext w w'
set_option maxRecDepth 20000 in
set_option maxHeartbeats 4000000 in
theorem ReadConfig_c (v : Value) (m : MachD) (c : ConfD) (w : World) (hM : Mach w v m) (hm : machOk m = true) (hc : confB m c = true) (hT : Tab w) (hML : MaxL w) :
    Calls Tryz.prog 8 #[v, .string (bsS (confT c))] w (RcRes c w) := by
  obtain ⟨rv, rfl, hr⟩ := hM
  obtain ⟨Ar, cr, rfl, _, _⟩ := hr.form
  obtain ⟨⟨q0, q9⟩, ⟨l1, l2⟩, ⟨r1, r2⟩⟩ := conf_digs hm hc
  obtain ⟨W, hW⟩ : ∃ W, (w.alloc (.cells #[.int .i64 m.sy, .int .i64 m.st, .slice Ar m.rules.length cr] 26)).alloc (.cells #[.int .i64 0, .slice none 0 0, .slice none 0 0] 29) = W := ⟨_, rfl⟩
  have hX : Ext w W := by rw [← hW]; exact (Ext.alloc _ _).trans (Ext.alloc _ _)
  have bM : Blk W w.heap.size 26 #[.int .i64 m.sy, .int .i64 m.st, .slice Ar m.rules.length cr] := by rw [← hW]; exact (Blk.new _ _ _ _ rfl).alloc _
  have bR : Blk W (w.heap.size + 1) 29 #[.int .i64 0, .slice none 0 0, .slice none 0 0] := by rw [← hW]; exact Blk.new _ _ _ _ (by simp)
  have lq : (Lib.itoa c.q).length ≤ 18 := itoa_len q0 (by omega)
  have ll : (digB c.l.reverse).length ≤ 200 := by simp [digB]; omega
  have lr : (digB c.r).length ≤ 200 := by simp [digB]; omega
  have hc1 : Calls Tryz.prog 26 #[.string (bsS (confT c)), .string ⟨#[40]⟩] W fun e w' => e = .returned (.tuple #[.string (bsS (digB c.l.reverse)), .string (bsS (Lib.itoa c.q ++ 41 :: digB c.r)), .bool true]) ∧ Ext W w' :=
    CutC_c 40 _ _ (fun h => absurd (digB_dig (fun z hz => l2 z (List.mem_reverse.1 hz)) _ h) (by decide)) W (hML.ext hX) (by simp only [List.length_append, List.length_cons]; omega)
  have hc2 : ∀ X, MaxL X → Calls Tryz.prog 26 #[.string (bsS (Lib.itoa c.q ++ 41 :: digB c.r)), .string ⟨#[41]⟩] X fun e w' => e = .returned (.tuple #[.string (itoaS c.q), .string (bsS (digB c.r)), .bool true]) ∧ Ext X w' := fun X hX =>
    CutC_c 41 _ _ (fun h => absurd (itoa_dig q0 _ h) (by decide)) X hX (by simp only [List.length_append, List.length_cons]; omega)
  have hd1 := fun X => readDigits_c c.l.reverse X (fun z hz => l2 z (List.mem_reverse.1 hz)) (by simp; omega)
  have hd2 := fun X => readDigits_c c.r X r2 (by omega)
  have hdq := fun X h => ReadDecimal_c c.q X q0 (by omega) h
  generalize bsS (Lib.itoa c.q ++ 41 :: digB c.r) = s1 at *
  generalize bsS (digB c.l.reverse) = sL at *
  generalize bsS (digB c.r) = sR at *
  go_enter Tryz.func8, Tryz.ntmps8
  go_wp2_with fail
  go_at_call 26
  refine hc1.mono ?_
  rintro e w1 ⟨rfl, hx1⟩
  have hX1 := hX.trans hx1
  clear hc1
  go_wp2_with fail
  go_at_call 26
  refine (hc2 w1 (hML.ext hX1)).mono ?_
  rintro e w2 ⟨rfl, hx2⟩
  have hX2 := hX1.trans hx2
  clear hc2
  go_wp2_with fail
  refine (hd1 w2).mono ?_
  rintro e w3 ⟨lu, rfl, hol, hx3⟩
  have hX3 := hX2.trans hx3
  obtain ⟨Al, cl, rfl, _, _⟩ := hol.ints.form
  rw [List.length_reverse] at *
  clear hd1
  go_wp2_with fail
  refine (hd2 w3).mono ?_
  rintro e w4 ⟨ru, rfl, hor, hx4⟩
  have hX4 := hX3.trans hx4
  obtain ⟨Aq, cq, rfl, _, _⟩ := hor.ints.form
  clear hd2
  go_wp2_with fail
  refine (hdq w4 (hT.ext hX4)).mono ?_
  rintro e w5 ⟨rfl, hx5⟩
  have hX5 := hX4.trans hx5
  have hol5 := OwnInts.ext hol (hx4.trans hx5)
  have hor5 := OwnInts.ext hor hx5
  clear hdq
  go_wp2_with fail
  refine (reversed_c _ c.l.reverse w5 (by simpa using hol5.ints) (by simpa using hol5.flat) (by simp; omega)).mono ?_
  rintro e w6 ⟨lv, rfl, ho6, hx6⟩
  rw [List.reverse_reverse] at ho6
  obtain ⟨A6, c6, rfl, _, _⟩ := ho6.ints.form
  have hX6 := hX5.trans hx6
  have hor6 := OwnInts.ext hor5 hx6
  obtain ⟨V, hV⟩ : ∃ V, w6.alloc (.cells #[.int .i64 c.q, .slice A6 c.l.length c6, .slice Aq c.r.length cq] 29) = V := ⟨_, rfl⟩
  have hXV : Ext w6 V := by rw [← hV]; exact Ext.alloc _ _
  have bC : Blk V w6.heap.size 29 #[.int .i64 c.q, .slice A6 c.l.length c6, .slice Aq c.r.length cq] := by rw [← hV]; exact Blk.new _ _ _ _ rfl
  have hXV' := hX6.trans hXV
  have bMV := bM.ext (((((hx1.trans hx2).trans hx3).trans hx4).trans hx5).trans (hx6.trans hXV))
  have bRV := bR.ext (((((hx1.trans hx2).trans hx3).trans hx4).trans hx5).trans (hx6.trans hXV))
  have a0 := bMV.cell 0
  have a1 := bMV.cell 1
  have a2 := bMV.cell 2
  have b0 := bC.cell 0
  have b1 := bC.cell 1
  have b2 := bC.cell 2
  simp only [List.getElem?_toArray, List.getElem?_cons_zero, List.getElem?_cons_succ] at a0 a1 a2 b0 b1 b2
  have hct := ConfigText_c _ _ _ m c V ⟨_, rfl, hr.ext hXV'⟩ ((OwnInts.ext ho6 hXV).ints) ((OwnInts.ext hor6 hXV).ints) hm hc (OwnInts.ext ho6 hXV).flat (hT.ext hXV')
  rw [← hV] at a0 a1 a2 b0 b1 b2
  have HV := Lib.hid hV
  clear hV
  go_wp2_with fail
  rw [HV.out]
  refine hct.mono ?_
  rintro e V2 ⟨rfl, hx7⟩
  have hX7 := hXV'.trans hx7
  have bC2 := bC.ext hx7
  have bR2 := bRV.ext hx7
  clear a0 a1 a2 b0 b1 b2 hct
  have b0 := bC2.cell 0
  have b1 := bC2.cell 1
  have b2 := bC2.cell 2
  have r0 := bR2.cell 0
  have r1 := bR2.cell 1
  have r2 := bR2.cell 2
  have fr := bR2.frozen
  have d := (((bR2.set_ 0 (.int .i64 c.q)).set_ 1 (.slice A6 c.l.length c6)).set_ 2 (.slice Aq c.r.length cq)).cell
  simp only [List.getElem?_toArray, List.getElem?_cons_zero, List.getElem?_cons_succ] at b0 b1 b2 r0 r1 r2
  have hg : w.heap.size ≤ w.heap.size + 1 := by omega
  have HXF := Lib.hid (((hX7.setCell (p := ⟨w.heap.size + 1, 0, none⟩) hg (.int .i64 c.q)).setCell (p := ⟨w.heap.size + 1, 1, none⟩) hg (.slice A6 c.l.length c6)).setCell (p := ⟨w.heap.size + 1, 2, none⟩) hg (.slice Aq c.r.length cq))
  have ho7 := OwnInts.ext (OwnInts.ext ho6 hXV) hx7
  have hor7 := OwnInts.ext (OwnInts.ext hor6 hXV) hx7
  have hf1 := own_far_blk ho7 bR2 (by decide)
  have hf2 := own_far_blk hor7 bR2 (by decide)
  have HO1 := Lib.hid (ownsRow_far (ownsRow_far (ownsRow_far ho7 hf1 (.int .i64 c.q) (p := ⟨w.heap.size + 1, 0, none⟩)) hf1 (.slice A6 c.l.length c6) (p := ⟨w.heap.size + 1, 1, none⟩)) hf1 (.slice Aq c.r.length cq) (p := ⟨w.heap.size + 1, 2, none⟩))
  have HO2 := Lib.hid (ownsRow_far (ownsRow_far (ownsRow_far hor7 hf2 (.int .i64 c.q) (p := ⟨w.heap.size + 1, 0, none⟩)) hf2 (.slice A6 c.l.length c6) (p := ⟨w.heap.size + 1, 1, none⟩)) hf2 (.slice Aq c.r.length cq) (p := ⟨w.heap.size + 1, 2, none⟩))
  have hle1 : w.heap.size ≤ w5.heap.size := hX5.size
  have hle2 : w.heap.size ≤ w3.heap.size := hX3.size
  clear ho7 hor7 hf1 hf2 ho6 hor6 hol hor hol5 hor5
  go_wp2
  refine bodyPost_ret (v := .tuple #[.agg #[.int .i64 c.q, .slice A6 c.l.length c6, .slice Aq c.r.length cq], .bool true]) (by simp [results, Tryz.results8, go_sem, d]) rfl ⟨_, _, rfl, ownsRow_base HO1.out hle1, ownsRow_base HO2.out hle2, HXF.out⟩
end Go.Proofs.YtcebkjiafjmjfaaGreatDoor
end
section
set_option linter.unusedSimpArgs false
set_option linter.unusedVariables false
namespace Go.Proofs.YtcebkjiafjmjfaaGreatDoor
open Go Go.RowKit Go.Proofs
set_option maxHeartbeats 400000
theorem sizeI_c (A : Option Addr) (n c : Nat) (w : World) : Calls Tryz.prog 34 #[.slice A n c] w fun e w' => e = .returned (.int .i64 n) ∧ w = w' := by
  go_enter Tryz.func34, Tryz.ntmps34
  go_wp2
  go_ret
  exact ⟨rfl, rfl⟩
theorem blkRowK {w : World} {g : Nat} {t : TypeId} {vs : List Value} (h : Blk w g t vs.toArray) (hl : vs.length ≤ 1000) : Row w 1 (.slice (some ⟨g, 0, none⟩) vs.length vs.length) vs.length vs := by
  refine ⟨_, vs.length, rfl, Nat.le_refl _, by omega, by simp, fun _ => ⟨g, 0, rfl, fun j hj => ?_⟩⟩
  rw [Nat.zero_add, h.cell j]
  simp
/-- The cells from the left to the right. -/
def cellsD (c : ConfD) : List Int := (c.l.reverse ++ c.r) ++ (if c.r.length = 0 then [0] else [])
def CoRes (c : ConfD) (w : World) (e : Ending) (w' : World) : Prop :=
  ∃ u, e = .returned (.tuple #[u, .int .i64 (c.l.length : Int), .int .i64 0]) ∧ OwnInts w.heap.size w' u (cellsD c) ∧ Ext w w'
set_option maxRecDepth 20000 in
set_option maxHeartbeats 4000000 in
theorem CellsOf_c (v lv qv : Value) (m : MachD) (c : ConfD) (w : World) (hM : Mach w v m) (hl : Ints w lv c.l) (hq : Ints w qv c.r) (hfl : Flat lv) (hfr : Flat qv) (hm : machOk m = true) (hc : confB m c = true) (h1 : c.l.length ≤ 200) (h2 : c.r.length ≤ 200) :
    Calls Tryz.prog 10 #[v, .agg #[.int .i64 c.q, lv, qv]] w (CoRes c w) := by
  obtain ⟨rv, rfl, hr⟩ := hM
  obtain ⟨i0, hi, hz0, hz1, hz2⟩ := info_parts intInfo
  obtain ⟨Ar, cr, rfl, _, _⟩ := hr.form
  obtain ⟨Al, cl, rfl, _, _⟩ := hl.form
  obtain ⟨Aq, cq, rfl, _, _⟩ := hq.form
  obtain ⟨W, hW⟩ : ∃ W, (w.alloc (.cells #[.int .i64 m.sy, .int .i64 m.st, .slice Ar m.rules.length cr] 26)).alloc (.cells #[.int .i64 c.q, .slice Al c.l.length cl, .slice Aq c.r.length cq] 29) = W := ⟨_, rfl⟩
  have hX : Ext w W := by rw [← hW]; exact (Ext.alloc _ _).trans (Ext.alloc _ _)
  have bM : Blk W w.heap.size 26 #[.int .i64 m.sy, .int .i64 m.st, .slice Ar m.rules.length cr] := by rw [← hW]; exact (Blk.new _ _ _ _ rfl).alloc _
  have bC : Blk W (w.heap.size + 1) 29 #[.int .i64 c.q, .slice Al c.l.length cl, .slice Aq c.r.length cq] := by rw [← hW]; exact Blk.new _ _ _ _ (by simp)
  have hV := ValidConfig_c _ _ m c W ⟨_, rfl, hr.ext hX⟩ ⟨_, _, rfl, hl.ext hX, hq.ext hX⟩
  rw [hm, hc] at hV
  have a0 := bM.cell 0
  have a1 := bM.cell 1
  have a2 := bM.cell 2
  have b0 := bC.cell 0
  have b1 := bC.cell 1
  have b2 := bC.cell 2
  simp only [List.getElem?_toArray, List.getElem?_cons_zero, List.getElem?_cons_succ] at a0 a1 a2 b0 b1 b2
  go_enter Tryz.func10, Tryz.ntmps10
  go_wp2_with fail
  refine hV.mono ?_
  rintro e w1 ⟨rfl, hx1⟩
  have hX1 := hX.trans hx1
  have bC1 := bC.ext hx1
  clear a0 a1 a2 b0 b1 b2 hV
  have b1 := bC1.cell 1
  have b2 := bC1.cell 2
  simp only [List.getElem?_toArray, List.getElem?_cons_zero, List.getElem?_cons_succ] at b1 b2
  have hXd := hX1.trans (Ext.drew w1)
  have b1 := (Ext.drew w1).cell b1
  have b2 := (Ext.drew w1).cell b2
  have hrv := reversed_c _ c.l w1.drew (hl.ext hXd) hfl (by omega)
  go_wp2_with fail
  refine wp_region_ordT 6 (readsT [0, 1, 3, 4] (.stir 2 (.stir 5 .done))) (by kernel_rfl) (by kernel_rfl) (fun _ _ _ _ _ h => h) ?_
  simp only [readsT]
  iterate 4 (refine wpOrdT_read (v := ?_) (by rfl) (Or.inl ⟨by rfl, fun x hx => ?_⟩) ?_; rotate_left; (· have a2 := hx.cell b1; have a3 := hx.cell b2; go_simp; try with_reducible rfl); try simp only [Act.put, List.setIfInBounds_toArray, List.set_cons_zero, List.set_cons_succ])
  refine wpOrdT_keep (by rfl) (fun K hK => ?_)
  go_simp
  refine hrv.mono ?_
  rintro e w2 ⟨u, rfl, ho, hx2⟩
  obtain ⟨Au, cu, rfl, _, _⟩ := ho.ints.form
  rw [List.length_reverse] at *
  refine hK _ _ hx2 ?_
  clear hK K
  refine wpOrdT_keep (by rfl) (fun K hK => ?_)
  go_simp
  refine hK _ _ (hx2.trans (Ext.alloc _ _)) ?_
  clear hK K
  refine wpOrdT_done ?_
  try simp only [List.drop_succ_cons, List.drop_zero]
  obtain ⟨V, hV⟩ : ∃ V, w2.alloc (.cells #[.slice Au c.l.length cu, .slice Aq c.r.length cq] 27) = V := ⟨_, rfl⟩
  have hXV : Ext w2 V := by rw [← hV]; exact Ext.alloc _ _
  have bJ : Blk V w2.heap.size 27 #[.slice Au c.l.length cu, .slice Aq c.r.length cq] := by rw [← hV]; exact Blk.new _ _ _ _ rfl
  have hX2 := hXd.trans (hx2.trans hXV)
  have hj := joined_c (.slice (some ⟨w2.heap.size, 0, none⟩) 2 2) [c.l.reverse, c.r] [.slice Au c.l.length cu, .slice Aq c.r.length cq] V (blkRowK (vs := [.slice Au c.l.length cu, .slice Aq c.r.length cq]) bJ (by simp)) (fun i hi => by
    match i, hi with
    | 0, _ => exact ⟨_, rfl, by simpa using (OwnInts.ext ho hXV).ints, by simpa using (OwnInts.ext ho hXV).flat⟩
    | 1, _ => exact ⟨_, rfl, hq.ext hX2, hfr⟩) (by simp) (by simp [tot]; omega)
  rw [show [c.l.reverse, c.r].flatten = c.l.reverse ++ c.r by simp] at hj
  clear b1 b2 hrv
  go_wp2_with fail
  refine hj.mono ?_
  rintro e w3 ⟨u, rfl, ho3, hx3⟩
  have hX3 := hX2.trans hx3
  obtain ⟨A3, c3, rfl, h3, h3'⟩ := ho3.ints.form
  have bC3 := bC1.ext ((Ext.drew w1).trans (hx2.trans (hXV.trans hx3)))
  have b1 := bC3.cell 1
  have b2 := bC3.cell 2
  simp only [List.getElem?_toArray, List.getElem?_cons_zero, List.getElem?_cons_succ] at b1 b2
  have hlen : (c.l.reverse ++ c.r).length = c.l.length + c.r.length := by simp
  rw [hlen] at h3
  have hbase : w.heap.size ≤ V.heap.size := hX2.size
  have hb3 : w.heap.size ≤ w3.heap.size := hX3.size
  have ho3 := ownsRow_base ho3 hbase
  rw [hlen] at ho3 ⊢
  clear hj
  by_cases hr0 : c.r.length = 0
  · have HCD : Hid (ivs (cellsD c) = ivs (c.l.reverse ++ c.r) ++ [.int .i64 0] ∧ (cellsD c).length = c.l.length + c.r.length + 1) := by
      unfold Hid cellsD
      rw [if_pos hr0]
      exact ⟨by simp [ivs], by simp only [List.length_append, List.length_reverse, List.length_cons, List.length_nil]⟩
    have hrI : ((c.r.length : Int) == 0) = true := by simp [hr0]
    have HR0 := Lib.hid hr0
    clear hr0
    go_wp2_with (at_builtin; refine wpList_append_own _ rfl _ _ 27 rfl w.heap.size 2 i0 (.int .i64 0) 1 8 Tryz.underlying27 hi hz0 hz1 hz2 rfl (by decide) _ _ _ rfl (ho3.alloc _) ⟨w3.heap.size, 0, none⟩ 1 1 [.int .i64 0] rfl rfl ?c1 ?c2 ?c3 ?c4 ?c5 ?_)
    case c1 =>
      intro j u hj
      match j, hj with
      | 0, hj => simp at hj; subst hj; simp [Addr.add]
    case c2 => first | rfl | (intro u hu; simp at hu; subst hu; rfl)
    case c3 => first | omega | (unfold maxLen; omega)
    case c4 => omega
    case c5 => first | omega | (simp; omega)
    intro v' w4 hown' hgrow _
    obtain ⟨Av, cv, rfl, _, _, _⟩ := (ownsRow_row hown').form
    have hXa := Ext.alloc w3 (.cells #[.int .i64 0] 2)
    have hoa := ownsRow_ext ho3 hXa
    have hX4 : Ext w w4 := (hX3.trans hXa).grown hgrow (fun b hb => (hoa.lt b hb).1)
    have bC4 := (bC3.ext hXa).apart hoa (by decide) hgrow
    have R : OwnInts w.heap.size w4 (.slice Av (c.l.length + c.r.length + 1) cv) (cellsD c) := by
      unfold OwnInts
      rw [HCD.out.1, HCD.out.2]
      exact hown'
    clear b1 b2 hown' hgrow ho3 hoa
    have b1 := bC4.cell 1
    simp only [List.getElem?_toArray, List.getElem?_cons_zero, List.getElem?_cons_succ] at b1
    go_wp2_with fail
    refine (sizeI_c _ _ _ w4).mono ?_
    rintro e w' ⟨rfl, rfl⟩
    go_wp2
    exact bodyPost_ret (v := .tuple #[.slice Av (c.l.length + c.r.length + 1) cv, .int .i64 (c.l.length : Int), .int .i64 0]) (by simp [results, Tryz.results10, go_sem]) rfl ⟨_, rfl, R, hX4⟩
  · have HCD : Hid (cellsD c = c.l.reverse ++ c.r) := by
      unfold Hid cellsD
      rw [if_neg hr0, List.append_nil]
    have hrI : ((c.r.length : Int) == 0) = false := by simp [hr0]
    have R : OwnInts w.heap.size w3 (.slice A3 (c.l.length + c.r.length) c3) (cellsD c) := by
      unfold OwnInts
      rw [HCD.out, hlen]
      exact ho3
    clear ho3 hr0
    go_wp2_with fail
    refine (sizeI_c _ _ _ w3).mono ?_
    rintro e w' ⟨rfl, rfl⟩
    go_wp2
    exact bodyPost_ret (v := .tuple #[.slice A3 (c.l.length + c.r.length) c3, .int .i64 (c.l.length : Int), .int .i64 0]) (by simp [results, Tryz.results10, go_sem]) rfl ⟨_, rfl, R, hX3⟩
end Go.Proofs.YtcebkjiafjmjfaaGreatDoor
end
