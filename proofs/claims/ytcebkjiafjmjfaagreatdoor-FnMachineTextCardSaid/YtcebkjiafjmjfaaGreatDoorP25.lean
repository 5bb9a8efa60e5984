/- Contract: digits are read back from their text.
Contracts: the text of a configuration, and that it is read back. The machine is valid and the configuration is one of its; the library's table is as its text lays it, and its length of searches is some number. -/
import Derived.Test.YtcebkjiafjmjfaaGreatDoorP24
import Derived.Test.YtcebkjiafjmjfaaGreatDoorP10
import Derived.Test.YtcebkjiafjmjfaaGreatDoorP21
import Derived.Test.YtcebkjiafjmjfaaGreatDoorP15
import Derived.Test.YtcebkjiafjmjfaaGreatDoorP13
import Derived.Test.YtcebkjiafjmjfaaGreatDoorP09
section
set_option linter.unusedSimpArgs false
set_option linter.unusedVariables false
namespace Go.Proofs.YtcebkjiafjmjfaaGreatDoor
open Go Go.RowKit Go.Proofs
set_option maxHeartbeats 400000
theorem digB_get {zs : List Int} (hz : ∀ z ∈ zs, 0 ≤ z ∧ z ≤ 9) {k : Nat} (hk : k < zs.length) : ∃ (h : k < (bsS (digB zs)).size) (n : Nat), zs[k] = (n : Int) ∧ n ≤ 9 ∧ ((bsS (digB zs))[k]).toNat = 48 + n := by
  have hl : k < (digB zs).length := by simpa [digB] using hk
  have h : k < (bsS (digB zs)).size := by rw [bs_size]; exact hl
  have h9 := hz zs[k] (List.getElem_mem hk)
  obtain ⟨n, hn⟩ : ∃ n : Nat, zs[k] = (n : Int) := ⟨zs[k].toNat, by omega⟩
  refine ⟨h, n, hn, by omega, ?_⟩
  rw [bs_get _ _ _ hl]
  have e : (digB zs)[k] = digU zs[k] := by simp [digB]
  rw [e]
  have := digU_nat (z := zs[k]) (by omega) (by omega)
  omega
def RgRes (zs : List Int) (w : World) (e : Ending) (w' : World) : Prop := ∃ u, e = .returned (.tuple #[u, .bool true]) ∧ OwnInts w.heap.size w' u zs ∧ Ext w w'
set_option maxRecDepth 20000 in
set_option maxHeartbeats 4000000 in
theorem readDigits_c (zs : List Int) (w : World) (hz : ∀ z ∈ zs, 0 ≤ z ∧ z ≤ 9) (hl : zs.length ≤ 1048576) :
    Calls Tryz.prog 27 #[.string (bsS (digB zs))] w (RgRes zs w) := by
  obtain ⟨i0, hi, hz0, hz1, hz2⟩ := info_parts intInfo
  have hS : (bsS (digB zs)).size = zs.length := by rw [bs_size]; simp [digB]
  have hget := fun {k : Nat} (hk : k < zs.length) => digB_get hz hk
  generalize bsS (digB zs) = s at *
  have hown0 : (w.alloc (.cells #[] 2)).ownsRow w.heap.size 2 1 (.slice (some ⟨w.heap.size, 0, none⟩) 0 0) 0 (ivs (zs.take 0)) :=
    World.ownsRow_made (base := w.heap.size) (e := 2) (size := 1) w #[] 0 (by simp) (by unfold maxLen; omega) (by simp [ivs])
  have hX0 := Ext.alloc w (.cells #[] 2)
  go_enter Tryz.func27, Tryz.ntmps27
  go_wp2
  generalize w.alloc (.cells #[] 2) = W at *
  go_loopw [4, 5] (fun l i wr => ∃ k : Nat, k ≤ zs.length ∧ i = .int .i64 (k : Int) ∧ Ext w wr ∧ wr.ownsRow w.heap.size 2 1 l k (ivs (zs.take k))) (fun _ i _ => zs.length - (intOf i).toNat)
  case atStart => exact ⟨0, Nat.zero_le _, rfl, hX0, hown0⟩
  case round =>
    clear hown0 hX0
    obtain ⟨k, hk, rfl, hX, ho⟩ := hrel
    obtain ⟨Al, cl, rfl, h3, h3', _⟩ := (ownsRow_row ho).form
    by_cases hlt : k < zs.length
    · obtain ⟨hks, n, hzn, hn9, hb⟩ := hget hlt
      have HTK : Hid (ivs (zs.take (k + 1)) = ivs (zs.take k) ++ [.int .i64 (n : Int)]) := by
        unfold Hid
        rw [List.take_succ_eq_append_getElem hlt, hzn]
        simp [ivs]
      have hkI : (k : Int) < (zs.length : Int) := by omega
      have hb1 : ¬ ((48 + n : Nat) : Int) < 48 := by omega
      have hb2 : ¬ (57 : Int) < ((48 + n : Nat) : Int) := by omega
      have hcz : (48 : Int) + (n : Int) - 48 = (n : Int) := by omega
      have hsz := hX.size
      clear hget hzn
      go_wp2_with (at_builtin; refine wpList_append_own _ rfl _ _ 27 rfl w.heap.size 2 i0 (.int .i64 0) 1 8 Tryz.underlying27 hi hz0 hz1 hz2 rfl (by decide) _ _ _ rfl (ho.alloc _) ⟨wr.heap.size, 0, none⟩ 1 1 [.int .i64 (n : Int)] rfl rfl ?c1 ?c2 ?c3 ?c4 ?c5 ?_)
      case c2 => first | rfl | (intro u hu; simp at hu; subst hu; rfl)
      case c3 => first | omega | (unfold maxLen; omega)
      case c4 => omega
      case c5 => first | omega | (simp; omega)
      intro v' w3 hown' hgrow _
      have hX3 : Ext w w3 := hX.grown (grownBy_trans (World.grownBy_alloc _ _ _) hgrow) (fun b hb => (ho.lt b hb).1)
      have R : w3.ownsRow w.heap.size 2 1 v' (k + 1) (ivs (zs.take (k + 1))) := by rw [HTK.out]; exact hown'
      clear hown' hgrow ho
      go_wp2
      go_roundw
      case rel => exact ⟨k + 1, by omega, by go_num, hX3, R⟩
      case measure => simp [intOf]; omega
    · obtain rfl : k = zs.length := by omega
      have htk : zs.take zs.length = zs := List.take_of_length_le (Nat.le_refl _)
      rw [htk] at ho
      have HO := Lib.hid ho
      have hge : ¬ (zs.length : Int) < (zs.length : Int) := by omega
      clear ho htk hget
      go_wp2
      exact bodyPost_ret (v := .tuple #[.slice Al zs.length cl, .bool true]) (by simp [results, Tryz.results27, go_sem]) rfl ⟨_, rfl, HO.out, hX⟩
end Go.Proofs.YtcebkjiafjmjfaaGreatDoor
end
section
set_option linter.unusedSimpArgs false
set_option linter.unusedVariables false
namespace Go.Proofs.YtcebkjiafjmjfaaGreatDoor
open Go Go.RowKit Go.Proofs
set_option maxHeartbeats 400000
theorem conf_digs {m : MachD} {c : ConfD} (hm : machOk m = true) (hc : confB m c = true) : (0 ≤ c.q ∧ c.q ≤ 999) ∧ (c.l.length ≤ 200 ∧ ∀ z ∈ c.l, 0 ≤ z ∧ z ≤ 9) ∧ (c.r.length ≤ 200 ∧ ∀ z ∈ c.r, 0 ≤ z ∧ z ≤ 9) := by
  obtain ⟨s1, s2, t1, t2⟩ := machOk_bounds hm
  simp only [confB, sideOk, Bool.and_eq_true, decide_eq_true_eq, List.all_eq_true] at hc
  obtain ⟨⟨h1, ⟨⟨h2, h3⟩, _⟩⟩, ⟨⟨h4, h5⟩, _⟩⟩ := hc
  have h1 := inB_iff.1 h1
  refine ⟨by omega, ⟨by omega, fun z hz => ?_⟩, ⟨by omega, fun z hz => ?_⟩⟩
  · have := inB_iff.1 (h3 z hz); omega
  · have := inB_iff.1 (h5 z hz); omega
theorem confT_app (c : ConfD) : bsS (digB c.l.reverse) ++ ⟨#[40]⟩ ++ itoaS c.q ++ ⟨#[41]⟩ ++ bsS (digB c.r) = bsS (confT c) := by
  have e : confT c = digB c.l.reverse ++ [40] ++ Lib.itoa c.q ++ [41] ++ digB c.r := by
    unfold confT
    simp
  rw [e, ← bs_app, ← bs_app, ← bs_app, ← bs_app]
  rfl
set_option maxRecDepth 20000 in
set_option maxHeartbeats 4000000 in
theorem ConfigText_c (v lv qv : Value) (m : MachD) (c : ConfD) (w : World) (hM : Mach w v m) (hl : Ints w lv c.l) (hq : Ints w qv c.r) (hm : machOk m = true) (hc : confB m c = true) (hfl : Flat lv) (hT : Tab w) :
    Calls Tryz.prog 9 #[v, .agg #[.int .i64 c.q, lv, qv]] w fun e w' => e = .returned (.string (bsS (confT c))) ∧ Ext w w' := by
  obtain ⟨rv, rfl, hr⟩ := hM
  obtain ⟨Ar, cr, rfl, _, _⟩ := hr.form
  obtain ⟨Al, cl, rfl, _, _⟩ := hl.form
  obtain ⟨Aq, cq, rfl, _, _⟩ := hq.form
  obtain ⟨⟨q0, q9⟩, ⟨l1, l2⟩, ⟨r1, r2⟩⟩ := conf_digs hm hc
  obtain ⟨W, hW⟩ : ∃ W, (w.alloc (.cells #[.int .i64 m.sy, .int .i64 m.st, .slice Ar m.rules.length cr] 26)).alloc (.cells #[.int .i64 c.q, .slice Al c.l.length cl, .slice Aq c.r.length cq] 29) = W := ⟨_, rfl⟩
  have hX : Ext w W := by rw [← hW]; exact (Ext.alloc _ _).trans (Ext.alloc _ _)
  have bM : Blk W w.heap.size 26 #[.int .i64 m.sy, .int .i64 m.st, .slice Ar m.rules.length cr] := by rw [← hW]; exact (Blk.new _ _ _ _ rfl).alloc _
  have bC : Blk W (w.heap.size + 1) 29 #[.int .i64 c.q, .slice Al c.l.length cl, .slice Aq c.r.length cq] := by rw [← hW]; exact Blk.new _ _ _ _ (by simp)
  have hV := ValidConfig_c _ _ m c W ⟨_, rfl, hr.ext hX⟩ ⟨_, _, rfl, hl.ext hX, hq.ext hX⟩
  rw [hm, hc] at hV
  have a0 := bM.cell 0
  have a1 := bM.cell 1
  have a2 := bM.cell 2
  have b0 := bC.cell 0
  have b1 := bC.cell 1
  have b2 := bC.cell 2
  simp only [List.getElem?_toArray, List.getElem?_cons_zero, List.getElem?_cons_succ] at a0 a1 a2 b0 b1 b2
  go_enter Tryz.func9, Tryz.ntmps9
  go_wp2_with fail
  refine hV.mono ?_
  rintro e w1 ⟨rfl, hx1⟩
  have hX1 := hX.trans hx1
  have bC1 := bC.ext hx1
  clear a0 a1 a2 b0 b1 b2 hV
  have b0 := bC1.cell 0
  have b1 := bC1.cell 1
  have b2 := bC1.cell 2
  simp only [List.getElem?_toArray, List.getElem?_cons_zero, List.getElem?_cons_succ] at b0 b1 b2
  have hXd := hX1.trans (Ext.drew w1)
  have b0 := (Ext.drew w1).cell b0
  have b1 := (Ext.drew w1).cell b1
  have b2 := (Ext.drew w1).cell b2
  have hrv := reversed_c _ c.l w1.drew (hl.ext hXd) hfl (by omega)
  have hsL : (bsS (digB c.l.reverse)).size ≤ 200 := by rw [bs_size]; simp [digB]; omega
  have hsR : (bsS (digB c.r)).size ≤ 200 := by rw [bs_size]; simp [digB]; omega
  have hsQ := itoaS_size (n := c.q) q0 (by omega)
  have hA := confT_app c
  have hdL : ∀ (v : Value) (w : World), Ints w v c.l.reverse → Calls Tryz.prog 31 #[v] w fun e w' => e = .returned (.string (bsS (digB c.l.reverse))) ∧ Ext w w' := fun v w h => digitsText_c v _ w h (fun z hz => l2 z (List.mem_reverse.1 hz)) (by simp; omega)
  have hdR : ∀ (v : Value) (w : World), Ints w v c.r → Calls Tryz.prog 31 #[v] w fun e w' => e = .returned (.string (bsS (digB c.r))) ∧ Ext w w' := fun v w h => digitsText_c v _ w h r2 (by omega)
  generalize bsS (digB c.l.reverse) = sL at *
  generalize bsS (digB c.r) = sR at *
  have HA := Lib.hid hA
  clear hA
  have n1 : ¬ 9223372036854775807 < sL.size + 1 := by omega
  have n2 : ¬ 9223372036854775807 < sL.size + 1 + (itoaS c.q).size := by omega
  have n3 : ¬ 9223372036854775807 < sL.size + 1 + (itoaS c.q).size + 1 := by omega
  have n4 : ¬ 9223372036854775807 < sL.size + 1 + (itoaS c.q).size + 1 + sR.size := by omega
  go_wp2_with fail
  refine wp_region_ordT 14 (readsT [0, 1, 5, 6, 10, 11] (.stir 2 (.stir 3 (readsT [4] (.stir 7 (readsT [8, 9] (.stir 12 (readsT [13] .done)))))))) (by kernel_rfl) (by kernel_rfl) (fun _ _ _ _ _ h => h) ?_
  simp only [readsT]
  iterate 6 (refine wpOrdT_read (v := ?_) (by rfl) (Or.inl ⟨by rfl, fun x hx => ?_⟩) ?_; rotate_left; (· have a1 := hx.cell b0; have a2 := hx.cell b1; have a3 := hx.cell b2; go_simp; try with_reducible rfl); try simp only [Act.put, List.setIfInBounds_toArray, List.set_cons_zero, List.set_cons_succ])
  refine wpOrdT_keep (by rfl) (fun K hK => ?_)
  go_simp
  refine hrv.mono ?_
  rintro e w2 ⟨u, rfl, ho, hx2⟩
  obtain ⟨Au, cu, rfl, _, _⟩ := ho.ints.form
  rw [List.length_reverse] at *
  refine hK _ _ hx2 ?_
  clear hK K
  refine wpOrdT_keep (by rfl) (fun K hK => ?_)
  go_simp
  refine (hdL _ w2 (by simpa using ho.ints)).mono ?_
  rintro e w3 ⟨rfl, hx3⟩
  refine hK _ _ (hx2.trans hx3) ?_
  clear hK K
  refine wpOrdT_read (v := ?_) (by rfl) (Or.inl ⟨by rfl, fun x hx => ?_⟩) ?_
  rotate_left
  · go_simp; try with_reducible rfl
  try simp only [Act.put, List.setIfInBounds_toArray, List.set_cons_zero, List.set_cons_succ]
  refine wpOrdT_keep (by rfl) (fun K hK => ?_)
  go_simp
  refine (Decimal_c c.q w3 (by omega) (by omega) ((hT.ext hXd).ext (hx2.trans hx3))).mono ?_
  rintro e w4 ⟨rfl, hx4⟩
  refine hK _ _ ((hx2.trans hx3).trans hx4) ?_
  clear hK K
  refine wpOrdT_read (v := ?_) (by rfl) (Or.inl ⟨by rfl, fun x hx => ?_⟩) ?_
  rotate_left
  · go_simp; try with_reducible rfl
  try simp only [Act.put, List.setIfInBounds_toArray, List.set_cons_zero, List.set_cons_succ]
  refine wpOrdT_read (v := ?_) (by rfl) (Or.inl ⟨by rfl, fun x hx => ?_⟩) ?_
  rotate_left
  · go_simp; try with_reducible rfl
  try simp only [Act.put, List.setIfInBounds_toArray, List.set_cons_zero, List.set_cons_succ]
  refine wpOrdT_keep (by rfl) (fun K hK => ?_)
  go_simp
  refine (hdR _ w4 (hq.ext (hXd.trans ((hx2.trans hx3).trans hx4)))).mono ?_
  rintro e w5 ⟨rfl, hx5⟩
  refine hK _ _ (((hx2.trans hx3).trans hx4).trans hx5) ?_
  clear hK K
  refine wpOrdT_read (v := ?_) (by rfl) (Or.inl ⟨by rfl, fun x hx => ?_⟩) ?_
  rotate_left
  · go_simp; try with_reducible rfl
  try simp only [Act.put, List.setIfInBounds_toArray, List.set_cons_zero, List.set_cons_succ]
  refine wpOrdT_done ?_
  try simp only [List.drop_succ_cons, List.drop_zero]
  go_wp2
  go_ret
  exact ⟨by rw [← HA.out]; rfl, hXd.trans (((hx2.trans hx3).trans hx4).trans hx5)⟩
end Go.Proofs.YtcebkjiafjmjfaaGreatDoor
end
