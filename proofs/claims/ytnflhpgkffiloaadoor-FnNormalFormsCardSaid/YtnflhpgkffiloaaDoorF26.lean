/- Contract: the text of a formula tape is not empty. The listed tables of the library hold what they should.
The contract of the laws' r8Long.
Contracts of the laws' and the reference's small functions on lists that number anew: r8Same, r8Moved, l05First, SortList, isOrder. -/
import Derived.Test.YtnflhpgkffiloaaDoorF23
import Derived.Test.YtnflhpgkffiloaaDoorF25
import Derived.Test.YtnflhpgkffiloaaDoorF02
import Derived.Test.YtnflhpgkffiloaaDoorF13
import Derived.Test.YtnflhpgkffiloaaDoorF07
import Derived.Maps.AppendAt
section
set_option linter.unusedSimpArgs false
set_option linter.unusedVariables false
namespace Go.Proofs.YtnflhpgkffiloaaDoor
open Go Go.RowKit Go.Proofs
set_option maxHeartbeats 400000
theorem itoaS_any {n : Int} (h0 : -1000000 ≤ n) (h1 : n ≤ 1000000) : (itoaS n).size ≤ 21 := by
  have := Lib.itoa_length_le n (by omega) (by omega)
  unfold itoaS
  simpa [ByteArray.size] using this
theorem foOk_word {m : MachD} {f : FoD} (hm : machOk m = true) (h : foOk m f = true) : (∀ x ∈ f.ws, x.length ≤ 100 ∧ ∀ z ∈ x, 0 ≤ z ∧ z ≤ 9) ∧ (∀ x ∈ f.rs, x.length ≤ 100 ∧ ∀ z ∈ x, 0 ≤ z ∧ z ≤ 9) ∧ 0 ≤ f.q ∧ f.q ≤ 1000 := by
  obtain ⟨⟨y1, y2, t1, t2⟩, _, _⟩ := machOk_five hm
  unfold foOk at h
  simp only [Bool.and_eq_true, decide_eq_true_eq, List.all_eq_true] at h
  obtain ⟨⟨⟨⟨⟨⟨⟨⟨q, a⟩, b⟩, c⟩, d⟩, e⟩, o⟩, _⟩, t⟩ := h
  have hw : ∀ (x : List Int) (n : Nat), wordIn m x n = true → x.length ≤ n ∧ ∀ z ∈ x, 0 ≤ z ∧ z ≤ 9 := fun x n hx => by
    simp only [wordIn, Bool.and_eq_true, decide_eq_true_eq, List.all_eq_true] at hx
    exact ⟨hx.1, fun z hz => by have := inB_iff.1 (hx.2 z hz); omega⟩
  refine ⟨fun x hx => hw x 100 (d x hx), fun x hx => ?_, by have := inB_iff.1 q; omega⟩
  have := e x hx
  simp only [repIn, Bool.and_eq_true, decide_eq_true_eq] at this
  have := hw x 20 this.2
  exact ⟨by omega, this.2⟩
theorem bytes_len (s : ByteArray) : s.data.toList.length = s.size := Array.length_toList
theorem digB_size (x : List Int) : (⟨(digB x).toArray⟩ : ByteArray).size = x.length := by simp [digB, ByteArray.size]
set_option maxRecDepth 20000 in
set_option maxHeartbeats 8000000 in
theorem FormulaText_c (m : MachD) (mv wv rv ov : Value) (f : FoD) (w : World) (h : FoV w (.agg #[.int .i64 f.q, .int .i64 f.hd, .int .i64 f.at_, wv, rv, ov]) f wv rv ov) (hf : foOk m f = true) (hm : machOk m = true) (hrm : Rules w mv m.rules) (hT : Tab w) :
    Calls Tryd.prog 11 #[.agg #[.int .i64 m.sy, .int .i64 m.st, mv], .agg #[.int .i64 f.q, .int .i64 f.hd, .int .i64 f.at_, wv, rv, ov]] w fun e w' => (∃ s : ByteArray, e = .returned (.string s) ∧ 1 ≤ s.size) ∧ Ext w w' := by
  have hnb := foOk_nb hf
  obtain ⟨hwW, hwR, hq0, hq1⟩ := foOk_word hm hf
  obtain ⟨V, hV⟩ : ∃ V, V = (w.alloc (.cells #[.int .i64 m.sy, .int .i64 m.st, mv] 26)).alloc (.cells #[.int .i64 f.q, .int .i64 f.hd, .int .i64 f.at_, wv, rv, ov] 31) := ⟨_, rfl⟩
  have hX : Ext w V := by rw [hV]; exact (Ext.alloc _ _).trans (Ext.alloc _ _)
  obtain ⟨g, hgg⟩ : ∃ g, w.heap.size = g := ⟨_, rfl⟩
  have bm : Blk V g 26 #[.int .i64 m.sy, .int .i64 m.st, mv] := by rw [hV]; exact (Blk.new _ _ _ _ hgg).alloc _
  have bf : Blk V (g + 1) 31 #[.int .i64 f.q, .int .i64 f.hd, .int .i64 f.at_, wv, rv, ov] := by rw [hV]; exact Blk.new _ _ _ _ (by simp [hgg])
  have VF0 := ValidFormula_c m (.agg #[.int .i64 m.sy, .int .i64 m.st, mv]) (.agg #[.int .i64 f.q, .int .i64 f.hd, .int .i64 f.at_, wv, rv, ov]) wv rv ov f V ⟨_, rfl, hrm.ext hX⟩ (h.ext hX) (by have := hnb.r1; have := hnb.ws; have := hnb.os; omega) hm
  rw [hf] at VF0
  obtain ⟨A, cA, rfl, _, _⟩ := h.ws.form
  obtain ⟨B, cB, rfl, _, _⟩ := h.rs.form
  obtain ⟨C, cC, rfl, _, _⟩ := h.os.form
  have HV := Lib.hid (h.ext hX)
  have HT := Lib.hid (hT.ext hX)
  have HX := Lib.hid hX
  have HNB := Lib.hid hnb
  have HBF := Lib.hid bf
  have HWW := Lib.hid hwW
  have HWR := Lib.hid hwR
  have hws := hnb.ws
  have hos := hnb.os
  have hr1 := hnb.r1
  have hwl : 0 < f.ws.length := by omega
  have HWS := Lib.hid hws
  have HOS := Lib.hid hos
  have m0 := bm.cell 0
  have m1 := bm.cell 1
  have m2 := bm.cell 2
  have a0 := bf.cell 0
  have a1 := bf.cell 1
  have a2 := bf.cell 2
  have a3 := bf.cell 3
  have a4 := bf.cell 4
  have a5 := bf.cell 5
  simp only [List.getElem?_toArray, List.getElem?_cons_zero, List.getElem?_cons_succ] at m0 m1 m2 a0 a1 a2 a3 a4 a5
  have hsA := itoaS_any (n := f.q) (by omega) (by omega)
  have hsB := itoaS_any (n := f.hd) (by have := hnb.hd; omega) (by have := hnb.hd; omega)
  have hsC := itoaS_any (n := f.at_) (by have := hnb.at_; omega) (by have := hnb.at_; omega)
  have DA := fun w' (hx : Ext V w') => Decimal_c f.q w' (by omega) (by omega) (HT.out.ext hx)
  have DB := fun w' (hx : Ext V w') => Decimal_c f.hd w' (by have := hnb.hd; omega) (by have := hnb.hd; omega) (HT.out.ext hx)
  have DC := fun w' (hx : Ext V w') => Decimal_c f.at_ w' (by have := hnb.at_; omega) (by have := hnb.at_; omega) (HT.out.ext hx)
  obtain ⟨bw, off, u0, hA, c0, hu0, _⟩ := Lists.at (h.ws.ext hX) hwl
  subst hA
  rw [Nat.add_zero] at c0
  obtain ⟨x0, hx0⟩ : ∃ x, f.ws[0] = x := ⟨_, rfl⟩
  rw [hx0] at hu0
  have hxl := hwW x0 (by rw [← hx0]; exact List.getElem_mem _)
  have DD := fun w' (hx : Ext V w') => digitsText_c u0 x0 w' (hu0.ext hx) hxl.2 (by omega)
  have hsD := digB_size x0
  have hsD2 : (⟨(digB x0).toArray⟩ : ByteArray).size ≤ 100 := by omega
  have HD := Lib.hid (And.intro DA (And.intro DB (And.intro DC DD)))
  obtain ⟨Au, cu, rfl, _, _⟩ := hu0.form
  obtain ⟨sA, hA⟩ : ∃ s, itoaS f.q = s := ⟨_, rfl⟩
  obtain ⟨sB, hB⟩ : ∃ s, itoaS f.hd = s := ⟨_, rfl⟩
  obtain ⟨sC, hC⟩ : ∃ s, itoaS f.at_ = s := ⟨_, rfl⟩
  obtain ⟨sD, hD⟩ : ∃ s, (⟨(digB x0).toArray⟩ : ByteArray) = s := ⟨_, rfl⟩
  rw [hA] at hsA HD
  rw [hB] at hsB HD
  rw [hC] at hsC HD
  rw [hD] at hsD2 HD
  clear hx0 hxl hsD DA DB DC DD hA hB hC hD bm bf hnb hws hos h hX hT hrm hf hm hwW hwR hu0
  have n1 : ¬ 9223372036854775807 < sA.size + 1 := by omega
  have n2 : ¬ 9223372036854775807 < sA.size + 1 + sB.size := by omega
  have n3 : ¬ 9223372036854775807 < sA.size + 1 + sB.size + 1 := by omega
  have n4 : ¬ 9223372036854775807 < sA.size + 1 + sB.size + 1 + sC.size := by omega
  have n5 : ¬ 9223372036854775807 < sA.size + 1 + sB.size + 1 + sC.size + 1 := by omega
  have n6 : ¬ 9223372036854775807 < sA.size + 1 + sB.size + 1 + sC.size + 1 + sD.size := by omega
  go_enter Tryd.func11, Tryd.ntmps11
  go_wp2_with fail
  try rw [← hV]
  try rw [hgg]
  clear hV hgg
  refine VF0.mono ?_
  rintro e w1 ⟨rfl, hx1⟩
  clear VF0
  obtain ⟨W2, hW2⟩ : ∃ W, W = w1.alloc (.cells #[.pointer none, .slice none 0 0] 58) := ⟨_, rfl⟩
  obtain ⟨gb, hgb⟩ : ∃ g, w1.heap.size = g := ⟨_, rfl⟩
  have e2 : Ext w1 W2 := by rw [hW2]; exact Ext.alloc _ _
  have hB0 : Bldr gb gb [] W2 := by rw [hW2, ← hgb]; exact Lib.fresh_isBuilder _ _ w1
  have hVd : Ext V W2.drew := hx1.trans (e2.trans (Ext.drew _))
  have a0 := hVd.cell a0
  have a1 := hVd.cell a1
  have a2 := hVd.cell a2
  have b3 := hVd.cell a3
  have c0 := hVd.cell c0
  have hB0 := hB0.ext (Ext.drew W2)
  have e2d := e2.trans (Ext.drew W2)
  have HB0 := Lib.hid hB0
  have HGB := Lib.hid hgb
  have HVD := Lib.hid hVd
  have HE2 := Lib.hid e2d
  have HX1 := Lib.hid hx1
  clear hB0 e2
  go_wp2_with fail
  try rw [← hW2]
  try rw [hgb]
  clear hW2 hgb
  refine wp_region_ordT 20 (readsT [0, 1, 4, 5, 9, 10, 14, 15, 16, 17] (.stir 2 (readsT [3] (.stir 6 (readsT [7, 8] (.stir 11 (readsT [12, 13] (.stir 18 (readsT [19] .done))))))))) (by kernel_rfl) (by kernel_rfl) (fun _ _ _ _ _ h => h) ?_
  simp only [readsT]
  generalize W2.drew = X at *
  iterate 10 (refine wpOrdT_read (v := ?_) (by rfl) (Or.inl ⟨by rfl, fun x hx => ?_⟩) ?_; rotate_left; (· have y0 := Ext.cell hx a0; have y1 := Ext.cell hx a1; have y2 := Ext.cell hx a2; have y3 := Ext.cell hx b3; have yc := Ext.cell hx c0; go_simp; try first | with_reducible rfl | (rw [if_pos (by omega)]; try with_reducible rfl)); try simp only [Act.put, List.setIfInBounds_toArray, List.set_cons_zero, List.set_cons_succ])
  refine wpOrdT_keep (by rfl) (fun K hK => ?_)
  go_simp
  go_at_call 25
  refine (HD.out.1 X HVD.out).mono ?_
  rintro e w3 ⟨rfl, hx3⟩
  refine hK _ _ hx3 ?_
  clear hK K
  iterate 1 (refine wpOrdT_read (v := ?_) (by rfl) (Or.inl ⟨by rfl, fun x hx => ?_⟩) ?_; rotate_left; (· go_simp; try first | with_reducible rfl | (rw [if_neg (by omega)]; try with_reducible rfl)); try simp only [Act.put, List.setIfInBounds_toArray, List.set_cons_zero, List.set_cons_succ])
  refine wpOrdT_keep (by rfl) (fun K hK => ?_)
  go_simp
  go_at_call 25
  refine (HD.out.2.1 w3 (HVD.out.trans hx3)).mono ?_
  rintro e w4 ⟨rfl, hx4⟩
  refine hK _ _ (hx3.trans hx4) ?_
  clear hK K
  iterate 2 (refine wpOrdT_read (v := ?_) (by rfl) (Or.inl ⟨by rfl, fun x hx => ?_⟩) ?_; rotate_left; (· go_simp; try first | with_reducible rfl | (rw [if_neg (by omega)]; try with_reducible rfl)); try simp only [Act.put, List.setIfInBounds_toArray, List.set_cons_zero, List.set_cons_succ])
  refine wpOrdT_keep (by rfl) (fun K hK => ?_)
  go_simp
  go_at_call 25
  refine (HD.out.2.2.1 w4 (HVD.out.trans (hx3.trans hx4))).mono ?_
  rintro e w5 ⟨rfl, hx5⟩
  refine hK _ _ ((hx3.trans hx4).trans hx5) ?_
  clear hK K
  iterate 2 (refine wpOrdT_read (v := ?_) (by rfl) (Or.inl ⟨by rfl, fun x hx => ?_⟩) ?_; rotate_left; (· go_simp; try first | with_reducible rfl | (rw [if_neg (by omega)]; try with_reducible rfl)); try simp only [Act.put, List.setIfInBounds_toArray, List.set_cons_zero, List.set_cons_succ])
  refine wpOrdT_keep (by rfl) (fun K hK => ?_)
  go_simp
  go_at_call 26
  refine (HD.out.2.2.2 w5 (HVD.out.trans ((hx3.trans hx4).trans hx5))).mono ?_
  rintro e w6 ⟨rfl, hx6⟩
  refine hK _ _ (((hx3.trans hx4).trans hx5).trans hx6) ?_
  clear hK K
  iterate 1 (refine wpOrdT_read (v := ?_) (by rfl) (Or.inl ⟨by rfl, fun x hx => ?_⟩) ?_; rotate_left; (· go_simp; try first | with_reducible rfl | (rw [if_neg (by omega)]; try with_reducible rfl)); try simp only [Act.put, List.setIfInBounds_toArray, List.set_cons_zero, List.set_cons_succ])
  refine wpOrdT_done ?_
  try simp only [List.drop_succ_cons, List.drop_zero]
  have hx36 := ((hx3.trans hx4).trans hx5).trans hx6
  have hE6 : Ext w1 w6 := HE2.out.trans hx36
  have hss : (sA ++ (⟨#[64]⟩ : ByteArray) ++ sB ++ ⟨#[46]⟩ ++ sC ++ ⟨#[58]⟩ ++ sD).size = sA.size + 1 + sB.size + 1 + sC.size + 1 + sD.size := by
    simp only [ByteArray.size_append]
    rfl
  have hB6 := HB0.out.ext hx36
  obtain ⟨s0, hs0⟩ : ∃ s, sA ++ (⟨#[64]⟩ : ByteArray) ++ sB ++ ⟨#[46]⟩ ++ sC ++ ⟨#[58]⟩ ++ sD = s := ⟨_, rfl⟩
  rw [hs0] at hss
  have hl1 : 1 ≤ s0.size := by omega
  have hl2 : s0.size ≤ 300 := by omega
  have WS := writeStringA_c gb gb [] s0 w6 hB6 (by simp; omega) (by rw [← HGB.out]; exact hE6.size)
  try rw [hs0]
  clear hss hB6 hx36 n1 n2 n3 n4 n5 n6 hx3 hx4 hx5 hx6 hs0 a0 a1 a2 b3 c0 HD
  go_wp2_with fail
  refine WS.mono ?_
  rintro e w7 ⟨rfl, hB7, hX7⟩
  have hE7 : Ext w1 w7 := ext_below hE6 HGB.out hX7
  have a4' := hE7.cell (HX1.out.cell a4)
  have HL0 : Hid (1 ≤ ([] ++ s0.data.toList).length ∧ ([] ++ s0.data.toList).length ≤ 300 + 400 * 0) := Lib.hid (by
    have : s0.data.toList.length = s0.size := bytes_len s0
    rw [List.nil_append, this]; omega)
  have HB7 : Hid (Bldr gb gb ([] ++ s0.data.toList) w7) := Lib.hid (.inr hB7)
  have HE7 := Lib.hid hE7
  generalize ([] ++ s0.data.toList : List UInt8) = l0 at *
  clear WS hE6 hB7 hX7 hE7
  go_wp2_with fail
  go_loopw [36] (fun i wr => ∃ (k : Nat) (l : List UInt8), k ≤ f.rs.length ∧ i = .int .i64 (k : Int) ∧ Hid (1 ≤ l.length ∧ l.length ≤ 300 + 400 * k) ∧ Hid (Bldr gb gb l wr) ∧ Hid (Ext w1 wr)) (fun i _ => f.rs.length - (intOf i).toNat)
  case atStart => exact ⟨0, l0, Nat.zero_le _, rfl, HL0, HB7, HE7⟩
  case round =>
    clear HL0 HB7 HE7 a4'
    obtain ⟨k, l, hk, rfl, HL, HB, HE⟩ := hrel
    by_cases hlt : k < f.rs.length
    · have hdl : decide ((k : Int) < (f.rs.length : Int)) = true := decide_eq_true (by omega)
      have hxv : Ext V wr := HX1.out.trans HE.out
      obtain ⟨b1, o1, u1, hB1, c1, i1, _⟩ := Lists.at (HV.out.rs.ext hxv) hlt
      subst hB1
      have hko : k < f.os.length := by rw [HOS.out]; exact hlt
      have hkw : k + 1 < f.ws.length := by rw [HWS.out]; omega
      obtain ⟨b3, o3, hC3, c3⟩ := Ints.at (HV.out.os.ext hxv) hko
      subst hC3
      replace c3 := c3 k hko
      obtain ⟨b2, o2, u2, hA2, c2, i2, _⟩ := Lists.at (HV.out.ws.ext hxv) hkw
      injection hA2 with hA2
      injection hA2 with t1 t2
      subst t1 t2
      obtain ⟨x1, hx1e⟩ : ∃ x, f.rs[k] = x := ⟨_, rfl⟩
      obtain ⟨x2, hx2e⟩ : ∃ x, f.ws[k + 1] = x := ⟨_, rfl⟩
      obtain ⟨zo, hzo⟩ : ∃ z, f.os[k] = z := ⟨_, rfl⟩
      have hr1' := HWR.out _ (List.getElem_mem hlt)
      have hr2' := HWW.out _ (List.getElem_mem hkw)
      have hro := HNB.out.off _ (List.getElem_mem hko)
      rw [hx1e] at i1 hr1'
      rw [hx2e] at i2 hr2'
      rw [hzo] at c3 hro
      have hO := itoaS_any (n := zo) (by omega) (by omega)
      have D1 := fun w' (hx : Ext wr w') => digitsText_c u1 x1 w' (i1.ext hx) hr1'.2 (by omega)
      have D2 := fun w' (hx : Ext wr w') => Decimal_c zo w' (by omega) (by omega) (HT.out.ext (hxv.trans hx))
      have D3 := fun w' (hx : Ext wr w') => digitsText_c u2 x2 w' (i2.ext hx) hr2'.2 (by omega)
      have hsR : (⟨(digB x1).toArray⟩ : ByteArray).size ≤ 100 := by rw [digB_size]; exact hr1'.1
      have hsW : (⟨(digB x2).toArray⟩ : ByteArray).size ≤ 100 := by rw [digB_size]; exact hr2'.1
      have HD := Lib.hid (And.intro D1 (And.intro D2 D3))
      obtain ⟨sR, eR⟩ : ∃ s, (⟨(digB x1).toArray⟩ : ByteArray) = s := ⟨_, rfl⟩
      obtain ⟨sO, eO⟩ : ∃ s, itoaS zo = s := ⟨_, rfl⟩
      obtain ⟨sW, eW⟩ : ∃ s, (⟨(digB x2).toArray⟩ : ByteArray) = s := ⟨_, rfl⟩
      rw [eR] at hsR HD
      rw [eO] at hO HD
      rw [eW] at hsW HD
      obtain ⟨A1, k1, rfl, _, _⟩ := i1.form
      obtain ⟨A2, k2, rfl, _, _⟩ := i2.form
      clear D1 D2 D3 eR eO eW hx1e hx2e hzo hr1' hr2' hro i1 i2
      have n1 : ¬ 9223372036854775807 < 1 + sR.size := by omega
      have n2 : ¬ 9223372036854775807 < 1 + sR.size + 1 := by omega
      have n3 : ¬ 9223372036854775807 < 1 + sR.size + 1 + sO.size := by omega
      have n4 : ¬ 9223372036854775807 < 1 + sR.size + 1 + sO.size + 1 := by omega
      have n5 : ¬ 9223372036854775807 < 1 + sR.size + 1 + sO.size + 1 + sW.size := by omega
      have hwk : IntKind.i64.wrap ((k : Int) + 1) = ((k + 1 : Nat) : Int) := by rw [show (k : Int) + 1 = ((k + 1 : Nat) : Int) by omega]; exact IntWalk.i64_in _ (by omega)
      have hk1 : (k : Int) + 1 < (f.ws.length : Int) := by omega
      have d5 : wr.drew.cell? ⟨g + 1, 5, none⟩ = some (.slice (some ⟨b3, o3, none⟩) f.os.length cC) := hxv.cell a5
      have d3 : wr.drew.cell? ⟨g + 1, 3, none⟩ = some (.slice (some ⟨bw, off, none⟩) f.ws.length cA) := hxv.cell a3
      have dw : wr.drew.cell? ⟨bw, off + (k + 1), none⟩ = some (.slice A2 x2.length k2) := c2
      have do_ : wr.drew.cell? ⟨b3, o3 + k, none⟩ = some (.int .i64 zo) := c3
      have HXV := Lib.hid hxv
      clear c2 c3 hxv
      go_wp2_with fail
      refine wp_region_ordT 20 (readsT [0, 4, 5, 6, 7, 8, 12, 13, 14, 15, 16, 17] (.stir 1 (readsT [2, 3] (.stir 9 (readsT [10, 11] (.stir 18 (readsT [19] .done))))))) (by kernel_rfl) (by kernel_rfl) (fun _ _ _ _ _ h => h) ?_
      simp only [readsT]
      iterate 12 (refine wpOrdT_read (v := ?_) (by rfl) (Or.inl ⟨by rfl, fun x hx => ?_⟩) ?_; rotate_left; (· have y5 := Ext.cell hx d5; have y3 := Ext.cell hx d3; have yw := Ext.cell hx dw; have yo := Ext.cell hx do_; go_simp; try first | with_reducible rfl | (rw [if_pos (by omega)]; try with_reducible rfl) | (rw [hwk, Int.toNat_natCast, if_pos (by omega)]; try with_reducible rfl)); try simp only [Act.put, List.setIfInBounds_toArray, List.set_cons_zero, List.set_cons_succ])
      refine wpOrdT_keep (by rfl) (fun K hK => ?_)
      go_simp
      go_at_call 26
      refine (HD.out.1 wr.drew (Ext.drew _)).mono ?_
      rintro e w8 ⟨rfl, hx8⟩
      refine hK _ _ hx8 ?_
      clear hK K
      iterate 2 (refine wpOrdT_read (v := ?_) (by rfl) (Or.inl ⟨by rfl, fun x hx => ?_⟩) ?_; rotate_left; (· go_simp; try first | with_reducible rfl | (rw [if_neg (by omega)]; try with_reducible rfl)); try simp only [Act.put, List.setIfInBounds_toArray, List.set_cons_zero, List.set_cons_succ])
      refine wpOrdT_keep (by rfl) (fun K hK => ?_)
      go_simp
      go_at_call 25
      refine (HD.out.2.1 w8 ((Ext.drew _).trans hx8)).mono ?_
      rintro e w9 ⟨rfl, hx9⟩
      refine hK _ _ (hx8.trans hx9) ?_
      clear hK K
      iterate 2 (refine wpOrdT_read (v := ?_) (by rfl) (Or.inl ⟨by rfl, fun x hx => ?_⟩) ?_; rotate_left; (· go_simp; try first | with_reducible rfl | (rw [if_neg (by omega)]; try with_reducible rfl)); try simp only [Act.put, List.setIfInBounds_toArray, List.set_cons_zero, List.set_cons_succ])
      refine wpOrdT_keep (by rfl) (fun K hK => ?_)
      go_simp
      go_at_call 26
      refine (HD.out.2.2 w9 ((Ext.drew _).trans (hx8.trans hx9))).mono ?_
      rintro e w10 ⟨rfl, hx10⟩
      refine hK _ _ ((hx8.trans hx9).trans hx10) ?_
      clear hK K
      iterate 1 (refine wpOrdT_read (v := ?_) (by rfl) (Or.inl ⟨by rfl, fun x hx => ?_⟩) ?_; rotate_left; (· go_simp; try first | with_reducible rfl | (rw [if_neg (by omega)]; try with_reducible rfl)); try simp only [Act.put, List.setIfInBounds_toArray, List.set_cons_zero, List.set_cons_succ])
      refine wpOrdT_done ?_
      try simp only [List.drop_succ_cons, List.drop_zero]
      have hxr : Ext wr w10 := (Ext.drew wr).trans ((hx8.trans hx9).trans hx10)
      have hss : ((⟨#[40]⟩ : ByteArray) ++ sR ++ ⟨#[41]⟩ ++ sO ++ ⟨#[59]⟩ ++ sW).size = 1 + sR.size + 1 + sO.size + 1 + sW.size := by
        simp only [ByteArray.size_append]
        rfl
      obtain ⟨s1, hs1⟩ : ∃ s, (⟨#[40]⟩ : ByteArray) ++ sR ++ ⟨#[41]⟩ ++ sO ++ ⟨#[59]⟩ ++ sW = s := ⟨_, rfl⟩
      rw [hs1] at hss
      have hl2 : s1.size ≤ 400 := by omega
      have hE10 := HE.out.trans hxr
      have WS := writeStringA_c gb gb l s1 w10 (HB.out.ext hxr) (by have := HL.out; omega) (by rw [← HGB.out]; exact hE10.size)
      try rw [hs1]
      clear hss n1 n2 n3 n4 n5 hx8 hx9 hx10 hs1 HD d5 d3 dw do_ hxr
      go_wp2_with fail
      refine WS.mono ?_
      rintro e w11 ⟨rfl, hB11, hX11⟩
      have hE11 : Ext w1 w11 := ext_below hE10 HGB.out hX11
      have HL1 : Hid (1 ≤ (l ++ s1.data.toList).length ∧ (l ++ s1.data.toList).length ≤ 300 + 400 * (k + 1)) := Lib.hid (by
        have : s1.data.toList.length = s1.size := bytes_len s1
        have := HL.out
        rw [List.length_append]; omega)
      have HB11 : Hid (Bldr gb gb (l ++ s1.data.toList) w11) := Lib.hid (.inr hB11)
      have HE11 := Lib.hid hE11
      clear WS hE10 hB11 hX11 hE11
      go_wp2
      go_roundw
      case rel => exact ⟨k + 1, _, by omega, by go_num, HL1, HB11, HE11⟩
      case measure => simp [intOf]; omega
    · have hdl : decide ((k : Int) < (f.rs.length : Int)) = false := decide_eq_false (by omega)
      have hst := Tryd.Builder_String_any gb gb l wr HB.out (by rw [← HGB.out]; exact HE.out.size)
      go_wp2_with fail
      refine hst.mono ?_
      rintro e w8 ⟨rfl, hX8⟩
      have hE8 : Ext w w8 := (HX.out.trans HX1.out).trans (ext_below HE.out HGB.out hX8)
      go_wp2
      go_ret
      exact ⟨⟨_, rfl, by have := HL.out; simpa [ByteArray.size] using this.1⟩, hE8⟩
end Go.Proofs.YtnflhpgkffiloaaDoor
end
section
namespace Go.Proofs.YtnflhpgkffiloaaDoor
open Go Go.RowKit Go.Proofs
set_option maxHeartbeats 400000
theorem r8Longs_c (w : World) (A B : Option Addr) (n c k d : Nat) :
    Calls Tryd.prog 4 #[.slice A n c, .slice B k d] w fun e w' => e = .returned (.bool (decide (1048576 < n) || decide (1048576 < k))) ∧ w = w' := by
  by_cases h1 : 1048576 < n
  · have e1 : decide ((n : Int) > 1048576) = true := by simp; omega
    have HH := Lib.hid h1
    clear h1
    go_enter Tryd.func4, Tryd.ntmps4
    go_wp2
    go_ret
    exact ⟨by simp [HH.out], rfl⟩
  · have e1 : decide ((n : Int) > 1048576) = false := by simp; omega
    have HH := Lib.hid h1
    clear h1
    by_cases h2 : 1048576 < k
    · have e2 : decide ((k : Int) > 1048576) = true := by simp; omega
      have HK := Lib.hid h2
      clear h2
      go_enter Tryd.func4, Tryd.ntmps4
      go_wp2
      go_ret
      exact ⟨by simp [HH.out, HK.out], rfl⟩
    · have e2 : decide ((k : Int) > 1048576) = false := by simp; omega
      have HK := Lib.hid h2
      clear h2
      go_enter Tryd.func4, Tryd.ntmps4
      go_wp2
      go_ret
      exact ⟨by simp [HH.out, HK.out], rfl⟩
end Go.Proofs.YtnflhpgkffiloaaDoor
end
section
set_option linter.unusedSimpArgs false
set_option linter.unusedVariables false
namespace Go.Proofs.YtnflhpgkffiloaaDoor
open Go Go.RowKit Go.Proofs
set_option maxHeartbeats 400000
theorem r8Same_c (w : World) (u v : Value) (xs ys : List Int) (ha : Ints w u xs) (hb : Ints w v ys) :
    Calls Tryd.prog 23 #[u, v] w fun e w' => e = .returned (.bool (lEq xs ys)) ∧ Ext w w' := by
  obtain ⟨A, ca, rfl, h1, h1'⟩ := ha.form
  obtain ⟨B, cb, rfl, h2, h2'⟩ := hb.form
  by_cases hl : xs.length = ys.length
  · have hl1 : ((xs.length : Int) != (ys.length : Int)) = false := by simp [hl]
    have hlle : xs.length ≤ ys.length := by omega
    have hlge : ys.length ≤ xs.length := by omega
    clear hl
    go_enter Tryd.func23, Tryd.ntmps23
    go_wp2
    go_loopw [5] (fun i wr => ∃ k : Nat, k ≤ xs.length ∧ i = .int .i64 k ∧ Ext w wr ∧ takeEq xs ys k) (fun i _ => xs.length - (intOf i).toNat)
    case atStart => exact ⟨0, Nat.zero_le _, rfl, Ext.refl _, rfl⟩
    case round =>
      obtain ⟨k, hk, rfl, hx, ht⟩ := hrel
      by_cases hlt : k < xs.length
      · obtain ⟨b, off, rfl, hc⟩ := ha.at hlt
        obtain ⟨b', off', rfl, hc'⟩ := hb.at (k := k) (by omega)
        have c0 := hx.cell (hc k hlt)
        have c0' := hx.cell (hc' k (by omega))
        clear hc hc' ha hb
        by_cases he : xs[k] = ys[k]
        · have H : (xs[k] != ys[k]) = false := by simp [he]
          have he' := Lib.hid he
          clear he
          go_wp2
          go_quiet (fail)
          go_wp2
          go_roundw
          case rel => exact ⟨k + 1, by omega, by go_num, hx.trans (Ext.drewN _ _), takeEq_step ht hlt (by omega) he'.out⟩
          case measure => simp [intOf]; omega
        · have H : (xs[k] != ys[k]) = true := by simp [he]
          go_wp2
          go_quiet (fail)
          go_wp2
          go_ret
          exact ⟨by simp [lEq_false (ne_of_get hlt (by omega) he)], hx.trans (Ext.drewN _ _)⟩
      · go_wp2
        go_ret
        exact ⟨by simp [lEq_true (eq_of_takeEq ht (by omega) (by omega))], hx⟩
  · have hl1 : ((xs.length : Int) != (ys.length : Int)) = true := by simp; omega
    go_enter Tryd.func23, Tryd.ntmps23
    go_wp2
    go_ret
    exact ⟨by simp [lEq_false (show ¬ xs = ys from fun h => hl (by rw [h]))], Ext.refl _⟩
end Go.Proofs.YtnflhpgkffiloaaDoor
end
