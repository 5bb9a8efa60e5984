/- Contracts: the number of a decimal form, and the rule of a text. The texts are those that the program makes; the library's table is as its text lays it.
Contract: the rule of a text. The text is that of a rule of a valid machine; the library's table is as its text lays it. -/
import Derived.Test.YtcebkjiafjmjfaaGreatDoorP09
section
set_option linter.unusedSimpArgs false
set_option linter.unusedVariables false
namespace Go.Proofs.YtcebkjiafjmjfaaGreatDoor
open Go Go.RowKit Go.Proofs
set_option maxHeartbeats 400000
theorem itoa_nat {n : Int} (h0 : 0 ≤ n) : Lib.itoa n = Lib.decDigits n.toNat := by
  unfold Lib.itoa
  rw [if_neg (by omega)]
theorem itoa_len {n : Int} (h0 : 0 ≤ n) (h1 : n ≤ 1000000) : (Lib.itoa n).length ≤ 18 := by
  rw [itoa_nat h0]
  exact digits_len _ (by omega)
theorem trim_itoa {n : Int} (h0 : 0 ≤ n) : Lib.trimPrefix (Lib.itoa n) [45] = Lib.itoa n := by
  have hd := itoa_dig h0
  cases hl : Lib.itoa n with
  | nil => rfl
  | cons c r =>
    have hc := hd c (by rw [hl]; exact List.mem_cons_self)
    have hne : ¬ (45 : UInt8) = c := fun e => by subst e; exact absurd hc (by decide)
    have h1 : [(45 : UInt8)].isPrefixOf (c :: r) = false := by
      show (45 == c && _) = false
      rw [beq_eq_false_iff_ne.2 hne]
      rfl
    unfold Lib.trimPrefix Lib.hasPrefix
    rw [h1]
    rfl
set_option maxRecDepth 20000 in
set_option maxHeartbeats 4000000 in
theorem ReadDecimal_c (n : Int) (w : World) (h0 : 0 ≤ n) (h1 : n ≤ 1000000) (hT : Tab w) :
    Calls Tryz.prog 28 #[.string (itoaS n)] w fun e w' => e = .returned (.tuple #[.int .i64 n, .bool true]) ∧ Ext w w' := by
  have hlen := itoa_len h0 h1
  have hsz : (itoaS n).size ≤ 9223372036854775806 := by
    show (Lib.itoa n).toArray.size ≤ _
    simp; omega
  have hp := Tryz.strconv_ParseInt_10_at64_ok (itoaS n) hsz n (parse_itoa h0 h1) w
  go_enter Tryz.func28, Tryz.ntmps28
  go_wp2_with fail
  refine hp.mono ?_
  rintro e w1 ⟨rfl, hw1⟩
  have hx1 : Ext w w1 := by
    rcases hw1 with rfl | ⟨t, rfl⟩
    · exact Ext.refl _
    · exact Lib.bytesWorld_below _ _ _
  clear hw1 hp
  go_wp2_with fail
  refine (Decimal_c n w1 (by omega) h1 (hT.ext hx1)).mono ?_
  rintro e w2 ⟨rfl, hx2⟩
  have hX2 := hx1.trans hx2
  have htr := Tryz.strings_TrimPrefix (itoaS n) ⟨#[45]⟩ w2
  rw [show Lib.trimPrefix (itoaS n).data.toList (⟨#[45]⟩ : ByteArray).data.toList = Lib.itoa n from trim_itoa h0] at htr
  have hs18 : ¬ (18 : Int) < ((itoaS n).size : Int) := by
    have : (itoaS n).size = (Lib.itoa n).length := by show (Lib.itoa n).toArray.size = _; simp
    omega
  have HT := Lib.hid htr
  clear htr
  go_wp2_with fail
  refine HT.out.mono ?_
  rintro e w3 ⟨rfl, rfl⟩
  have hs19 : ¬ (18 : Int) < (((⟨(Lib.itoa n).toArray⟩ : ByteArray).size : Nat) : Int) := by
    have := itoaS_size h0 h1
    show ¬ (18 : Int) < ((itoaS n).size : Int)
    omega
  clear hs18
  go_wp2
  exact bodyPost_ret (v := .tuple #[.int .i64 n, .bool true]) (by simp [results, Tryz.results28, go_sem]) rfl ⟨rfl, hX2⟩
end Go.Proofs.YtcebkjiafjmjfaaGreatDoor
end
section
set_option linter.unusedSimpArgs false
set_option linter.unusedVariables false
namespace Go.Proofs.YtcebkjiafjmjfaaGreatDoor
open Go Go.RowKit Go.Proofs
set_option maxHeartbeats 400000
theorem ascii_of {l : List UInt8} (h : ∀ c ∈ l, inRule c = true) (j : Nat) (b : UInt8) (hb : (bsS l).data.toList[j]? = some b) : b.toNat < 128 := by
  have hm : b ∈ l := List.mem_of_getElem? hb
  have := h b hm
  simp only [inRule, isDig, Bool.or_eq_true, Bool.and_eq_true, decide_eq_true_eq, beq_iff_eq, UInt8.le_iff_toNat_le] at this
  rcases this with ((⟨h1, h2⟩ | rfl) | rfl) | rfl
  · have : (57 : UInt8).toNat = 57 := rfl
    omega
  · decide
  · decide
  · decide
theorem bs_extract (l : List UInt8) (a b : Nat) : (bsS l).extract a b = bsS ((l.drop a).take (b - a)) := by
  apply ByteArray.ext
  apply Array.toList_inj.1
  exact Lib.extract_data _ _ _
theorem bs_size (l : List UInt8) : (bsS l).size = l.length := by show l.toArray.size = _; simp
theorem bs_get (l : List UInt8) (k : Nat) (h : k < (bsS l).size) (h' : k < l.length) : (bsS l)[k]'h = l[k]'h' := by
  show l.toArray[k]'_ = _
  simp
/-- The text of a rule in parts. -/
theorem rule_parts {r : RuleD} (hr : r ≠ noR) : ∃ (k : Nat) (hk : k < (bsS (ruleT r)).size), (Lib.itoa r.w).length = k ∧ (bsS (ruleT r))[k] = (if r.m < 0 then 76 else 82) ∧ (bsS (ruleT r)).extract 0 k = itoaS r.w ∧ (bsS (ruleT r)).extract (k + 1) (bsS (ruleT r)).size = itoaS r.n := by
  have e : ruleT r = Lib.itoa r.w ++ (if r.m < 0 then 76 else 82) :: Lib.itoa r.n := by unfold ruleT; rw [if_neg hr]
  have hl : (Lib.itoa r.w).length < (ruleT r).length := by rw [e]; simp
  refine ⟨(Lib.itoa r.w).length, by rw [bs_size]; exact hl, rfl, ?_, ?_, ?_⟩
  · rw [bs_get _ _ _ hl]
    have : (ruleT r)[(Lib.itoa r.w).length]? = some (if r.m < 0 then 76 else 82) := by rw [e, List.getElem?_append_right (Nat.le_refl _), Nat.sub_self]; rfl
    rw [List.getElem?_eq_getElem hl] at this
    exact Option.some.inj this
  · rw [bs_extract, e]
    simp
    rfl
  · rw [bs_extract, bs_size, e]
    have : (Lib.itoa r.w ++ (if r.m < 0 then 76 else 82) :: Lib.itoa r.n).drop ((Lib.itoa r.w).length + 1) = Lib.itoa r.n := by
      rw [List.drop_append, List.drop_of_length_le (by omega), show (Lib.itoa r.w).length + 1 - (Lib.itoa r.w).length = 1 by omega]
      rfl
    rw [this]
    show bsS _ = bsS _
    congr 1
    apply List.take_of_length_le
    simp
    omega
set_option maxRecDepth 20000 in
set_option maxHeartbeats 4000000 in
theorem readRule_c (r : RuleD) (sy st : Int) (w : World) (h : ruleOk sy st r = true) (hs : sy ≤ 6) (ht : st ≤ 1000) (hT : Tab w) :
    Calls Tryz.prog 21 #[.string (bsS (ruleT r))] w fun e w' => e = .returned (.agg #[.int .i64 r.w, .int .i64 r.m, .int .i64 r.n]) ∧ Ext w w' := by
  obtain ⟨W, hW⟩ : ∃ W, w.alloc (.cells #[.int .i64 0, .int .i64 0, .int .i64 0] 54) = W := ⟨_, rfl⟩
  have hX : Ext w W := by rw [← hW]; exact Ext.alloc _ _
  have bR : Blk W w.heap.size 54 #[.int .i64 0, .int .i64 0, .int .i64 0] := by rw [← hW]; exact Blk.new _ _ _ _ rfl
  have hsz : (bsS (ruleT r)).size ≤ 40 := by
    have e : (bsS (ruleT r)).size = (ruleT r).length := by show (ruleT r).toArray.size = _; simp
    rw [e]
    unfold ruleT
    by_cases hr : r = noR
    · rw [if_pos hr]; decide
    · rw [if_neg hr]
      have hq := h
      simp only [ruleOk, decide_eq_false hr, Bool.false_or, Bool.and_eq_true] at hq
      have h1 := inB_iff.1 hq.1.1
      have h2 := inB_iff.1 hq.2
      have l1 := itoa_len (n := r.w) (by omega) (by omega)
      have l2 := itoa_len (n := r.n) (by omega) (by omega)
      simp
      omega
  have hi := Tryz.strings_IndexAny_laid (bsS (ruleT r)) ⟨#[76, 82]⟩ W (by omega) (by decide) (fun j b hb => ascii_of (ruleT_bytes h) j b hb) (by
    intro j b hb
    match j, hb with
    | 0, hb => simp at hb; subst hb; decide
    | 1, hb => simp at hb; subst hb; decide
    | j + 2, hb => simp at hb)
  go_enter Tryz.func21, Tryz.ntmps21
  go_wp2_with fail
  refine hi.mono ?_
  rintro e w1 ⟨rfl, hx1⟩
  have hx1 : Ext W w1 := hx1
  have hX1 := hX.trans hx1
  have bR1 := bR.ext hx1
  by_cases hr : r = noR
  · subst hr
    rw [rule_none]
    go_wp2_with fail
    refine (noRule_c w1).mono ?_
    rintro e w2 ⟨rfl, hx2⟩
    have bR2 := bR1.ext hx2
    have g0 := bR2.cell 0
    have g1 := bR2.cell 1
    have g2 := bR2.cell 2
    have f := bR2.frozen
    have d := (((bR2.set_ 0 (.int .i64 0)).set_ 1 (.int .i64 0)).set_ 2 (.int .i64 (-1))).cell
    simp only [List.getElem?_toArray, List.getElem?_cons_zero, List.getElem?_cons_succ] at g0 g1 g2
    have HXF := Lib.hid (((((hX1.trans hx2).setCell (p := ⟨w.heap.size, 0, none⟩) (Nat.le_refl _) (.int .i64 0)).setCell (p := ⟨w.heap.size, 1, none⟩) (Nat.le_refl _) (.int .i64 0)).setCell (p := ⟨w.heap.size, 2, none⟩) (Nat.le_refl _) (.int .i64 (-1))))
    go_wp2
    exact bodyPost_ret (v := .agg #[.int .i64 0, .int .i64 0, .int .i64 (-1)]) (by simp [results, Tryz.results21, go_sem, d]) rfl ⟨rfl, HXF.out⟩
  · rw [rule_at h hr]
    have hq := h
    simp only [ruleOk, decide_eq_false hr, Bool.false_or, Bool.and_eq_true, Bool.or_eq_true, beq_iff_eq] at hq
    have h1 := inB_iff.1 hq.1.1
    have h2 := inB_iff.1 hq.2
    have h3 := hq.1.2
    obtain ⟨k, hk, hke, hb, e0, e1⟩ := rule_parts hr
    rw [hke]
    have hlt : w.heap.size < w1.heap.size := bR1.lt
    have hk' : (k : Int) < ((bsS (ruleT r)).size : Int) := by omega
    have hk0 : ¬ (k : Int) < 0 := by omega
    have hk1 : k + 1 ≤ (bsS (ruleT r)).size := by omega
    have hwk : IntKind.i64.wrap ((k : Int) + 1) = (k : Int) + 1 := IntWalk.i64_in _ (by omega)
    clear hi hq hke
    by_cases hm : r.m < 0
    · have hc : (bsS (ruleT r))[k] = 76 := by rw [hb, if_pos hm]
      have hmv : r.m = (-1) := by omega
      clear hb
      generalize bsS (ruleT r) = S at *
      go_wp2_with fail
      obtain ⟨V, hV⟩ : ∃ V, w1.alloc (.cells #[.int .i64 0, .int .i64 (-1), .int .i64 0] 54) = V := ⟨_, rfl⟩
      have hXV : Ext w1 V := by rw [← hV]; exact Ext.alloc _ _
      have bV : Blk V w1.heap.size 54 #[.int .i64 0, .int .i64 (-1), .int .i64 0] := by rw [← hV]; exact Blk.new _ _ _ _ rfl
      rw [hV]
      refine (ReadDecimal_c r.w V (by omega) (by omega) ((hT.ext hX1).ext hXV)).mono ?_
      rintro e w2 ⟨rfl, hx2⟩
      have hXX := hX1.trans (hXV.trans hx2)
      have b2 := bV.ext hx2
      have bR2 := bR1.ext (hXV.trans hx2)
      have g0 := b2.cell 0
      have fz := b2.frozen
      simp only [List.getElem?_toArray, List.getElem?_cons_zero, List.getElem?_cons_succ] at g0
      obtain ⟨V3, hV3⟩ : ∃ V3, w2.setCell ⟨w1.heap.size, 0, none⟩ (.int .i64 r.w) = V3 := ⟨_, rfl⟩
      have hle : w.heap.size ≤ w1.heap.size := by omega
      have hne : w.heap.size ≠ w1.heap.size := by omega
      have hX3 : Ext w V3 := by rw [← hV3]; exact hXX.setCell (p := ⟨w1.heap.size, 0, none⟩) hle _
      have b3 : Blk V3 w1.heap.size 54 #[.int .i64 r.w, .int .i64 (-1), .int .i64 0] := by rw [← hV3]; exact b2.set_ 0 _
      have bR3 : Blk V3 w.heap.size 54 #[.int .i64 0, .int .i64 0, .int .i64 0] := by rw [← hV3]; exact bR2.far (p := ⟨w1.heap.size, 0, none⟩) hne _
      clear hXX b2 bR2 bV bR1
      go_wp2_with fail
      refine (ReadDecimal_c r.n V3 (by omega) (by omega) (hT.ext hX3)).mono ?_
      rintro e w4 ⟨rfl, hx4⟩
      have hX4 := hX3.trans hx4
      have b4 := b3.ext hx4
      have bR4 := bR3.ext hx4
      clear g0 fz hV3
      have g2 := b4.cell 2
      have fz := b4.frozen
      simp only [List.getElem?_toArray, List.getElem?_cons_zero, List.getElem?_cons_succ] at g2
      obtain ⟨V5, hV5⟩ : ∃ V5, w4.setCell ⟨w1.heap.size, 2, none⟩ (.int .i64 r.n) = V5 := ⟨_, rfl⟩
      have hX5 : Ext w V5 := by rw [← hV5]; exact hX4.setCell (p := ⟨w1.heap.size, 2, none⟩) hle _
      have b5 : Blk V5 w1.heap.size 54 #[.int .i64 r.w, .int .i64 (-1), .int .i64 r.n] := by rw [← hV5]; exact b4.set_ 2 _
      have bR5 : Blk V5 w.heap.size 54 #[.int .i64 0, .int .i64 0, .int .i64 0] := by rw [← hV5]; exact bR4.far (p := ⟨w1.heap.size, 2, none⟩) hne _
      have p0 := b5.cell 0
      have p1 := b5.cell 1
      have p2 := b5.cell 2
      have r0 := bR5.cell 0
      have r1 := bR5.cell 1
      have r2 := bR5.cell 2
      have fr := bR5.frozen
      have d := (((bR5.set_ 0 (.int .i64 r.w)).set_ 1 (.int .i64 (-1))).set_ 2 (.int .i64 r.n)).cell
      simp only [List.getElem?_toArray, List.getElem?_cons_zero, List.getElem?_cons_succ] at p0 p1 p2 r0 r1 r2
      have HXF := Lib.hid (((hX5.setCell (p := ⟨w.heap.size, 0, none⟩) (Nat.le_refl _) (.int .i64 r.w)).setCell (p := ⟨w.heap.size, 1, none⟩) (Nat.le_refl _) (.int .i64 (-1))).setCell (p := ⟨w.heap.size, 2, none⟩) (Nat.le_refl _) (.int .i64 r.n))
      clear b4 bR4 b3 bR3
      go_wp2
      refine bodyPost_ret (v := .agg #[.int .i64 r.w, .int .i64 (-1), .int .i64 r.n]) (by simp [results, Tryz.results21, go_sem, d]) rfl ⟨?_, HXF.out⟩
      rw [hmv]
    · have hc : (bsS (ruleT r))[k] = 82 := by rw [hb, if_neg hm]
      have hmv : r.m = 1 := by omega
      clear hb
      generalize bsS (ruleT r) = S at *
      go_wp2_with fail
      obtain ⟨V, hV⟩ : ∃ V, w1.alloc (.cells #[.int .i64 0, .int .i64 1, .int .i64 0] 54) = V := ⟨_, rfl⟩
      have hXV : Ext w1 V := by rw [← hV]; exact Ext.alloc _ _
      have bV : Blk V w1.heap.size 54 #[.int .i64 0, .int .i64 1, .int .i64 0] := by rw [← hV]; exact Blk.new _ _ _ _ rfl
      rw [hV]
      refine (ReadDecimal_c r.w V (by omega) (by omega) ((hT.ext hX1).ext hXV)).mono ?_
      rintro e w2 ⟨rfl, hx2⟩
      have hXX := hX1.trans (hXV.trans hx2)
      have b2 := bV.ext hx2
      have bR2 := bR1.ext (hXV.trans hx2)
      have g0 := b2.cell 0
      have fz := b2.frozen
      simp only [List.getElem?_toArray, List.getElem?_cons_zero, List.getElem?_cons_succ] at g0
      obtain ⟨V3, hV3⟩ : ∃ V3, w2.setCell ⟨w1.heap.size, 0, none⟩ (.int .i64 r.w) = V3 := ⟨_, rfl⟩
      have hle : w.heap.size ≤ w1.heap.size := by omega
      have hne : w.heap.size ≠ w1.heap.size := by omega
      have hX3 : Ext w V3 := by rw [← hV3]; exact hXX.setCell (p := ⟨w1.heap.size, 0, none⟩) hle _
      have b3 : Blk V3 w1.heap.size 54 #[.int .i64 r.w, .int .i64 1, .int .i64 0] := by rw [← hV3]; exact b2.set_ 0 _
      have bR3 : Blk V3 w.heap.size 54 #[.int .i64 0, .int .i64 0, .int .i64 0] := by rw [← hV3]; exact bR2.far (p := ⟨w1.heap.size, 0, none⟩) hne _
      clear hXX b2 bR2 bV bR1
      go_wp2_with fail
      refine (ReadDecimal_c r.n V3 (by omega) (by omega) (hT.ext hX3)).mono ?_
      rintro e w4 ⟨rfl, hx4⟩
      have hX4 := hX3.trans hx4
      have b4 := b3.ext hx4
      have bR4 := bR3.ext hx4
      clear g0 fz hV3
      have g2 := b4.cell 2
      have fz := b4.frozen
      simp only [List.getElem?_toArray, List.getElem?_cons_zero, List.getElem?_cons_succ] at g2
      obtain ⟨V5, hV5⟩ : ∃ V5, w4.setCell ⟨w1.heap.size, 2, none⟩ (.int .i64 r.n) = V5 := ⟨_, rfl⟩
      have hX5 : Ext w V5 := by rw [← hV5]; exact hX4.setCell (p := ⟨w1.heap.size, 2, none⟩) hle _
      have b5 : Blk V5 w1.heap.size 54 #[.int .i64 r.w, .int .i64 1, .int .i64 r.n] := by rw [← hV5]; exact b4.set_ 2 _
      have bR5 : Blk V5 w.heap.size 54 #[.int .i64 0, .int .i64 0, .int .i64 0] := by rw [← hV5]; exact bR4.far (p := ⟨w1.heap.size, 2, none⟩) hne _
      have p0 := b5.cell 0
      have p1 := b5.cell 1
      have p2 := b5.cell 2
      have r0 := bR5.cell 0
      have r1 := bR5.cell 1
      have r2 := bR5.cell 2
      have fr := bR5.frozen
      have d := (((bR5.set_ 0 (.int .i64 r.w)).set_ 1 (.int .i64 1)).set_ 2 (.int .i64 r.n)).cell
      simp only [List.getElem?_toArray, List.getElem?_cons_zero, List.getElem?_cons_succ] at p0 p1 p2 r0 r1 r2
      have HXF := Lib.hid (((hX5.setCell (p := ⟨w.heap.size, 0, none⟩) (Nat.le_refl _) (.int .i64 r.w)).setCell (p := ⟨w.heap.size, 1, none⟩) (Nat.le_refl _) (.int .i64 1)).setCell (p := ⟨w.heap.size, 2, none⟩) (Nat.le_refl _) (.int .i64 r.n))
      clear b4 bR4 b3 bR3
      go_wp2
      refine bodyPost_ret (v := .agg #[.int .i64 r.w, .int .i64 1, .int .i64 r.n]) (by simp [results, Tryz.results21, go_sem, d]) rfl ⟨?_, HXF.out⟩
      rw [hmv]
end Go.Proofs.YtcebkjiafjmjfaaGreatDoor
end
