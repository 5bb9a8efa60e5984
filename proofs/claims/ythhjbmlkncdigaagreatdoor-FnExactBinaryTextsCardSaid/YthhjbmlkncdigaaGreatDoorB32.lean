/- Contracts: the reference's symbols of codes, in order and turned round.
Contract of the reference's BinaryTexts.
Contracts of the laws' marks on lists of texts, and of their comparing. The marks are below a million. -/
import Derived.Test.YthhjbmlkncdigaaGreatDoorB26
import Derived.Test.YthhjbmlkncdigaaGreatDoorB31
import Derived.Test.YthhjbmlkncdigaaGreatDoorB09
import Derived.Test.YthhjbmlkncdigaaGreatDoorB21
import Derived.Test.YthhjbmlkncdigaaGreatDoorB22
import Derived.Test.YthhjbmlkncdigaaGreatDoorB29
import Derived.Test.YthhjbmlkncdigaaGreatDoorB04
import Derived.Deep.CutBlock
import Derived.Deep.DeepCutAuto
import Derived.Test.YthhjbmlkncdigaaGreatDoorB02
import Derived.Test.YthhjbmlkncdigaaGreatDoorB17
section
set_option linter.unusedSimpArgs false
set_option linter.unusedVariables false
namespace Go.Proofs.YthhjbmlkncdigaaGreatDoor
open Go Go.RowKit Go.Proofs Go.Maps
set_option maxHeartbeats 400000
theorem grpRo_range {side : List Int} (h : ∀ z ∈ side, 0 ≤ z ∧ z ≤ 1) (k B n : Nat) (hn : n ≤ 3) : 0 ≤ numB (fun t => side.getD (k + (B - 1 - t)) 0) n ∧ numB (fun t => side.getD (k + (B - 1 - t)) 0) n ≤ 7 := by
  refine numB_range (fun i => ?_) n hn
  by_cases hi : k + (B - 1 - i) < side.length
  · rw [List.getD_eq_getElem?_getD, List.getElem?_eq_getElem hi]
    exact h _ (List.getElem_mem hi)
  · rw [List.getD_eq_getElem?_getD, List.getElem?_eq_none (by omega)]
    exact ⟨Int.le_refl _, by decide⟩
set_option maxRecDepth 20000 in
set_option maxHeartbeats 4000000 in
theorem l13SymbolsF_c (v : Value) (side : List Int) (B : Nat) (sy : Int) (w : World) (h : Ints w v side) (hz : ∀ z ∈ side, 0 ≤ z ∧ z ≤ 1) (hB : B = 1 ∨ B = 2 ∨ B = 3) (hn : side.length ≤ 1000) :
    Calls Tryz.prog 24 #[v, .int .i64 (B : Int), .int .i64 sy, .bool false] w (DecRes w (decF B sy side)) := by
  obtain ⟨i0, hi, hz0, hz1, hz2⟩ := info_parts intInfo
  obtain ⟨A, c, rfl, _, _⟩ := h.form
  obtain ⟨W, hW⟩ : ∃ W, W = w.alloc (.cells #[] 2) := ⟨_, rfl⟩
  have hXW : Ext w W := by rw [hW]; exact Ext.alloc _ _
  have ho : OwnInts w.heap.size W (.slice (some ⟨w.heap.size, 0, none⟩) 0 0) ((List.range 0).map (grpF B side)) := by
    rw [hW]
    exact World.ownsRow_made (base := w.heap.size) (e := 2) (size := 1) w #[] 0 (by simp) (by unfold maxLen; omega) (by simp [ivs])
  obtain ⟨g, hg⟩ : ∃ g, w.heap.size = g := ⟨_, rfl⟩
  have HZ := Lib.hid hz
  have HG : Hid (∀ k, k * B < side.length ↔ k < grps B side.length) := Lib.hid (fun k => grps_iff hB _ _)
  have hf := grps_fit hB side.length
  have HD : Hid (decF B sy side = decG sy ((List.range (grps B side.length)).map (grpF B side))) := Lib.hid rfl
  obtain ⟨D, hD⟩ : ∃ D, D = decF B sy side := ⟨_, rfl⟩
  rw [← hD] at HD ⊢
  clear hz hD
  obtain ⟨N, hN⟩ : ∃ N, grps B side.length = N := ⟨_, rfl⟩
  rw [hN] at HG hf HD
  clear hN
  have hB3 : B ≤ 3 ∧ 1 ≤ B := by omega
  clear hB
  rw [hg] at ho
  go_enter Tryz.func24, Tryz.ntmps24
  go_wp2_with fail
  try rw [← hW]
  try rw [hg]
  clear hW
  go_loopw [10, 11] (fun tv iv wr => ∃ i : Nat, i ≤ N ∧ iv = .int .i64 ((i * B : Nat) : Int) ∧ OwnInts g wr tv ((List.range i).map (grpF B side)) ∧ Hid (∀ x ∈ (List.range i).map (grpF B side), x < sy) ∧ Ext w wr) (fun _ iv _ => N * B + B - (intOf iv).toNat)
  case atStart => exact ⟨0, Nat.zero_le _, by simp, ho, Lib.hid (by simp), hXW⟩
  case round =>
    clear ho
    obtain ⟨i, hiN, rfl, ho, hall, hXr⟩ := hrel
    obtain ⟨At, ct, rfl, _, _⟩ := ho.ints.form
    rename World => wr
    have hk : i * B ≤ 1003 := by have : i * B ≤ N * B := Nat.mul_le_mul_right _ hiN; omega
    by_cases hlt : i < N
    · have hkl : i * B < side.length := (HG.out i).2 hlt
      have HT : Hid ((List.range (i + 1)).map (grpF B side) = (List.range i).map (grpF B side) ++ [grpF B side i]) := Lib.hid (nexts_snoc _ _)
      have HGF : Hid (grpF B side i = numB (fun t => side.getD (i * B + t) 0) B) := Lib.hid rfl
      have HS : Hid ((i + 1) * B = i * B + B) := Lib.hid (Nat.succ_mul _ _)
      have hLn : ((List.range i).map (grpF B side)).length ≤ 1000 := by simp; omega
      have HI1 : Hid ((i + 1) * B ≤ N * B) := Lib.hid (Nat.mul_le_mul_right _ hlt)
      generalize hk0 : i * B = k at *
      clear hk0
      go_wp2
      go_loopw [12, 13] (fun sv jv wi => ∃ j : Nat, j ≤ B ∧ jv = .int .i64 (j : Int) ∧ sv = .int .i64 (numB (fun t => side.getD (k + t) 0) j) ∧ wi = wr) (fun _ jv _ => B - (intOf jv).toNat)
      case atStart => exact ⟨0, Nat.zero_le _, rfl, rfl, rfl⟩
      case round =>
        obtain ⟨j, hj, rfl, rfl, rfl⟩ := hrel
        by_cases hjl : j < B
        · obtain ⟨n0, n7⟩ := grpTo_range HZ.out k j (by omega)
          have HN1 : Hid (numB (fun t => side.getD (k + t) 0) (j + 1) = 2 * numB (fun t => side.getD (k + t) 0) j + side.getD (k + j) 0) := Lib.hid rfl
          generalize numB (fun t => side.getD (k + t) 0) j = s at *
          by_cases hin : k + j < side.length
          · obtain ⟨bp, op, rfl, hc⟩ := h.at hin
            have c0 := hXr.cell (hc (k + j) hin)
            have hz1 := HZ.out side[k + j] (List.getElem_mem hin)
            have HN2 : Hid (numB (fun t => side.getD (k + t) 0) (j + 1) = s * 2 + side[k + j]) := by
              unfold Hid; rw [HN1.out, List.getD_eq_getElem?_getD, List.getElem?_eq_getElem hin, Int.mul_comm]; rfl
            clear HN1
            generalize side[k + j] = z at *
            go_wp2
            go_roundw
            case rel => exact ⟨j + 1, by omega, by go_num, by rw [HN2.out], by trivial⟩
            case measure => simp [intOf]; omega
          · have HN2 : Hid (numB (fun t => side.getD (k + t) 0) (j + 1) = s * 2) := by
              unfold Hid; rw [HN1.out, List.getD_eq_getElem?_getD, List.getElem?_eq_none (by omega), Int.mul_comm]; simp
            clear HN1
            go_wp2
            go_roundw
            case rel => exact ⟨j + 1, by omega, by go_num, by rw [HN2.out], by trivial⟩
            case measure => simp [intOf]; omega
        · obtain rfl : j = B := by omega
          obtain ⟨n0, n7⟩ := grpTo_range HZ.out k j hB3.1
          generalize hsx : numB (fun t => side.getD (k + t) 0) j = s at *
          clear hsx
          rw [HGF.out] at HT
          by_cases hs : s < sy
          · have ho' := ownsRow_ext ho (Ext.alloc wr (.cells #[.int .i64 s] 2))
            generalize hls : (List.range i).map (grpF j side) = ls at *
            go_wp2_with (at_builtin; refine wpList_append_own_at _ rfl _ _ 25 rfl g 2 i0 (.int .i64 0) 1 8 Tryz.underlying25 hi hz0 hz1 hz2 rfl (by decide) _ _ _ rfl ho' ⟨wr.heap.size, 0, none⟩ 1 1 [.int .i64 s] rfl rfl ?c1 ?c2 ?c3 ?c4 ?c5 ?_)
            case c1 =>
              intro j u hj
              match j, hj with
              | 0, hj => simp at hj; subst hj; simp [Addr.add]
            case c2 => intro u hu; simp at hu; rcases hu with rfl; rfl
            case c3 => unfold maxLen; omega
            case c4 => have := hXr.size; omega
            case c5 => have := hXr.size; simp; omega
            intro v' w5 hown' hgrow _ _
            have HO : Hid (OwnInts g w5 v' ((List.range (i + 1)).map (grpF j side))) := by
              unfold Hid OwnInts
              rw [HT.out, ivs_append, List.length_append]
              exact hown'
            have HA : Hid (∀ x ∈ (List.range (i + 1)).map (grpF j side), x < sy) := by
              unfold Hid
              rw [HT.out]
              intro x hx
              rcases List.mem_append.1 hx with hx | hx
              · exact hall.out x hx
              · rw [List.mem_singleton.1 hx]; exact hs
            have HX5 : Hid (Ext w w5) := Lib.hid ((hXr.trans (Ext.alloc wr _)).grown hgrow (fun b hb => by have := (ho'.lt b hb).1; omega))
            clear hown' hgrow ho'
            go_wp2
            go_roundw
            case rel => exact ⟨i + 1, by omega, by rw [HS.out]; go_num, HO.out, HA, HX5.out⟩
            case measure => simp [intOf]; have := HI1.out; rw [HS.out] at this; omega
          · have HF : Hid (D = none) := by
              unfold Hid
              rw [HD.out]
              unfold decG
              rw [if_neg]
              intro ha
              refine hs ?_
              rw [← HGF.out]
              exact ha _ (List.mem_map.2 ⟨i, List.mem_range.2 hlt, rfl⟩)
            go_wp2
            go_ret2
            exact ⟨.inl ⟨HF.out, rfl⟩, hXr⟩
    · obtain rfl : i = N := by omega
      have hkl : ¬ i * B < side.length := fun hh => hlt ((HG.out i).1 hh)
      have HF : Hid (D = some (trim ((List.range i).map (grpF B side)))) := by
        unfold Hid
        rw [HD.out]
        unfold decG
        rw [if_pos hall.out]
      generalize hk0 : i * B = k at *
      clear hk0
      have hlen : ((List.range i).map (grpF B side)).length ≤ 1048576 := by simp; omega
      generalize (List.range i).map (grpF B side) = ls at *
      go_wp2_with fail
      refine (l05Trim_c _ ls wr ho.ints hlen).mono ?_
      rintro e w9 ⟨u9, rfl, o9, hx9⟩
      obtain ⟨A9, c9, rfl, _, _⟩ := o9.ints.form
      have ho2 : OwnInts g w9 (.slice A9 (trim ls).length c9) (trim ls) := ownsRow_base o9 (by have := hXr.size; omega)
      go_wp2
      go_ret2
      exact ⟨.inr ⟨_, _, HF.out, rfl, by rw [hg]; exact ho2⟩, hXr.trans hx9⟩
set_option maxRecDepth 20000 in
set_option maxHeartbeats 4000000 in
theorem l13SymbolsR_c (v : Value) (side : List Int) (B : Nat) (sy : Int) (w : World) (h : Ints w v side) (hz : ∀ z ∈ side, 0 ≤ z ∧ z ≤ 1) (hB : B = 1 ∨ B = 2 ∨ B = 3) (hn : side.length ≤ 1000) :
    Calls Tryz.prog 24 #[v, .int .i64 (B : Int), .int .i64 sy, .bool true] w (DecRes w (decR B sy side)) := by
  obtain ⟨i0, hi, hz0, hz1, hz2⟩ := info_parts intInfo
  obtain ⟨A, c, rfl, _, _⟩ := h.form
  obtain ⟨W, hW⟩ : ∃ W, W = w.alloc (.cells #[] 2) := ⟨_, rfl⟩
  have hXW : Ext w W := by rw [hW]; exact Ext.alloc _ _
  have ho : OwnInts w.heap.size W (.slice (some ⟨w.heap.size, 0, none⟩) 0 0) ((List.range 0).map (grpR B side)) := by
    rw [hW]
    exact World.ownsRow_made (base := w.heap.size) (e := 2) (size := 1) w #[] 0 (by simp) (by unfold maxLen; omega) (by simp [ivs])
  obtain ⟨g, hg⟩ : ∃ g, w.heap.size = g := ⟨_, rfl⟩
  have HZ := Lib.hid hz
  have HG : Hid (∀ k, k * B < side.length ↔ k < grps B side.length) := Lib.hid (fun k => grps_iff hB _ _)
  have hf := grps_fit hB side.length
  have HD : Hid (decR B sy side = decG sy ((List.range (grps B side.length)).map (grpR B side))) := Lib.hid rfl
  obtain ⟨D, hD⟩ : ∃ D, D = decR B sy side := ⟨_, rfl⟩
  rw [← hD] at HD ⊢
  clear hz hD
  obtain ⟨N, hN⟩ : ∃ N, grps B side.length = N := ⟨_, rfl⟩
  rw [hN] at HG hf HD
  clear hN
  have hB3 : B ≤ 3 ∧ 1 ≤ B := by omega
  clear hB
  rw [hg] at ho
  go_enter Tryz.func24, Tryz.ntmps24
  go_wp2_with fail
  try rw [← hW]
  try rw [hg]
  clear hW
  go_loopw [10, 11] (fun tv iv wr => ∃ i : Nat, i ≤ N ∧ iv = .int .i64 ((i * B : Nat) : Int) ∧ OwnInts g wr tv ((List.range i).map (grpR B side)) ∧ Hid (∀ x ∈ (List.range i).map (grpR B side), x < sy) ∧ Ext w wr) (fun _ iv _ => N * B + B - (intOf iv).toNat)
  case atStart => exact ⟨0, Nat.zero_le _, by simp, ho, Lib.hid (by simp), hXW⟩
  case round =>
    clear ho
    obtain ⟨i, hiN, rfl, ho, hall, hXr⟩ := hrel
    obtain ⟨At, ct, rfl, _, _⟩ := ho.ints.form
    rename World => wr
    have hk : i * B ≤ 1003 := by have : i * B ≤ N * B := Nat.mul_le_mul_right _ hiN; omega
    by_cases hlt : i < N
    · have hkl : i * B < side.length := (HG.out i).2 hlt
      have HT : Hid ((List.range (i + 1)).map (grpR B side) = (List.range i).map (grpR B side) ++ [grpR B side i]) := Lib.hid (nexts_snoc _ _)
      have HGF : Hid (grpR B side i = numB (fun t => side.getD (i * B + (B - 1 - t)) 0) B) := Lib.hid rfl
      have HS : Hid ((i + 1) * B = i * B + B) := Lib.hid (Nat.succ_mul _ _)
      have hLn : ((List.range i).map (grpR B side)).length ≤ 1000 := by simp; omega
      have HI1 : Hid ((i + 1) * B ≤ N * B) := Lib.hid (Nat.mul_le_mul_right _ hlt)
      generalize hk0 : i * B = k at *
      clear hk0
      go_wp2
      go_loopw [12, 13] (fun sv jv wi => ∃ j : Nat, j ≤ B ∧ jv = .int .i64 (j : Int) ∧ sv = .int .i64 (numB (fun t => side.getD (k + (B - 1 - t)) 0) j) ∧ wi = wr) (fun _ jv _ => B - (intOf jv).toNat)
      case atStart => exact ⟨0, Nat.zero_le _, rfl, rfl, rfl⟩
      case round =>
        obtain ⟨j, hj, rfl, rfl, rfl⟩ := hrel
        by_cases hjl : j < B
        · obtain ⟨n0, n7⟩ := grpRo_range HZ.out k B j (by omega)
          obtain ⟨q, hq⟩ : ∃ q : Nat, k + (B - 1 - j) = q := ⟨_, rfl⟩
          have hqi : (k : Int) + (B : Int) - 1 - (j : Int) = (q : Int) := by omega
          have HN1 : Hid (numB (fun t => side.getD (k + (B - 1 - t)) 0) (j + 1) = 2 * numB (fun t => side.getD (k + (B - 1 - t)) 0) j + side.getD q 0) := Lib.hid (by rw [← hq]; rfl)
          generalize numB (fun t => side.getD (k + (B - 1 - t)) 0) j = s at *
          by_cases hin : q < side.length
          · obtain ⟨bp, op, rfl, hc⟩ := h.at hin
            have c0 := hXr.cell (hc q hin)
            have hz1 := HZ.out side[q] (List.getElem_mem hin)
            have HN2 : Hid (numB (fun t => side.getD (k + (B - 1 - t)) 0) (j + 1) = s * 2 + side[q]) := by
              unfold Hid; rw [HN1.out, List.getD_eq_getElem?_getD, List.getElem?_eq_getElem hin, Int.mul_comm]; rfl
            clear HN1
            generalize side[q] = z at *
            go_wp2
            go_roundw
            case rel => exact ⟨j + 1, by omega, by go_num, by rw [HN2.out], by trivial⟩
            case measure => simp [intOf]; omega
          · have HN2 : Hid (numB (fun t => side.getD (k + (B - 1 - t)) 0) (j + 1) = s * 2) := by
              unfold Hid; rw [HN1.out, List.getD_eq_getElem?_getD, List.getElem?_eq_none (by omega), Int.mul_comm]; simp
            clear HN1
            go_wp2
            go_roundw
            case rel => exact ⟨j + 1, by omega, by go_num, by rw [HN2.out], by trivial⟩
            case measure => simp [intOf]; omega
        · obtain rfl : j = B := by omega
          obtain ⟨n0, n7⟩ := grpRo_range HZ.out k j j hB3.1
          generalize hsx : numB (fun t => side.getD (k + (j - 1 - t)) 0) j = s at *
          clear hsx
          rw [HGF.out] at HT
          by_cases hs : s < sy
          · have ho' := ownsRow_ext ho (Ext.alloc wr (.cells #[.int .i64 s] 2))
            generalize hls : (List.range i).map (grpR j side) = ls at *
            go_wp2_with (at_builtin; refine wpList_append_own_at _ rfl _ _ 25 rfl g 2 i0 (.int .i64 0) 1 8 Tryz.underlying25 hi hz0 hz1 hz2 rfl (by decide) _ _ _ rfl ho' ⟨wr.heap.size, 0, none⟩ 1 1 [.int .i64 s] rfl rfl ?c1 ?c2 ?c3 ?c4 ?c5 ?_)
            case c1 =>
              intro j u hj
              match j, hj with
              | 0, hj => simp at hj; subst hj; simp [Addr.add]
            case c2 => intro u hu; simp at hu; rcases hu with rfl; rfl
            case c3 => unfold maxLen; omega
            case c4 => have := hXr.size; omega
            case c5 => have := hXr.size; simp; omega
            intro v' w5 hown' hgrow _ _
            have HO : Hid (OwnInts g w5 v' ((List.range (i + 1)).map (grpR j side))) := by
              unfold Hid OwnInts
              rw [HT.out, ivs_append, List.length_append]
              exact hown'
            have HA : Hid (∀ x ∈ (List.range (i + 1)).map (grpR j side), x < sy) := by
              unfold Hid
              rw [HT.out]
              intro x hx
              rcases List.mem_append.1 hx with hx | hx
              · exact hall.out x hx
              · rw [List.mem_singleton.1 hx]; exact hs
            have HX5 : Hid (Ext w w5) := Lib.hid ((hXr.trans (Ext.alloc wr _)).grown hgrow (fun b hb => by have := (ho'.lt b hb).1; omega))
            clear hown' hgrow ho'
            go_wp2
            go_roundw
            case rel => exact ⟨i + 1, by omega, by rw [HS.out]; go_num, HO.out, HA, HX5.out⟩
            case measure => simp [intOf]; have := HI1.out; rw [HS.out] at this; omega
          · have HF : Hid (D = none) := by
              unfold Hid
              rw [HD.out]
              unfold decG
              rw [if_neg]
              intro ha
              refine hs ?_
              rw [← HGF.out]
              exact ha _ (List.mem_map.2 ⟨i, List.mem_range.2 hlt, rfl⟩)
            go_wp2
            go_ret2
            exact ⟨.inl ⟨HF.out, rfl⟩, hXr⟩
    · obtain rfl : i = N := by omega
      have hkl : ¬ i * B < side.length := fun hh => hlt ((HG.out i).1 hh)
      have HF : Hid (D = some (trim ((List.range i).map (grpR B side)))) := by
        unfold Hid
        rw [HD.out]
        unfold decG
        rw [if_pos hall.out]
      generalize hk0 : i * B = k at *
      clear hk0
      have hlen : ((List.range i).map (grpR B side)).length ≤ 1048576 := by simp; omega
      generalize (List.range i).map (grpR B side) = ls at *
      go_wp2_with fail
      refine (l05Trim_c _ ls wr ho.ints hlen).mono ?_
      rintro e w9 ⟨u9, rfl, o9, hx9⟩
      obtain ⟨A9, c9, rfl, _, _⟩ := o9.ints.form
      have ho2 : OwnInts g w9 (.slice A9 (trim ls).length c9) (trim ls) := ownsRow_base o9 (by have := hXr.size; omega)
      go_wp2
      go_ret2
      exact ⟨.inr ⟨_, _, HF.out, rfl, by rw [hg]; exact ho2⟩, hXr.trans hx9⟩
end Go.Proofs.YthhjbmlkncdigaaGreatDoor
end
section
set_option linter.unusedSimpArgs false
set_option linter.unusedVariables false
namespace Go.Proofs.YthhjbmlkncdigaaGreatDoor
open Go Go.RowKit Go.Proofs
set_option maxHeartbeats 400000
theorem MkBi.machO {base : Nat} {w : World} {bk b : Nat} {sy st : Int} {rs : List RuleD} {ps : List BP} {rv pv : Value} {vs : List Value} (h : MkBi base w bk b sy st rs ps rv pv vs) : MachO w bk ⟨sy, st, rs⟩ := by
  have k4 := h.blk.cell 4
  have k5 := h.blk.cell 5
  have k6 := h.blk.cell 6
  simp only [List.getElem?_toArray, List.getElem?_cons_zero, List.getElem?_cons_succ] at k4 k5 k6
  exact ⟨_, k4, k5, k6, h.rules.rules⟩
set_option maxRecDepth 20000 in
set_option maxHeartbeats 4000000 in
theorem specBinaryTexts_c (w : World) (m : MachD) (c : ConfD) (n : Int) (mv lv rv : Value) (hr : Rules w mv m.rules) (hl : Ints w lv c.l) (hq : Ints w rv c.r) :
    Calls Tryz.prog 6 #[.agg #[.int .i64 m.sy, .int .i64 m.st, mv], .agg #[.int .i64 c.q, lv, rv], .int .i64 n] w (TxRes w (BTxt m c n)) := by
  obtain ⟨Am, cm, rfl, _, _⟩ := hr.form
  obtain ⟨Al, cl, rfl, _, _⟩ := hl.form
  obtain ⟨Aq, cq, rfl, _, _⟩ := hq.form
  obtain ⟨k, hk⟩ : ∃ k, w.heap.size = k := ⟨_, rfl⟩
  obtain ⟨W, hW⟩ : ∃ W, W = (w.alloc (.cells #[.int .i64 m.sy, .int .i64 m.st, .slice Am m.rules.length cm] 35)).alloc (.cells #[.int .i64 c.q, .slice Al c.l.length cl, .slice Aq c.r.length cq] 37) := ⟨_, rfl⟩
  have hX : Ext w W := by rw [hW]; exact (Ext.alloc _ _).trans (Ext.alloc _ _)
  have bM : Blk W k 35 #[.int .i64 m.sy, .int .i64 m.st, .slice Am m.rules.length cm] := by rw [hW]; exact (Blk.new _ _ _ _ hk).alloc _
  have bC : Blk W (k + 1) 37 #[.int .i64 c.q, .slice Al c.l.length cl, .slice Aq c.r.length cq] := by rw [hW]; exact Blk.new _ _ _ _ (by simp [hk])
  have m0 := bM.cell 0
  have m1 := bM.cell 1
  have m2 := bM.cell 2
  have c0 := bC.cell 0
  have c1 := bC.cell 1
  have c2 := bC.cell 2
  simp only [List.getElem?_toArray, List.getElem?_cons_zero, List.getElem?_cons_succ] at m0 m1 m2 c0 c1 c2
  have hMW : MachAt W k m := ⟨_, m0, m1, m2, hr.ext hX⟩
  have hCW : ConfP W (k + 1) c := ⟨_, _, c0, c1, c2, hl.ext hX, hq.ext hX⟩
  have hTC := l19Ask_c k (k + 1) m c n W hMW hCW
  obtain ⟨v, hv⟩ : ∃ v, (machOk m && confB m c) = v := ⟨_, rfl⟩
  obtain ⟨d, hd⟩ : ∃ d, inB n 0 599 = d := ⟨_, rfl⟩
  rw [hv, hd] at hTC
  have HV := Lib.hid hv
  have HD := Lib.hid hd
  clear hv hd m0 m1 m2 c0 c1 c2
  go_enter Tryz.func6, Tryz.ntmps6
  go_wp2_with fail
  try rw [← hW]
  try rw [hk]
  clear hW
  refine hTC.mono ?_
  rintro e w1 ⟨rfl, hx1⟩
  have hX1 := hX.trans hx1
  have bM1 := bM.ext hx1
  have bC1 := bC.ext hx1
  have m0 := bM1.cell 0
  have m1 := bM1.cell 1
  have m2 := bM1.cell 2
  have c0 := bC1.cell 0
  have c1 := bC1.cell 1
  have c2 := bC1.cell 2
  simp only [List.getElem?_toArray, List.getElem?_cons_zero, List.getElem?_cons_succ] at m0 m1 m2 c0 c1 c2
  cases v with
  | false =>
    have HF : Hid (BTxt m c n [] 1) := by
      unfold Hid BTxt
      rw [HV.out]
      exact ⟨rfl, rfl⟩
    rw [show codeT false d = 1 from rfl]
    go_wp2
    go_ret2
    exact TxRes.none HF.out hX1
  | true =>
    cases d with
    | false =>
      have HF : Hid (BTxt m c n [] 2) := by
        unfold Hid BTxt
        rw [HV.out, HD.out]
        exact ⟨rfl, rfl⟩
      rw [show codeT true false = 2 from rfl]
      go_wp2
      go_ret2
      exact TxRes.none HF.out hX1
    | true =>
      rw [show codeT true true = 0 from rfl]
      have hmc : machOk m = true ∧ confB m c = true := by
        have := HV.out
        simpa [Bool.and_eq_true] using this
      have hn := inB_iff.1 HD.out
      have HM := Lib.hid hmc.1
      have HC := Lib.hid hmc.2
      clear hmc
      have HF0 : Hid (∀ L kk, (if (startBi m c).2 = 0 then ∃ s, binB m = some s ∧ TRun (binM s) (startBi m c).1 n.toNat (txtB m s) L kk else L = [] ∧ kk = (startBi m c).2) → BTxt m c n L kk) := by
        unfold Hid
        intro L kk h
        unfold BTxt
        rw [HV.out, HD.out]
        exact h
      obtain ⟨⟨⟨sq, sl, sr⟩, sc⟩, hst⟩ : ∃ R, startBi m c = R := ⟨_, rfl⟩
      have HST := Lib.hid hst
      have hFC := specBinaryConfig_c m c _ _ _ w1 HM.out HC.out (hr.ext hX1) (hl.ext hX1) (hq.ext hX1)
      rw [hst] at hFC HF0
      simp only at HF0
      clear hst hTC
      go_wp2_with fail
      refine hFC.mono ?_
      rintro e w2 ⟨⟨lv2, rv2, base2, rfl, ol2, or2⟩, hx2⟩
      simp only at ol2 or2
      obtain ⟨A2, k2, rfl, _, _⟩ := ol2.ints.form
      obtain ⟨B2, j2, rfl, _, _⟩ := or2.ints.form
      by_cases hs0 : sc = 0
      · subst hs0
        obtain ⟨W2, hW2⟩ : ∃ W2, W2 = w2.alloc (.cells #[.int .i64 sq, .slice A2 sl.length k2, .slice B2 sr.length j2] 37) := ⟨_, rfl⟩
        have hX2 : Ext w2 W2 := by rw [hW2]; exact Ext.alloc _ _
        have bS : Blk W2 w2.heap.size 37 #[.int .i64 sq, .slice A2 sl.length k2, .slice B2 sr.length j2] := by rw [hW2]; exact Blk.new _ _ _ _ rfl
        obtain ⟨s, hs, hcf⟩ := startBi_some (show (startBi m c).2 = 0 by rw [HST.out])
        rw [HST.out] at hcf
        have hE2 := hx2.trans hX2
        have hX3 := hX1.trans hE2
        have hFo := l13MakeBinary_c k m W2 (hMW.ext (hx1.trans hE2)) HM.out
        clear c0 c1 c2
        go_wp2_with fail
        try rw [← hW2]
        clear hW2
        refine hFo.mono ?_
        rintro e w3 ⟨hres, hx3⟩
        rcases hres with ⟨hn0, _⟩ | ⟨s', bk, rv3, pv3, vs3, hs', rfl, hpl, hok, l1, l2⟩
        · rw [hs] at hn0; cases hn0
        · rw [hs] at hs'
          injection hs' with hs'
          subst hs'
          have hXd := Ext.drew w3
          have hE4 := hE2.trans (hx3.trans hXd)
          have hX4 := hX1.trans hE4
          have bS4 := bS.ext (hx3.trans hXd)
          have bM4 := bM1.ext hE4
          have hok1 := (bin_ok HM.out hs).1
          have hRT : Calls Tryz.prog 22 #[.pointer (some ⟨bk, 4, none⟩), .agg #[.int .i64 sq, .slice A2 sl.length k2, .slice B2 sr.length j2], .int .i64 (n.toNat : Int)] w3.drew (TrOut w3.drew (binM s) ⟨sq, sl, sr⟩ n.toNat) :=
            l19Run_c bk (binM s) ⟨sq, sl, sr⟩ _ _ n.toNat w3.drew (hpl.machO.ext hXd) hok1 hcf (ol2.ext (hX2.trans (hx3.trans hXd))).ints (or2.ext (hX2.trans (hx3.trans hXd))).ints (by omega)
          rw [Int.toNat_of_nonneg hn.1] at hRT
          have HS := Lib.hid hs
          have HCF := Lib.hid hcf
          have g0 := bS4.cell 0
          have g1 := bS4.cell 1
          have g2 := bS4.cell 2
          simp only [List.getElem?_toArray, List.getElem?_cons_zero, List.getElem?_cons_succ] at g0 g1 g2
          clear hs hok1 hFo hFC hcf m0 m1 m2
          go_wp2_with fail
          refine wp_region_ordT 10 (readsT [0, 1, 2, 3, 4] (.stir 5 (readsT [6, 7, 8, 9] .done))) (by kernel_rfl) (by kernel_rfl) (fun _ _ _ _ _ h => h) ?_
          simp only [readsT]
          iterate 5 (refine wpOrdT_read (v := ?_) (by rfl) (Or.inl ⟨by rfl, fun x hx => ?_⟩) ?_; rotate_left; (· have a4 := hx.cell g0; have a5 := hx.cell g1; have a6 := hx.cell g2; go_simp; try with_reducible rfl); try simp only [Act.put, List.setIfInBounds_toArray, List.set_cons_zero, List.set_cons_succ])
          refine wpOrdT_keep (by rfl) (fun K hK => ?_)
          go_simp
          go_at_call 22
          refine hRT.mono ?_
          rintro e w5 (⟨T, tv, vs, hEnd, rfl, hL, hx5⟩ | ⟨hFull, rfl, hx5⟩)
          · obtain ⟨A5, c5, rfl, _, _, _⟩ := (ownsRow_row hL.own).form
            obtain ⟨NL, hNL⟩ : ∃ NL, T + 1 = NL := ⟨_, rfl⟩
            have HNL := Lib.hid hNL
            rw [hNL] at hL ⊢
            clear hNL
            have HEnd := Lib.hid hEnd
            clear hEnd
            refine hK _ _ hx5 ?_
            clear hK K
            iterate 4 (refine wpOrdT_read (v := ?_) (by rfl) (Or.inl ⟨by rfl, fun x hx => ?_⟩) ?_; rotate_left; (· go_simp; try with_reducible rfl); try simp only [Act.put, List.setIfInBounds_toArray, List.set_cons_zero, List.set_cons_succ])
            refine wpOrdT_done ?_
            try simp only [List.drop_succ_cons, List.drop_zero]
            obtain ⟨h0, hh0⟩ : ∃ h, w5.heap.size = h := ⟨_, rfl⟩
            obtain ⟨W6, hW6⟩ : ∃ W6, w5.alloc (.cells #[] 9) = W6 := ⟨_, rfl⟩
            have hX6 : Ext w5 W6 := by rw [← hW6]; exact Ext.alloc _ _
            have ho6 : W6.ownsRow h0 9 1 (.slice (some ⟨h0, 0, none⟩) 0 0) 0 (svB (firstT (binM s) ⟨sq, sl, sr⟩ (txtB m s) 0)) := by
              rw [← hW6, ← hh0]
              exact World.ownsRow_made (base := w5.heap.size) (e := 9) (size := 1) w5 #[] 0 (by simp) (by unfold maxLen; omega) (by simp)
            clear g0 g1 g2
            go_wp2_with fail
            try rw [hh0]
            try rw [hW6]
            clear hW6
            have hnl : NL ≤ 600 := by have := HEnd.out.le; have := HNL.out; omega
            obtain ⟨i0, hi, hz0, hz1, hz2⟩ := info_parts strInfoBi
            go_loopw [15, 16] (fun tv iv wr => ∃ i : Nat, i ≤ NL ∧ iv = .int .i64 (i : Int) ∧ wr.ownsRow h0 9 1 tv i (svB (firstT (binM s) ⟨sq, sl, sr⟩ (txtB m s) i)) ∧ Ext w5 wr) (fun _ iv _ => NL - (intOf iv).toNat)
            case atStart => exact ⟨0, Nat.zero_le _, rfl, ho6, hX6⟩
            case round =>
              clear ho6 hX6
              obtain ⟨i, hiN, rfl, ho, hXr⟩ := hrel
              obtain ⟨At, ct, rfl, hct, hct2, _⟩ := (ownsRow_row ho).form
              by_cases hlt : i < NL
              · have i1 : (i : Int) < (NL : Int) := by omega
                have i2 : (0 : Int) ≤ (i : Int) := by omega
                obtain ⟨gl, cL, eL, q0, q1, q2⟩ := hL.at hlt
                obtain ⟨bl, br, ol, or_⟩ := hL.sides i hlt
                injection eL with eA _ eC
                subst eA eC
                have hrun : RunsTo (binM s) ⟨sq, sl, sr⟩ i := ⟨fun j hj => HEnd.out.runs.no j (by have := HNL.out; omega), fun j hj => HEnd.out.runs.fit j (by have := HNL.out; omega)⟩
                have hcx := run_confM (bin_ok HM.out HS.out).1 HCF.out hrun
                have HSV := Lib.hid (firstT_svB (binM s) ⟨sq, sl, sr⟩ (txtB m s) i)
                obtain ⟨x, hx0⟩ : ∃ x, cfgI (binM s) ⟨sq, sl, sr⟩ i = x := ⟨_, rfl⟩
                rw [hx0] at q0 ol or_ HSV hcx
                obtain ⟨Ai, ci, ei, _, _⟩ := ol.ints.form
                obtain ⟨Bi, di, fi, _, _⟩ := or_.ints.form
                rw [ei] at q1 ol
                rw [fi] at q2 or_
                obtain ⟨⟨y0, y1⟩, ⟨b1, b2⟩, ⟨b3, b4⟩⟩ := confB_all hcx
                have HZ1 : Hid (∀ z ∈ x.l, 0 ≤ z ∧ z ≤ 1) := Lib.hid (fun z hz => by have : 0 ≤ z ∧ z ≤ 2 - 1 := b2 z hz; omega)
                have HZ2 : Hid (∀ z ∈ x.r, 0 ≤ z ∧ z ≤ 1) := Lib.hid (fun z hz => by have : 0 ≤ z ∧ z ≤ 2 - 1 := b4 z hz; omega)
                obtain ⟨ix, hix⟩ : ∃ ix : Nat, x.q = ix := ⟨x.q.toNat, by omega⟩
                have hixl : ix < s.1.length := by have : x.q < (s.1.length : Int) := y1; omega
                obtain ⟨p, hp⟩ : ∃ p, s.1[ix]? = some p := ⟨_, List.getElem?_eq_getElem hixl⟩
                have hpk : BiOk m p := (bin_ok HM.out HS.out).2 p (List.mem_of_getElem? hp)
                have HTX : Hid (txtB m s x = txtP m p x) := Lib.hid (by
                  unfold txtB
                  rw [hix, Int.toNat_natCast, List.getD_eq_getElem?_getD, hp]
                  rfl)
                have HDG : Hid (p.k = 0 → (decBi m p x).2 = 0 → CDig (decBi m p x).1) := Lib.hid (fun h0 => decBi_dig HM.out hpk h0 b1 b3 HZ1.out HZ2.out)
                have hXw5 := hX4.trans (hx5.trans hXr)
                have bMr := bM4.ext (hx5.trans hXr)
                have str := hpl.ext (hXd.trans (hx5.trans hXr))
                obtain ⟨Ap, cp, rfl⟩ := str.form
                obtain ⟨gp, Au, cu, rfl, _, _, k0, hou⟩ := str.at hp
                have x3 := str.blk.cell 3
                have m0 := bMr.cell 0
                simp only [List.getElem?_toArray, List.getElem?_cons_zero, List.getElem?_cons_succ] at x3 m0
                have hnu : 3 ≤ (encB p).length := by unfold encB; split <;> simp
                obtain ⟨gu, rfl, _, _⟩ := own_at hou (by omega)
                have kc : ∀ (q : Nat) (z : Int), (encB p)[q]? = some z → wr.cell? ⟨gu, q, none⟩ = some (.int .i64 z) := fun q z hz => by
                  have hq := (List.getElem?_eq_some_iff.1 hz).1
                  rw [World.ownsRow.cellAt hou q (by simpa using hq)]
                  simp only [ivs, List.getElem?_map, hz]
                  rfl
                have u0 := kc 0 p.k (by unfold encB; split <;> simp_all)
                have u1 := kc 1 p.a (by unfold encB; split <;> simp)
                have u2 := kc 2 p.b (by unfold encB; split <;> simp)
                obtain ⟨nu, hnl2⟩ : ∃ k, (encB p).length = k := ⟨_, rfl⟩
                rw [hnl2] at k0 hnu
                have hnu1 : (1 : Int) < (nu : Int) := by omega
                have hnu2 : (2 : Int) < (nu : Int) := by omega
                have hnu0 : (0 : Int) < (nu : Int) := by omega
                have j1 : (0 : Int) ≤ (ix : Int) := by omega
                have j2 : (ix : Int) < (s.1.length : Int) := by omega
                have zR := Ext.drew wr
                have d0 := hXr.cell q0
                rw [hix] at d0
                have d0 := zR.cell d0
                have q1 := hXr.cell q1
                have q2 := hXr.cell q2
                have v1 := zR.cell q1
                have v2 := zR.cell q2
                have d3 := zR.cell x3
                have dk := zR.cell k0
                have t0 := zR.cell u0
                have t1 := zR.cell u1
                have t2 := zR.cell u2
                have dm := zR.cell m0
                have olX := ((ol.ext hXr).ext zR).ints
                have orX := ((or_.ext hXr).ext zR).ints
                have hod := ownsRow_ext ho zR
                have hXdr := hXr.trans zR
                clear q0 q1 q2 hcx hrun hx0 hp hix b2 b4 kc hnl2 str hou y0 y1 ei fi x3 m0 k0 u0 u1 u2
                go_upto_region 15 with fail
                refine wp_region_ordT 11 (readsT [0, 1, 2, 3, 4, 5, 6, 7, 8, 9, 10] .done) (by kernel_rfl) (by kernel_rfl) (fun _ _ _ _ _ h => h) ?_
                simp only [readsT]
                iterate 11 (refine wpOrdT_read (v := ?_) (by rfl) (Or.inl ⟨by rfl, fun x hx => ?_⟩) ?_; rotate_left; (· have a_d0 := hx.cell d0; have a_d3 := hx.cell d3; have a_dk := hx.cell dk; go_simp; try with_reducible rfl); try simp only [Act.put, List.setIfInBounds_toArray, List.set_cons_zero, List.set_cons_succ])
                refine wpOrdT_done ?_
                try simp only [List.drop_succ_cons, List.drop_zero]
                change wpList _ _ _ _ _ wr.drew
                have hlow : w5.heap.size ≤ wr.drew.heap.size := hXdr.size
                clear d0 d3 dk ho hXr
                generalize wr.drew = X at *
                obtain ⟨bb, hbb⟩ : ∃ bb, decide (p.k = 0 ∧ p.b = 0) = bb := ⟨_, rfl⟩
                have HBB := Lib.hid hbb
                clear hbb
                go_upto_region 17 with fail
                go_cut [80] (fun u wx => u = .bool bb ∧ wx = X)
                case first =>
                  clear HSV HTX hod hlt HDG
                  by_cases hk : p.k = 0
                  · have e1 : (p.k == 0) = true := by simp [hk]
                    by_cases hb : p.b = 0
                    · have e2 : (p.b == 0) = true := by simp [hb]
                      have e3 : bb = true := by rw [← HBB.out]; exact decide_eq_true ⟨hk, hb⟩
                      clear hk hb HBB
                      go_wp2_with fail
                      go_meet
                      exact ⟨by rw [e3], rfl⟩
                    · have e2 : (p.b == 0) = false := by simp [hb]
                      have e3 : bb = false := by rw [← HBB.out]; exact decide_eq_false (fun hh => hb hh.2)
                      clear hk hb HBB
                      go_wp2_with fail
                      go_meet
                      exact ⟨by rw [e3], rfl⟩
                  · have e1 : (p.k == 0) = false := by simp [hk]
                    have e3 : bb = false := by rw [← HBB.out]; exact decide_eq_false (fun hh => hk hh.1)
                    clear hk HBB
                    go_wp2_with fail
                    go_meet
                    exact ⟨by rw [e3], rfl⟩
                case rest =>
                rename World => wY
                obtain ⟨rfl, rfl⟩ := hcut
                rename World => X
                go_upto_if 80 with fail
                go_cut [18] (fun u wx => u = .string (bsS (txtP m p x)) ∧ Ext X wx)
                case first =>
                  clear HSV HTX hod hlt
                  cases bb with
                  | true =>
                    have hkb := of_decide_eq_true HBB.out
                    obtain ⟨B, hB⟩ : ∃ B : Nat, bitsD m.sy = (B : Int) := ⟨(bitsD m.sy).toNat, by have := bitsD_range m.sy; omega⟩
                    have hB3 : B = 1 ∨ B = 2 ∨ B = 3 := by have := bitsD_range m.sy; omega
                    have HT : Hid (txtP m p x = if (decBi m p x).2 = 0 then confT (decBi m p x).1 else []) := Lib.hid (txtP_start hkb x)
                    have HDC : Hid (decBi m p x = match decR B m.sy x.l, decF B m.sy x.r with
                      | some l, some r => (⟨p.a, l, r⟩, 0)
                      | _, _ => (blankC, 9)) := by unfold Hid decBi; rw [hB, Int.toNat_natCast]; cases decR B m.sy x.l <;> cases decF B m.sy x.r <;> rfl
                    have HD2 := Lib.hid (HDG.out hkb.1)
                    have LB := l13Bits_c m.sy X (machOk_all HM.out).2.1
                    rw [hB] at LB
                    have zX := Ext.drew X
                    have SR := l13SymbolsR_c _ x.l B m.sy X.drew (olX.ext zX) HZ1.out hB3 (by omega)
                    have w1' := zX.cell v1
                    have w1m := zX.cell dm
                    obtain ⟨d1, hd1⟩ : ∃ d, decR B m.sy x.l = d := ⟨_, rfl⟩
                    obtain ⟨d2, hd2⟩ : ∃ d, decF B m.sy x.r = d := ⟨_, rfl⟩
                    have HD2e := Lib.hid hd2
                    rw [hd1] at SR HDC
                    rw [hd2] at HDC
                    have HB3 := Lib.hid hB3
                    clear hkb HBB HDG hB hB3 hd1 hd2 t0 t2
                    go_wp2_with fail
                    refine LB.mono ?_
                    rintro e w' ⟨rfl, rfl⟩
                    clear LB
                    go_wp2_with fail
                    refine wp_region_ordT 13 (readsT [0, 1, 2, 3, 4, 5, 6, 7] (.stir 8 (readsT [9, 10, 11, 12] .done))) (by kernel_rfl) (by kernel_rfl) (fun _ _ _ _ _ h => h) ?_
                    simp only [readsT]
                    iterate 8 (refine wpOrdT_read (v := ?_) (by rfl) (Or.inl ⟨by rfl, fun x hx => ?_⟩) ?_; rotate_left; (· have a_w1 := hx.cell w1'; have a_w1m := hx.cell w1m; go_simp; try with_reducible rfl); try simp only [Act.put, List.setIfInBounds_toArray, List.set_cons_zero, List.set_cons_succ])
                    refine wpOrdT_keep (by rfl) (fun K hK => ?_)
                    go_simp
                    go_at_call 24
                    refine SR.mono ?_
                    rintro e w6 ⟨hres, hx6⟩
                    clear SR
                    have hXA := zX.trans hx6
                    have zY := Ext.drew w6
                    have SF := l13SymbolsF_c _ x.r B m.sy w6.drew ((orX.ext hXA).ext zY) HZ2.out HB3.out (by omega)
                    rw [HD2e.out] at SF
                    have w2' := zY.cell (hXA.cell v2)
                    have w2m := zY.cell (hXA.cell dm)
                    have t1 := hXA.cell t1
                    have hXB := hXA.trans zY
                    rcases hres with ⟨rfl, rfl⟩ | ⟨l, ul, rfl, rfl, ol6⟩
                    · refine hK _ _ hx6 ?_
                      clear hK K
                      iterate 4 (refine wpOrdT_read (v := ?_) (by rfl) (Or.inl ⟨by rfl, fun x hx => ?_⟩) ?_; rotate_left; (· go_simp; try with_reducible rfl); try simp only [Act.put, List.setIfInBounds_toArray, List.set_cons_zero, List.set_cons_succ])
                      refine wpOrdT_done ?_
                      try simp only [List.drop_succ_cons, List.drop_zero]
                      have HT3 : Hid (txtP m p x = []) := Lib.hid (by rw [HT.out, HDC.out]; rfl)
                      go_upto_region 20 with fail
                      refine wp_region_ordT 13 (readsT [0, 1, 2, 3, 4, 5, 6, 7] (.stir 8 (readsT [9, 10, 11, 12] .done))) (by kernel_rfl) (by kernel_rfl) (fun _ _ _ _ _ h => h) ?_
                      simp only [readsT]
                      iterate 8 (refine wpOrdT_read (v := ?_) (by rfl) (Or.inl ⟨by rfl, fun x hx => ?_⟩) ?_; rotate_left; (· have a_w2 := hx.cell w2'; have a_w2m := hx.cell w2m; go_simp; try with_reducible rfl); try simp only [Act.put, List.setIfInBounds_toArray, List.set_cons_zero, List.set_cons_succ])
                      refine wpOrdT_keep (by rfl) (fun K hK => ?_)
                      go_simp
                      go_at_call 24
                      refine SF.mono ?_
                      rintro e w7 ⟨hres2, hx7⟩
                      clear SF
                      rcases hres2 with ⟨_, rfl⟩ | ⟨r, ur, _, rfl, or7⟩
                      · refine hK _ _ hx7 ?_
                        clear hK K
                        iterate 4 (refine wpOrdT_read (v := ?_) (by rfl) (Or.inl ⟨by rfl, fun x hx => ?_⟩) ?_; rotate_left; (· go_simp; try with_reducible rfl); try simp only [Act.put, List.setIfInBounds_toArray, List.set_cons_zero, List.set_cons_succ])
                        refine wpOrdT_done ?_
                        try simp only [List.drop_succ_cons, List.drop_zero]
                        go_wp2_with fail
                        go_meet
                        rw [HT3.out]
                        exact ⟨rfl, hXB.trans hx7⟩
                      · obtain ⟨A7, c7, rfl, _, _⟩ := id or7.ints.form
                        refine hK _ _ hx7 ?_
                        clear hK K
                        iterate 4 (refine wpOrdT_read (v := ?_) (by rfl) (Or.inl ⟨by rfl, fun x hx => ?_⟩) ?_; rotate_left; (· go_simp; try with_reducible rfl); try simp only [Act.put, List.setIfInBounds_toArray, List.set_cons_zero, List.set_cons_succ])
                        refine wpOrdT_done ?_
                        try simp only [List.drop_succ_cons, List.drop_zero]
                        go_wp2_with fail
                        go_meet
                        rw [HT3.out]
                        exact ⟨rfl, hXB.trans hx7⟩
                    · obtain ⟨A6, c6, rfl, _, _⟩ := id ol6.ints.form
                      refine hK _ _ hx6 ?_
                      clear hK K
                      iterate 4 (refine wpOrdT_read (v := ?_) (by rfl) (Or.inl ⟨by rfl, fun x hx => ?_⟩) ?_; rotate_left; (· go_simp; try with_reducible rfl); try simp only [Act.put, List.setIfInBounds_toArray, List.set_cons_zero, List.set_cons_succ])
                      refine wpOrdT_done ?_
                      try simp only [List.drop_succ_cons, List.drop_zero]
                      go_upto_region 20 with fail
                      refine wp_region_ordT 13 (readsT [0, 1, 2, 3, 4, 5, 6, 7] (.stir 8 (readsT [9, 10, 11, 12] .done))) (by kernel_rfl) (by kernel_rfl) (fun _ _ _ _ _ h => h) ?_
                      simp only [readsT]
                      iterate 8 (refine wpOrdT_read (v := ?_) (by rfl) (Or.inl ⟨by rfl, fun x hx => ?_⟩) ?_; rotate_left; (· have a_w2 := hx.cell w2'; have a_w2m := hx.cell w2m; go_simp; try with_reducible rfl); try simp only [Act.put, List.setIfInBounds_toArray, List.set_cons_zero, List.set_cons_succ])
                      refine wpOrdT_keep (by rfl) (fun K hK => ?_)
                      go_simp
                      go_at_call 24
                      refine SF.mono ?_
                      rintro e w7 ⟨hres2, hx7⟩
                      clear SF
                      rcases hres2 with ⟨rfl, rfl⟩ | ⟨r, ur, rfl, rfl, or7⟩
                      · have HT3 : Hid (txtP m p x = []) := Lib.hid (by rw [HT.out, HDC.out]; rfl)
                        refine hK _ _ hx7 ?_
                        clear hK K
                        iterate 4 (refine wpOrdT_read (v := ?_) (by rfl) (Or.inl ⟨by rfl, fun x hx => ?_⟩) ?_; rotate_left; (· go_simp; try with_reducible rfl); try simp only [Act.put, List.setIfInBounds_toArray, List.set_cons_zero, List.set_cons_succ])
                        refine wpOrdT_done ?_
                        try simp only [List.drop_succ_cons, List.drop_zero]
                        go_wp2_with fail
                        go_meet
                        rw [HT3.out]
                        exact ⟨rfl, hXB.trans hx7⟩
                      · obtain ⟨A7, c7, rfl, _, _⟩ := id or7.ints.form
                        have HT3 : Hid (txtP m p x = confT ⟨p.a, l, r⟩) := Lib.hid (by rw [HT.out, HDC.out]; rfl)
                        have hdg : CDig ⟨p.a, l, r⟩ := by
                          have h := HD2.out
                          rw [HDC.out] at h
                          exact h rfl
                        have t1 := hx7.cell (zY.cell t1)
                        have hXC := hXB.trans hx7
                        refine hK _ _ hx7 ?_
                        clear hK K
                        iterate 4 (refine wpOrdT_read (v := ?_) (by rfl) (Or.inl ⟨by rfl, fun x hx => ?_⟩) ?_; rotate_left; (· go_simp; try with_reducible rfl); try simp only [Act.put, List.setIfInBounds_toArray, List.set_cons_zero, List.set_cons_succ])
                        refine wpOrdT_done ?_
                        try simp only [List.drop_succ_cons, List.drop_zero]
                        obtain ⟨g8, hg8⟩ : ∃ k, w7.heap.size = k := ⟨_, rfl⟩
                        obtain ⟨U, hU⟩ : ∃ U, U = w7.alloc (.cells #[.int .i64 p.a, .slice A6 l.length c6, .slice A7 r.length c7] 37) := ⟨_, rfl⟩
                        have hXU : Ext w7 U := by rw [hU]; exact Ext.alloc _ _
                        have b8 : Blk U g8 37 #[.int .i64 p.a, .slice A6 l.length c6, .slice A7 r.length c7] := by rw [hU]; exact Blk.new _ _ _ _ hg8
                        have z0 := b8.cell 0
                        have z1 := b8.cell 1
                        have z2 := b8.cell 2
                        simp only [List.getElem?_toArray, List.getElem?_cons_zero, List.getElem?_cons_succ] at z0 z1 z2
                        have LM := l05Show_c g8 ⟨p.a, l, r⟩ U ⟨_, _, z0, z1, z2, (((ol6.ext zY).ext hx7).ext hXU).ints, (or7.ext hXU).ints⟩ hdg
                        clear hdg z0 z1 z2 HT HDC HD2
                        go_wp2_with fail
                        try rw [← hU]
                        try rw [hg8]
                        clear hU
                        refine LM.mono ?_
                        rintro e w9 ⟨rfl, hx9⟩
                        clear LM
                        go_wp2_with fail
                        go_meet
                        rw [HT3.out]
                        exact ⟨rfl, (hXC.trans hXU).trans hx9⟩
                  | false =>
                    have HT3 : Hid (txtP m p x = []) := Lib.hid (by
                      unfold txtP
                      exact if_neg (of_decide_eq_false HBB.out))
                    clear HBB HDG
                    go_wp2_with fail
                    go_meet
                    rw [HT3.out]
                    exact ⟨rfl, Ext.refl _⟩
                case rest =>
                  rename World => wT
                  obtain ⟨rfl, hXT⟩ := hcut
                  rw [HTX.out] at HSV
                  obtain ⟨st, hstt⟩ : ∃ st, bsS (txtP m p x) = st := ⟨_, rfl⟩
                  rw [hstt] at HSV ⊢
                  clear hstt HDG HTX HBB t0 t1 t2 v1 v2 dm olX orX
                  have hs5 := (hXdr.trans hXT).size
                  go_wp2_with (at_builtin; refine wpList_append_own_at _ rfl _ _ 30 rfl h0 9 i0 (.string ⟨#[]⟩) 1 16 Tryz.underlying30 hi hz0 hz1 hz2 rfl (by decide) _ _ _ rfl ((ownsRow_ext hod hXT).alloc _) ⟨wT.heap.size, 0, none⟩ 1 1 [.string st] rfl rfl (cell_one_new _ _ _) ?c2 ?c3 ?c4 ?c5 ?_)
                  case c2 => first | rfl | (intro u hu; simp at hu; subst hu; rfl)
                  case c3 => unfold maxLen; omega
                  case c4 => omega
                  case c5 => first | omega | (simp; omega)
                  intro v' w9 hown' hgrow _ _
                  have hOA := (ownsRow_ext hod hXT).alloc (.cells #[.string st] 9)
                  have HO : Hid (w9.ownsRow h0 9 1 v' (i + 1) (svB (firstT (binM s) ⟨sq, sl, sr⟩ (txtB m s) (i + 1)))) := by unfold Hid; rw [HSV.out]; exact hown'
                  have HX9 : Hid (Ext w5 w9) := Lib.hid (((hXdr.trans hXT).trans (Ext.alloc wT _)).grown hgrow (fun b hb => by have := (hOA.lt b hb).1; omega))
                  clear hown' hgrow hOA hod
                  go_wp2
                  go_roundw
                  case rel => exact ⟨i + 1, by omega, by go_num, HO.out, HX9.out⟩
                  case measure => simp [intOf]; omega
              · obtain rfl : i = NL := by omega
                have HFin : Hid (TxRes w (BTxt m c n) (.returned (.tuple #[.slice At i ct, .int .i64 0])) wr) := ⟨firstT (binM s) ⟨sq, sl, sr⟩ (txtB m s) i, 0, _, rfl, by rw [firstT_length]; exact ownsRow_base ho (by have := (hX4.trans hx5).size; omega), HF0.out _ 0 (by (first | rw [if_pos trivial] | rw [if_pos rfl]); exact ⟨s, HS.out, .inl ⟨T, HEnd.out, by rw [HNL.out]; rfl, rfl⟩⟩), hX4.trans (hx5.trans hXr)⟩
                clear ho
                go_wp2
                go_ret2
                exact HFin.out
          · have HF : Hid (BTxt m c n [] 5) := Lib.hid (HF0.out [] 5 (by (first | rw [if_pos trivial] | rw [if_pos rfl]); exact ⟨s, HS.out, .inr ⟨hFull, rfl, rfl⟩⟩))
            clear hFull
            refine hK _ _ hx5 ?_
            clear hK K
            iterate 4 (refine wpOrdT_read (v := ?_) (by rfl) (Or.inl ⟨by rfl, fun x hx => ?_⟩) ?_; rotate_left; (· go_simp; try with_reducible rfl); try simp only [Act.put, List.setIfInBounds_toArray, List.set_cons_zero, List.set_cons_succ])
            refine wpOrdT_done ?_
            try simp only [List.drop_succ_cons, List.drop_zero]
            go_wp2
            go_ret2
            exact TxRes.none HF.out (hX4.trans hx5)
      · have HF : Hid (BTxt m c n [] sc) := Lib.hid (HF0.out [] sc (by rw [if_neg hs0]; exact ⟨rfl, rfl⟩))
        have hne : (sc != 0) = true := by simpa using hs0
        have hX3 := (hX1.trans hx2).trans (Ext.alloc w2 (.cells #[.int .i64 sq, .slice A2 sl.length k2, .slice B2 sr.length j2] 37))
        clear HF0 hs0
        go_wp2
        go_ret2
        exact TxRes.none HF.out hX3
end Go.Proofs.YthhjbmlkncdigaaGreatDoor
end
section
set_option linter.unusedSimpArgs false
set_option linter.unusedVariables false
namespace Go.Proofs.YthhjbmlkncdigaaGreatDoor
open Go Go.RowKit Go.Proofs
set_option maxHeartbeats 400000
theorem Ext.grow {w w' : World} (h : Ext w w') (row : Option Nat) : w.grownBy w' row := ⟨Below.os h, Below.tape h, Below.output h, Ext.size h, fun q hq _ => Below.block h q hq⟩
theorem svBs_get (L : List (List UInt8)) (k : Nat) (h : k < L.length) : (svB L)[k]? = some (.string (bsS L[k])) := by simp [svB, h]
theorem svBs_app (a b : List (List UInt8)) : svB (a ++ b) = svB a ++ svB b := by simp [svB]
/-- The mark with a number. -/
def mkB (n : Int) : List UInt8 := 109 :: dgs n.toNat
/-- The marks from a number on. -/
def mkL (k : Int) (n : Nat) : List (List UInt8) := (List.range n).map fun i => mkB (k + (i : Nat))
theorem mkL_length (k : Int) (n : Nat) : (mkL k n).length = n := by simp [mkL]
theorem mkL_succ (k : Int) (i : Nat) : mkL k (i + 1) = mkL k i ++ [mkB (k + (i : Nat))] := by simp [mkL, List.range_succ]
theorem mkL_get (k : Int) (n i : Nat) (h : i < n) : (mkL k n)[i]'(by rw [mkL_length]; exact h) = mkB (k + (i : Nat)) := by simp [mkL]
set_option maxRecDepth 20000 in
set_option maxHeartbeats 1000000 in
theorem markText_c (n : Int) (w : World) (n0 : 1 ≤ n) (n1 : n ≤ 1000000) :
    Calls Tryz.prog 41 #[.int .i64 n] w fun e w' => e = .returned (.string (bsS (mkB n))) ∧ Ext w w' := by
  obtain ⟨N, rfl⟩ : ∃ N : Nat, n = (N : Int) := ⟨n.toNat, by omega⟩
  have HLN := Lib.hid (dgs_len N (by omega))
  have HN1 : Hid (N ≤ 1000000) := by unfold Hid; omega
  have hle : ¬ (N : Int) ≤ 0 := by omega
  have HE : Hid (bsS (mkB (N : Int)) = ⟨#[109]⟩ ++ bsS (dgs N)) := by
    unfold Hid mkB
    rw [Int.toNat_natCast]
    exact (bs_app [109] (dgs N)).symm
  rw [HE.out]
  go_enter Tryz.func41, Tryz.ntmps41
  go_wp2
  go_loopw [0, 3] (fun i tv wr => ∃ (k : Nat) (D : List UInt8), i = .int .i64 (k : Int) ∧ k ≤ N ∧ tv = .string (bsS D) ∧ dgs N = dgs k ++ D ∧ Ext w wr) (fun i _ _ => (intOf i).toNat)
  case atStart => exact ⟨N, [], rfl, Nat.le_refl _, rfl, by simp, Ext.refl _⟩
  case round =>
    obtain ⟨k, D, rfl, hk, rfl, hD, hX⟩ := hrel
    have HD := Lib.hid hD
    have hDl : D.length ≤ 18 := by
      have h1 := HLN.out
      rw [HD.out, List.length_append] at h1
      omega
    clear hD
    have hsz : (bsS D).size = D.length := bs_size D
    by_cases hk0 : k = 0
    · subst hk0
      have HDD : Hid (dgs N = D) := by unfold Hid; rw [HD.out]; simp [dgs]
      have HF : Hid (bsS D = bsS (dgs N)) := by unfold Hid; rw [HDD.out]
      rw [show ((0 : Nat) : Int) = 0 from rfl]
      obtain ⟨s, hs⟩ : ∃ s, bsS D = s := ⟨_, rfl⟩
      rw [hs] at HF
      rw [hs] at hsz ⊢
      clear hs
      have n2 : ¬ 9223372036854775807 < 1 + s.size := by omega
      go_wp2
      go_ret
      exact ⟨by rw [← HF.out]; rfl, hX⟩
    · have hgt : (0 : Int) < (k : Int) := by omega
      have hq : (k : Int).tdiv 10 = ((k / 10 : Nat) : Int) := by rw [Int.tdiv_eq_ediv_of_nonneg (by omega)]; omega
      have hm : (k : Int).tmod 10 = ((k % 10 : Nat) : Int) := by rw [Int.tmod_eq_emod_of_nonneg (by omega)]; omega
      have hqw : IntKind.i64.wrap ((k : Int).tdiv 10) = ((k / 10 : Nat) : Int) := by rw [hq]; exact IntWalk.i64_in _ (by have := HN1.out; omega)
      have HST := Lib.hid (dgs_step hk0)
      have hdd : UInt8.ofNat (48 + k % 10) = digU ((k % 10 : Nat) : Int) := by unfold digU; rw [Int.toNat_natCast]
      rw [hdd] at HST
      clear hdd
      obtain ⟨d, hd⟩ : ∃ d, k % 10 = d := ⟨_, rfl⟩
      have hd9 : d ≤ 9 := by omega
      rw [hd] at hm HST
      have hwz := dig_fact (z := (d : Int)) (by omega) (by omega)
      obtain ⟨q, hqq⟩ : ∃ q, k / 10 = q := ⟨_, rfl⟩
      have HQ := Lib.hid hqq
      rw [hqq] at hq hqw HST
      have hqk : q < k := by omega
      have HQ64 : Hid (wrap64 (q : Int) = (q : Int)) := Lib.hid (wrap_nat (Nat.le_trans (Nat.le_trans (Nat.le_of_lt hqk) hk) HN1.out))
      have hro : (wr.alloc (.cells #[.int .u8 ((digU (d : Int)).toNat : Int)] 5)).ownsRow wr.heap.size 5 1 (.slice (some ⟨wr.heap.size, 0, none⟩) 1 1) 1 (ubs [digU (d : Int)]) :=
        ownsRow_blk 1 1 (Blk.new _ _ _ _ rfl) (Nat.le_refl _) rfl (by omega)
      have hcv : (convert 121 9 (.slice (some ⟨wr.heap.size, 0, none⟩) 1 1)).run Tryz.prog (wr.alloc (.cells #[.int .u8 ((digU (d : Int)).toNat : Int)] 5)) = .ok (.string (bsS [digU (d : Int)])) (wr.alloc (.cells #[.int .u8 ((digU (d : Int)).toNat : Int)] 5)) :=
        ubs_conv hro rfl (by omega)
      clear hro
      have HS : Hid (bsS [digU (d : Int)] ++ bsS D = bsS (digU (d : Int) :: D)) := bs_app [digU (d : Int)] D
      have hs1 : (bsS [digU (d : Int)]).size = 1 := bs_size _
      have HR : Hid (dgs N = dgs q ++ (digU (d : Int) :: D)) := by unfold Hid; rw [HD.out, HST.out]; simp
      clear hd hqq
      generalize (digU (d : Int)).toNat = dn at *
      generalize bsS [digU (d : Int)] = s1 at *
      generalize bsS D = s at *
      have n2 : ¬ 9223372036854775807 < s1.size + s.size := by omega
      go_wp2
      go_roundw
      case rel => exact ⟨q, _, rfl, by omega, by rw [HS.out], HR.out, hX.trans (Ext.alloc _ _)⟩
      case measure => simp only [intOf]; omega
set_option maxRecDepth 20000 in
theorem markStringS_c (base : Nat) (v : Value) (L : List (List UInt8)) (k : Int) (w : World) (h : w.ownsRow base 9 1 v L.length (svB L)) (h0 : 1 ≤ k) (h1 : k + L.length ≤ 1000000) :
    Calls Tryz.prog 15 #[v, .int .i64 k] w fun e w' => e = .returned (.int .i64 (k + L.length)) ∧ w'.ownsRow base 9 1 v L.length (svB (mkL k L.length)) ∧ w.grownBy w' v.ownBlock := by
  obtain ⟨A, c, rfl, h2, h2', _⟩ := (ownsRow_row h).form
  go_enter Tryz.func15, Tryz.ntmps15
  go_wp2
  go_loopw [1, 5] (fun q i wr => ∃ j : Nat, j ≤ L.length ∧ i = .int .i64 j ∧ q = .int .i64 (k + j) ∧ w.grownBy wr (Value.slice A L.length c).ownBlock ∧ ∃ xs, wr.ownsRow base 9 1 (.slice A L.length c) L.length xs ∧ xs.take j = svB (mkL k j)) (fun _ i _ => L.length - (intOf i).toNat)
  case atStart => exact ⟨0, Nat.zero_le _, rfl, by simp, World.grownBy.refl _ _, _, h, by simp [mkL, svB]⟩
  case round =>
    obtain ⟨j, hj, rfl, rfl, hg, xs, ho, hm⟩ := hrel
    have hl := ho.1
    have HM := Lib.hid hm
    clear hm
    by_cases hlt : j < L.length
    · obtain ⟨g, rfl, hb, hgl⟩ := own_at ho (by omega)
      have HL := Lib.hid hl
      have hl' : Hid (j < xs.length) := Lib.hid (by omega)
      clear hl
      go_wp2_with fail
      refine (markText_c (k + j) wr (by omega) (by omega)).mono ?_
      rintro e w3 ⟨rfl, hx3⟩
      have ho3 := ownsRow_ext ho hx3
      have q0 := ho3.cellAt j (by have := hl'.out; omega)
      rw [List.getElem?_eq_getElem hl'.out] at q0
      have f0 := ho3.frozenAt j
      obtain ⟨s, hs⟩ : ∃ s, bsS (mkB (k + j)) = s := ⟨_, rfl⟩
      have HS := Lib.hid hs
      rw [hs]
      clear hs
      go_wp2
      obtain ⟨s1, s2⟩ := ho3.stored j (.string s)
      go_roundw
      case rel => exact ⟨j + 1, by omega, by go_num, by simp; omega, grownBy_trans (grownBy_trans hg (Ext.grow hx3 _)) s2, _, s1, by rw [take_set_snoc _ _ _ hl'.out, HM.out, mkL_succ, svBs_app, ← HS.out]; rfl⟩
      case measure => simp [intOf]; omega
    · have hje : j = L.length := by omega
      subst hje
      go_wp2
      go_ret
      refine ⟨rfl, ?_, hg⟩
      have e : xs = svB (mkL k L.length) := by rw [← HM.out, List.take_of_length_le (by omega)]
      rw [← e]
      exact ho
set_option maxRecDepth 20000 in
theorem heldStringS_c (v : Value) (k : Int) (n : Nat) (w : World) (h : Row w 1 v n (svB (mkL k n))) (h0 : 1 ≤ k) (h1 : k + n ≤ 1000000) :
    Calls Tryz.prog 16 #[v, .int .i64 k] w fun e w' => e = .returned (.int .i64 (k + n)) ∧ Ext w w' := by
  obtain ⟨A, c, rfl, h2, h2', _⟩ := h.form
  go_enter Tryz.func16, Tryz.ntmps16
  go_wp2
  go_loopw [1, 5] (fun q i wr => ∃ j : Nat, j ≤ n ∧ i = .int .i64 j ∧ q = .int .i64 (k + j) ∧ Ext w wr) (fun _ i _ => n - (intOf i).toNat)
  case atStart => exact ⟨0, Nat.zero_le _, rfl, by simp, Ext.refl _⟩
  case round =>
    obtain ⟨j, hj, rfl, rfl, hX⟩ := hrel
    by_cases hlt : j < n
    · obtain ⟨b, off, rfl, hc⟩ := h.at hlt
      have c0 := hc j (by omega)
      rw [svBs_get _ _ (by rw [mkL_length]; exact hlt), mkL_get _ _ _ hlt] at c0
      have HT := fun W => markText_c (k + j) W (by omega) (by omega)
      generalize bsS (mkB (k + j)) = s at *
      have hne : (s.toList != s.toList) = false := by simp
      have d0 := cellR (hX.cell c0)
      clear hc c0
      go_wp2_with fail
      refine wp_region_ext (by kernel_rfl) (by kernel_rfl) ?_
      repeat (go_big_quiet_step ((go_at_call 41; exact Calls.extR (HT _))))
      refine wpQuiet_nil ?_
      intro w2 hx2
      go_wp2
      go_roundw
      case rel => exact ⟨j + 1, by omega, by go_num, by simp; omega, hX.trans hx2⟩
      case measure => simp [intOf]; omega
    · have hje : j = n := by omega
      subst hje
      go_wp2
      go_ret
      exact ⟨rfl, hX⟩
set_option maxRecDepth 20000 in
theorem eqStringS_c (w : World) (u v : Value) (L : List (List UInt8)) (ha : Row w 1 u L.length (svB L)) (hb : Row w 1 v L.length (svB L)) :
    Calls Tryz.prog 10 #[u, v] w fun e w' => e = .returned (.bool true) ∧ Ext w w' := by
  obtain ⟨A, ca, rfl, h1, h1', _⟩ := ha.form
  obtain ⟨B, cb, rfl, h2, h2', _⟩ := hb.form
  have hl1 : ((L.length : Int) != (L.length : Int)) = false := by simp
  go_enter Tryz.func10, Tryz.ntmps10
  go_wp2
  go_loopw [5] (fun i wr => ∃ k : Nat, k ≤ L.length ∧ i = .int .i64 k ∧ Ext w wr) (fun i _ => L.length - (intOf i).toNat)
  case atStart => exact ⟨0, Nat.zero_le _, rfl, Ext.refl _⟩
  case round =>
    obtain ⟨k, hk, rfl, hx⟩ := hrel
    by_cases hlt : k < L.length
    · obtain ⟨b, off, rfl, hc⟩ := ha.at hlt
      obtain ⟨b', off', rfl, hc'⟩ := hb.at (k := k) hlt
      have c0 := hx.cell ((hc k (by omega)).trans (svBs_get L k hlt))
      have c0' := hx.cell ((hc' k (by omega)).trans (svBs_get L k hlt))
      clear hc hc' ha hb
      generalize bsS L[k] = s at *
      have hne : (s.toList != s.toList) = false := by simp
      go_wp2
      go_quiet (fail)
      go_wp2
      go_roundw
      case rel => exact ⟨k + 1, by omega, by go_num, hx.trans (Ext.drewN _ _)⟩
      case measure => simp [intOf]; omega
    · go_wp2
      go_ret
      exact ⟨rfl, hx⟩
end Go.Proofs.YthhjbmlkncdigaaGreatDoor
end
