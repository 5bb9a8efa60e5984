/- Contracts: the program's codes of cells, and the symbols of the bits of a side.
Contracts: the program's symbols of the bits of a side.
Contract: the program's symbols of the bits of the left side. -/
import Derived.Test.YthhjbmlkncdigaaGreatDoorB23
import Derived.Test.YthhjbmlkncdigaaGreatDoorB25
import Derived.Test.YthhjbmlkncdigaaGreatDoorB10
import Derived.Test.YthhjbmlkncdigaaGreatDoorB09
import Derived.Maps.AppendAt
section
set_option linter.unusedSimpArgs false
set_option linter.unusedVariables false
namespace Go.Proofs.YthhjbmlkncdigaaGreatDoor
open Go Go.RowKit Go.Proofs Go.Maps
set_option maxHeartbeats 400000
theorem codesB_snoc (b : Int) (xs : List Int) (x : Int) : codesB b (xs ++ [x]) = codesB b xs ++ codeB b x := by simp [codesB]
/-- The first bits of the code of a symbol. -/
def codeTo (b x : Int) (j : Nat) : List Int := (List.range j).map fun k : Nat => bitD x b (k : Int)
theorem codeTo_succ (b x : Int) (j : Nat) : codeTo b x (j + 1) = codeTo b x j ++ [bitD x b j] := by simp [codeTo, List.range_succ]
theorem codeTo_length (b x : Int) (j : Nat) : (codeTo b x j).length = j := by simp [codeTo]
set_option maxRecDepth 20000 in
set_option maxHeartbeats 4000000 in
theorem coded_c (v : Value) (zs : List Int) (b : Int) (w : World) (h : Ints w v zs) (hz : ∀ z ∈ zs, 0 ≤ z ∧ z ≤ 7) (b1 : 1 ≤ b) (b3 : b ≤ 3) (hn : zs.length ≤ 1000) :
    Calls Tryz.prog 60 #[v, .int .i64 b] w fun e w' => ∃ u, e = .returned u ∧ OwnInts w.heap.size w' u (codesB b zs) ∧ Ext w w' := by
  obtain ⟨i0, hi, hz0, hz1, hz2⟩ := info_parts intInfo
  obtain ⟨A, c, rfl, _, _⟩ := h.form
  obtain ⟨B, rfl⟩ : ∃ B : Nat, b = (B : Int) := ⟨b.toNat, by omega⟩
  obtain ⟨W, hW⟩ : ∃ W, W = w.alloc (.cells #[] 2) := ⟨_, rfl⟩
  have hXW : Ext w W := by rw [hW]; exact Ext.alloc _ _
  have ho : OwnInts w.heap.size W (.slice (some ⟨w.heap.size, 0, none⟩) 0 0) (codesB (B : Int) (zs.take 0)) := by
    rw [hW]
    exact World.ownsRow_made (base := w.heap.size) (e := 2) (size := 1) w #[] 0 (by simp) (by unfold maxLen; omega) (by simp [codesB, ivs])
  obtain ⟨g, hg⟩ : ∃ g, w.heap.size = g := ⟨_, rfl⟩
  have HZ := Lib.hid hz
  clear hz
  rw [hg] at ho ⊢
  go_enter Tryz.func60, Tryz.ntmps60
  go_wp2_with fail
  try rw [← hW]
  try rw [hg]
  clear hW
  go_loopw [5, 12] (fun tv iv wr => ∃ i : Nat, i ≤ zs.length ∧ iv = .int .i64 (i : Int) ∧ OwnInts g wr tv (codesB (B : Int) (zs.take i)) ∧ Ext w wr) (fun _ iv _ => zs.length - (intOf iv).toNat)
  case atStart => exact ⟨0, Nat.zero_le _, rfl, ho, hXW⟩
  case round =>
    clear ho
    obtain ⟨i, hiN, rfl, ho, hXr⟩ := hrel
    by_cases hlt : i < zs.length
    · obtain ⟨bp, op, rfl, hc⟩ := h.at hlt
      have c0 := hXr.cell (hc i hlt)
      have HB := Lib.hid (HZ.out zs[i] (List.getElem_mem hlt))
      have HT : Hid (codesB (B : Int) (zs.take (i + 1)) = codesB (B : Int) (zs.take i) ++ codeTo (B : Int) zs[i] B) := by
        unfold Hid
        rw [List.take_succ_eq_append_getElem hlt, codesB_snoc]
        simp [codeB, codeTo]
      have HL : Hid ((codesB (B : Int) (zs.take i)).length ≤ 3000) := by
        unfold Hid
        rw [codesB_length, List.length_take]
        have : min i zs.length * (B : Int).toNat ≤ 1000 * 3 := Nat.mul_le_mul (by omega) (by omega)
        omega
      generalize codesB (B : Int) (zs.take i) = cs at *
      generalize zs[i] = z at *
      go_wp2
      go_loopw [5, 17] (fun tv jv wi => ∃ j : Nat, j ≤ B ∧ jv = .int .i64 (j : Int) ∧ OwnInts g wi tv (cs ++ codeTo (B : Int) z j) ∧ Ext w wi) (fun _ jv _ => B - (intOf jv).toNat)
      case atStart => exact ⟨0, Nat.zero_le _, rfl, by simpa [codeTo] using ho, hXr⟩
      case round =>
        clear ho c0
        obtain ⟨j, hj, rfl, ho, hXi⟩ := hrel
        rename World => wx
        by_cases hjl : j < B
        · have BA := fun w => bitAt_c z B j w b1 b3 (by omega) (by omega) HB.out.1 HB.out.2
          obtain ⟨fs, hfs⟩ : ∃ fs, cs ++ codeTo (B : Int) z j = fs := ⟨_, rfl⟩
          have HS : Hid (cs ++ codeTo (B : Int) z (j + 1) = fs ++ [bitD z B j]) := Lib.hid (by rw [codeTo_succ, ← List.append_assoc, hfs])
          have hlen : fs.length ≤ 3003 := by rw [← hfs, List.length_append, codeTo_length]; have := HL.out; omega
          rw [hfs] at ho
          clear hfs
          generalize bitD z B j = bb at *
          obtain ⟨At, ct, rfl, _, _⟩ := ho.ints.form
          go_wp2_with fail
          refine (BA _).mono ?_
          rintro e w' ⟨rfl, rfl⟩
          clear BA
          have ho' := ownsRow_ext ho (Ext.alloc wx (.cells #[.int .i64 bb] 2))
          have hgs := (hXi.size)
          go_wp2_with (at_builtin; refine wpList_append_own_at _ rfl _ _ 25 rfl g 2 i0 (.int .i64 0) 1 8 Tryz.underlying25 hi hz0 hz1 hz2 rfl (by decide) _ _ _ rfl ho' ⟨wx.heap.size, 0, none⟩ 1 1 [.int .i64 bb] rfl rfl ?c1 ?c2 ?c3 ?c4 ?c5 ?_)
          case c1 =>
            intro j u hj
            match j, hj with
            | 0, hj => simp at hj; subst hj; simp [Addr.add]
          case c2 => intro u hu; simp at hu; rcases hu with rfl; rfl
          case c3 => unfold maxLen; omega
          case c4 => omega
          case c5 => simp; omega
          intro v' w5 hown' hgrow _ _
          have HO : Hid (OwnInts g w5 v' (cs ++ codeTo (B : Int) z (j + 1))) := by
            unfold Hid OwnInts
            rw [HS.out, ivs_append, List.length_append]
            exact hown'
          have HX5 : Hid (Ext w w5) := Lib.hid ((hXi.trans (Ext.alloc wx _)).grown hgrow (fun b hb => by have := (ho'.lt b hb).1; omega))
          clear hown' hgrow ho'
          go_wp2
          go_roundw
          case rel => exact ⟨j + 1, by omega, by go_num, HO.out, HX5.out⟩
          case measure => simp [intOf]; omega
        · obtain rfl : j = B := by omega
          obtain ⟨At, ct, rfl, _, _⟩ := ho.ints.form
          go_wp2
          go_roundw
          case rel => exact ⟨i + 1, by omega, by go_num, by rw [HT.out]; exact ho, hXi⟩
          case measure => simp [intOf]; omega
    · obtain rfl : i = zs.length := by omega
      rw [List.take_length] at ho
      obtain ⟨At, ct, rfl, _, _⟩ := ho.ints.form
      go_wp2
      go_ret
      exact ⟨_, rfl, ho, hXr⟩
end Go.Proofs.YthhjbmlkncdigaaGreatDoor
end
section
set_option linter.unusedSimpArgs false
set_option linter.unusedVariables false
namespace Go.Proofs.YthhjbmlkncdigaaGreatDoor
open Go Go.RowKit Go.Proofs Go.Maps
set_option maxHeartbeats 400000
/-- The symbols of a side as a call gives them. -/
def DecRes (w : World) (d : Option (List Int)) (e : Ending) (w' : World) : Prop :=
  ((d = none ∧ e = .returned (.tuple #[.slice none 0 0, .bool false])) ∨ ∃ l u, d = some l ∧ e = .returned (.tuple #[u, .bool true]) ∧ OwnInts w.heap.size w' u l) ∧ Ext w w'
theorem grpTo_range {side : List Int} (h : ∀ z ∈ side, 0 ≤ z ∧ z ≤ 1) (k n : Nat) (hn : n ≤ 3) : 0 ≤ numB (fun t => side.getD (k + t) 0) n ∧ numB (fun t => side.getD (k + t) 0) n ≤ 7 := by
  refine numB_range (fun i => ?_) n hn
  by_cases hi : k + i < side.length
  · rw [List.getD_eq_getElem?_getD, List.getElem?_eq_getElem hi]
    exact h _ (List.getElem_mem hi)
  · rw [List.getD_eq_getElem?_getD, List.getElem?_eq_none (by omega)]
    exact ⟨Int.le_refl _, by decide⟩
set_option maxRecDepth 20000 in
set_option maxHeartbeats 4000000 in
theorem decodedSide_c (v : Value) (side : List Int) (B : Nat) (sy : Int) (w : World) (h : Ints w v side) (hz : ∀ z ∈ side, 0 ≤ z ∧ z ≤ 1) (hB : B = 1 ∨ B = 2 ∨ B = 3) (hn : side.length ≤ 1000) :
    Calls Tryz.prog 73 #[v, .int .i64 (B : Int), .int .i64 sy] w (DecRes w (decF B sy side)) := by
  obtain ⟨i0, hi, hz0, hz1, hz2⟩ := info_parts intInfo
  obtain ⟨A, c, rfl, _, _⟩ := h.form
  obtain ⟨W, hW⟩ : ∃ W, W = w.alloc (.cells #[] 2) := ⟨_, rfl⟩
  have hXW : Ext w W := by rw [hW]; exact Ext.alloc _ _
  have ho : OwnInts w.heap.size W (.slice (some ⟨w.heap.size, 0, none⟩) 0 0) ((List.range 0).map (grpF B side)) := by
    rw [hW]
    exact World.ownsRow_made (base := w.heap.size) (e := 2) (size := 1) w #[] 0 (by simp) (by unfold maxLen; omega) (by simp [ivs])
  obtain ⟨g, hg⟩ : ∃ g, w.heap.size = g := ⟨_, rfl⟩
  have HZ := Lib.hid hz
  have HG : Hid (∀ k, k * B < side.length ↔ k < grps B side.length) := Lib.hid (fun k => grps_iff hB _ _)
  have hf := grps_fit hB side.length
  have HD : Hid (decF B sy side = decG sy ((List.range (grps B side.length)).map (grpF B side))) := Lib.hid rfl
  obtain ⟨D, hD⟩ : ∃ D, D = decF B sy side := ⟨_, rfl⟩
  rw [← hD] at HD ⊢
  clear hz hD
  obtain ⟨N, hN⟩ : ∃ N, grps B side.length = N := ⟨_, rfl⟩
  rw [hN] at HG hf HD
  clear hN
  have hB3 : B ≤ 3 ∧ 1 ≤ B := by omega
  clear hB
  rw [hg] at ho
  go_enter Tryz.func73, Tryz.ntmps73
  go_wp2_with fail
  try rw [← hW]
  try rw [hg]
  clear hW
  go_loopw [8, 9] (fun tv iv wr => ∃ i : Nat, i ≤ N ∧ iv = .int .i64 ((i * B : Nat) : Int) ∧ OwnInts g wr tv ((List.range i).map (grpF B side)) ∧ Hid (∀ x ∈ (List.range i).map (grpF B side), x < sy) ∧ Ext w wr) (fun _ iv _ => N * B + B - (intOf iv).toNat)
  case atStart => exact ⟨0, Nat.zero_le _, by simp, ho, Lib.hid (by simp), hXW⟩
  case round =>
    clear ho
    obtain ⟨i, hiN, rfl, ho, hall, hXr⟩ := hrel
    obtain ⟨At, ct, rfl, _, _⟩ := ho.ints.form
    rename World => wr
    have hk : i * B ≤ 1003 := by have : i * B ≤ N * B := Nat.mul_le_mul_right _ hiN; omega
    by_cases hlt : i < N
    · have hkl : i * B < side.length := (HG.out i).2 hlt
      have HT : Hid ((List.range (i + 1)).map (grpF B side) = (List.range i).map (grpF B side) ++ [grpF B side i]) := Lib.hid (nexts_snoc _ _)
      have HGF : Hid (grpF B side i = numB (fun t => side.getD (i * B + t) 0) B) := Lib.hid rfl
      have HS : Hid ((i + 1) * B = i * B + B) := Lib.hid (Nat.succ_mul _ _)
      have hLn : ((List.range i).map (grpF B side)).length ≤ 1000 := by simp; omega
      have HI1 : Hid ((i + 1) * B ≤ N * B) := Lib.hid (Nat.mul_le_mul_right _ hlt)
      generalize hk0 : i * B = k at *
      clear hk0
      go_wp2
      go_loopw [10, 21] (fun sv jv wi => ∃ j : Nat, j ≤ B ∧ jv = .int .i64 (j : Int) ∧ sv = .int .i64 (numB (fun t => side.getD (k + t) 0) j) ∧ wi = wr) (fun _ jv _ => B - (intOf jv).toNat)
      case atStart => exact ⟨0, Nat.zero_le _, rfl, rfl, rfl⟩
      case round =>
        obtain ⟨j, hj, rfl, rfl, rfl⟩ := hrel
        by_cases hjl : j < B
        · obtain ⟨n0, n7⟩ := grpTo_range HZ.out k j (by omega)
          have HN1 : Hid (numB (fun t => side.getD (k + t) 0) (j + 1) = 2 * numB (fun t => side.getD (k + t) 0) j + side.getD (k + j) 0) := Lib.hid rfl
          generalize numB (fun t => side.getD (k + t) 0) j = s at *
          by_cases hin : k + j < side.length
          · obtain ⟨bp, op, rfl, hc⟩ := h.at hin
            have c0 := hXr.cell (hc (k + j) hin)
            have hz1 := HZ.out side[k + j] (List.getElem_mem hin)
            have HN2 : Hid (numB (fun t => side.getD (k + t) 0) (j + 1) = s * 2 + side[k + j]) := by
              unfold Hid; rw [HN1.out, List.getD_eq_getElem?_getD, List.getElem?_eq_getElem hin, Int.mul_comm]; rfl
            clear HN1
            generalize side[k + j] = z at *
            go_wp2
            go_roundw
            case rel => exact ⟨j + 1, by omega, by go_num, by rw [HN2.out], by trivial⟩
            case measure => simp [intOf]; omega
          · have HN2 : Hid (numB (fun t => side.getD (k + t) 0) (j + 1) = s * 2) := by
              unfold Hid; rw [HN1.out, List.getD_eq_getElem?_getD, List.getElem?_eq_none (by omega), Int.mul_comm]; simp
            clear HN1
            go_wp2
            go_roundw
            case rel => exact ⟨j + 1, by omega, by go_num, by rw [HN2.out], by trivial⟩
            case measure => simp [intOf]; omega
        · obtain rfl : j = B := by omega
          obtain ⟨n0, n7⟩ := grpTo_range HZ.out k j hB3.1
          generalize hsx : numB (fun t => side.getD (k + t) 0) j = s at *
          clear hsx
          rw [HGF.out] at HT
          by_cases hs : s < sy
          · have ho' := ownsRow_ext ho (Ext.alloc wr (.cells #[.int .i64 s] 2))
            generalize hls : (List.range i).map (grpF j side) = ls at *
            go_wp2_with (at_builtin; refine wpList_append_own_at _ rfl _ _ 25 rfl g 2 i0 (.int .i64 0) 1 8 Tryz.underlying25 hi hz0 hz1 hz2 rfl (by decide) _ _ _ rfl ho' ⟨wr.heap.size, 0, none⟩ 1 1 [.int .i64 s] rfl rfl ?c1 ?c2 ?c3 ?c4 ?c5 ?_)
            case c1 =>
              intro j u hj
              match j, hj with
              | 0, hj => simp at hj; subst hj; simp [Addr.add]
            case c2 => intro u hu; simp at hu; rcases hu with rfl; rfl
            case c3 => unfold maxLen; omega
            case c4 => have := hXr.size; omega
            case c5 => have := hXr.size; simp; omega
            intro v' w5 hown' hgrow _ _
            have HO : Hid (OwnInts g w5 v' ((List.range (i + 1)).map (grpF j side))) := by
              unfold Hid OwnInts
              rw [HT.out, ivs_append, List.length_append]
              exact hown'
            have HA : Hid (∀ x ∈ (List.range (i + 1)).map (grpF j side), x < sy) := by
              unfold Hid
              rw [HT.out]
              intro x hx
              rcases List.mem_append.1 hx with hx | hx
              · exact hall.out x hx
              · rw [List.mem_singleton.1 hx]; exact hs
            have HX5 : Hid (Ext w w5) := Lib.hid ((hXr.trans (Ext.alloc wr _)).grown hgrow (fun b hb => by have := (ho'.lt b hb).1; omega))
            clear hown' hgrow ho'
            go_wp2
            go_roundw
            case rel => exact ⟨i + 1, by omega, by rw [HS.out]; go_num, HO.out, HA, HX5.out⟩
            case measure => simp [intOf]; have := HI1.out; rw [HS.out] at this; omega
          · have HF : Hid (D = none) := by
              unfold Hid
              rw [HD.out]
              unfold decG
              rw [if_neg]
              intro ha
              refine hs ?_
              rw [← HGF.out]
              exact ha _ (List.mem_map.2 ⟨i, List.mem_range.2 hlt, rfl⟩)
            go_wp2
            go_ret2
            exact ⟨.inl ⟨HF.out, rfl⟩, hXr⟩
    · obtain rfl : i = N := by omega
      have hkl : ¬ i * B < side.length := fun hh => hlt ((HG.out i).1 hh)
      have HF : Hid (D = some (trim ((List.range i).map (grpF B side)))) := by
        unfold Hid
        rw [HD.out]
        unfold decG
        rw [if_pos hall.out]
      generalize hk0 : i * B = k at *
      clear hk0
      have hlen : ((List.range i).map (grpF B side)).length ≤ 1048576 := by simp; omega
      generalize (List.range i).map (grpF B side) = ls at *
      go_wp2_with fail
      refine (trimmed_c _ ls wr ho.ints hlen).mono ?_
      rintro e w' ⟨⟨A1, c1, ea, rfl⟩, rfl⟩
      injection ea with ea1 ea2 ea3
      subst ea1 ea3
      have ho2 : OwnInts g wr (.slice At (trimN ls ls.length) ct) (trim ls) := ho.trimmed
      generalize trimN ls ls.length = n at *
      go_wp2
      go_ret2
      exact ⟨.inr ⟨_, _, HF.out, rfl, by rw [hg]; exact ho2⟩, hXr⟩
end Go.Proofs.YthhjbmlkncdigaaGreatDoor
end
section
set_option linter.unusedSimpArgs false
set_option linter.unusedVariables false
namespace Go.Proofs.YthhjbmlkncdigaaGreatDoor
open Go Go.RowKit Go.Proofs Go.Maps
set_option maxHeartbeats 400000
theorem sizeI_c (v : Value) (zs : List Int) (w : World) (h : Ints w v zs) : Calls Tryz.prog 105 #[v] w fun e w' => e = .returned (.int .i64 zs.length) ∧ w = w' := by
  obtain ⟨A, c, rfl, h1, h2⟩ := h.form
  go_enter Tryz.func105, Tryz.ntmps105
  go_wp2
  go_ret
  exact ⟨rfl, rfl⟩
theorem pad_more (side : List Int) (z : Nat) : side ++ List.replicate (z + 1) 0 = (side ++ List.replicate z 0) ++ [0] := by
  rw [List.replicate_succ', List.append_assoc]
theorem rem_fit {B : Nat} (hB : B = 1 ∨ B = 2 ∨ B = 3) {n L : Nat} (h1 : n ≤ L) (h2 : L ≤ grps B n * B) : L % B = 0 ↔ L = grps B n * B := by
  unfold grps at *
  rcases hB with rfl | rfl | rfl <;> omega
set_option maxRecDepth 20000 in
set_option maxHeartbeats 4000000 in
theorem decodedLeft_c (v : Value) (side : List Int) (B : Nat) (sy : Int) (w : World) (h : Ints w v side) (hfl : Flat v) (hz : ∀ z ∈ side, 0 ≤ z ∧ z ≤ 1) (hB : B = 1 ∨ B = 2 ∨ B = 3) (hn : side.length ≤ 900) :
    Calls Tryz.prog 72 #[v, .int .i64 (B : Int), .int .i64 sy] w (DecRes w (decR B sy side)) := by
  obtain ⟨i0, hi, hz0, hz1, hz2⟩ := info_parts intInfo
  obtain ⟨A, c, rfl, _, _⟩ := h.form
  have HZ := Lib.hid hz
  have hf := grps_fit hB side.length
  have HR := Lib.hid (fun L (h1 : side.length ≤ L) (h2 : L ≤ grps B side.length * B) => rem_fit hB h1 h2)
  obtain ⟨D, hD⟩ : ∃ D, D = decR B sy side := ⟨_, rfl⟩
  rw [← hD]
  have HD := Lib.hid hD
  have HBB := Lib.hid hB
  have hB3 : B ≤ 3 ∧ 1 ≤ B := by omega
  clear hB hz hD
  obtain ⟨N, hN⟩ : ∃ N, grps B side.length = N := ⟨_, rfl⟩
  rw [hN] at HR hf
  have HN := Lib.hid hN
  clear hN
  obtain ⟨T, hT⟩ : ∃ T, N * B = T := ⟨_, rfl⟩
  rw [hT] at HR hf
  have HT := Lib.hid hT
  clear hT
  obtain ⟨g, hg⟩ : ∃ g, w.heap.size = g := ⟨_, rfl⟩
  have HG := Lib.hid hg
  have CL := CloneF_c (.slice A side.length c) side w h hfl (by omega)
  rw [hg] at CL
  go_enter Tryz.func72, Tryz.ntmps72
  go_wp2_with fail
  refine CL.mono ?_
  rintro e w1 ⟨u, rfl, ho, _, hx1⟩
  obtain ⟨Au, cu, rfl, _, _⟩ := ho.ints.form
  have hg1 : g ≤ w1.heap.size := by have := hx1.size; omega
  clear CL hg
  go_wp2
  go_loopw [8] (fun tv wr => ∃ z : Nat, side.length + z ≤ T ∧ OwnInts g wr tv (side ++ List.replicate z 0) ∧ Ext w wr ∧ g ≤ wr.heap.size) (fun tv _ => T - (match tv with | .slice _ n _ => n | _ => 0))
  case atStart => exact ⟨0, by omega, by simpa using ho, hx1, hg1⟩
  case round =>
    clear ho
    obtain ⟨z, hzT, ho, hXr, hgr⟩ := hrel
    rename World => wr
    obtain ⟨ps, hps⟩ : ∃ ps, side ++ List.replicate z 0 = ps := ⟨_, rfl⟩
    have HPL : Hid (ps.length = side.length + z) := Lib.hid (by rw [← hps]; simp)
    have HPS := Lib.hid hps
    rw [hps] at ho
    clear hps
    obtain ⟨At, ct, rfl, _, _⟩ := ho.ints.form
    go_wp2_with fail
    refine (sizeI_c _ ps wr ho.ints).mono ?_
    rintro e w' ⟨rfl, rfl⟩
    have hpl2 : ps.length ≤ 903 := by rw [HPL.out]; omega
    by_cases he : side.length + z = T
    · have hcond : (((ps.length : Nat) : Int) % (B : Int) != 0) = false := by
        have := (HR.out ps.length (by rw [HPL.out]; omega) (by rw [HPL.out]; omega)).2 (by rw [HPL.out]; exact he)
        have h2 : ((ps.length : Nat) : Int) % (B : Int) = 0 := by exact_mod_cast this
        rw [h2]; rfl
      have HP : Hid (ps = side ++ List.replicate (grps B side.length * B - side.length) 0) := by
        unfold Hid
        rw [← HPS.out, HN.out, HT.out]
        congr 2
        omega
      have LP := Lib.hid (list_pad HBB.out side ps HP.out)
      have HZP : Hid (∀ x ∈ ps.reverse, 0 ≤ x ∧ x ≤ 1) := by
        unfold Hid
        intro x hx
        rw [List.mem_reverse, ← HPS.out] at hx
        rcases List.mem_append.1 hx with hx | hx
        · exact HZ.out x hx
        · rw [List.eq_of_mem_replicate hx]; exact ⟨Int.le_refl _, by decide⟩
      have RV := reversed_c _ ps wr ho.ints ho.flat (by omega)
      clear he
      go_wp2_with fail
      refine RV.mono ?_
      rintro e w2 ⟨u2, rfl, ho2, hx2⟩
      clear RV
      have DS := decodedSide_c u2 ps.reverse B sy w2 ho2.ints HZP.out HBB.out (by simp; omega)
      obtain ⟨A2, c2, rfl, _, _⟩ := ho2.ints.form
      have hps2 : ps.reverse.length = ps.length := List.length_reverse
      rw [hps2] at DS
      clear hps2
      obtain ⟨xs, hxs⟩ : ∃ xs, xs = listR B side := ⟨_, rfl⟩
      have HDF : Hid (decF B sy ps.reverse = decG sy xs.reverse) := by unfold Hid decF; rw [LP.out.1, hxs]
      have hxl : xs.length = N := by rw [hxs]; simp [listR, HN.out]
      have HXL := Lib.hid hxl
      have HD2 : Hid (D = decG sy xs) := by unfold Hid; rw [HD.out, hxs]; rfl
      clear hxs hxl
      have hX2 := hXr.trans hx2
      go_wp2_with fail
      refine DS.mono ?_
      rintro e w3 ⟨hres, hx3⟩
      clear DS
      rw [HDF.out] at hres
      have hX3 := hX2.trans hx3
      rcases hres with ⟨hd, rfl⟩ | ⟨l, u3, hd, rfl, ho3⟩
      · have HF : Hid (D = none) := by
          unfold Hid
          rw [HD2.out]
          rw [dec_rev (b := 0)] at hd
          unfold decG
          split at hd
          · cases hd
          · rename_i hh; rw [if_neg hh]
        go_wp2
        go_ret2
        exact ⟨.inl ⟨HF.out, rfl⟩, hX3⟩
      · have HF : Hid (D = some (trim xs) ∧ l = trim xs.reverse) := by
          unfold Hid
          rw [HD2.out]
          rw [dec_rev (b := 0)] at hd
          unfold decG
          split at hd
          · rename_i hh; rw [if_pos hh]; injection hd with hd; exact ⟨rfl, hd.symm⟩
          · cases hd
        have HLL : Hid (l.length ≤ N) := by
          unfold Hid
          have := trim_len xs.reverse
          rw [HF.out.2]
          rw [List.length_reverse, HXL.out] at this
          exact this
        clear hd
        obtain ⟨g2, hg2⟩ : ∃ g2, w2.heap.size = g2 := ⟨_, rfl⟩
        rw [hg2] at ho3
        obtain ⟨A3, c3, rfl, _, _⟩ := ho3.ints.form
        have ho1 := ho.ext hx2
        have hg3 : g2 ≤ w3.heap.size := by have := hx3.size; omega
        have hgg : g ≤ g2 := by have := hx2.size; omega
        have hdiv : ((ps.length : Nat) : Int) / (B : Int) = (N : Int) := by
          rw [LP.out.2, HN.out, Int.natCast_mul]
          exact Int.mul_ediv_cancel _ (by omega)
        clear ho
        go_wp2
        go_loopw [9] (fun tv wr => ∃ z : Nat, l.length + z ≤ N ∧ OwnInts g2 wr tv (l ++ List.replicate z 0) ∧ Ext w2 wr ∧ g2 ≤ wr.heap.size) (fun tv _ => N - (match tv with | .slice _ n _ => n | _ => 0))
        case atStart => exact ⟨0, by have := HLL.out; omega, by simpa using ho3, hx3, hg3⟩
        case round =>
          clear ho3
          obtain ⟨y, hyN, ho, hXq, hgq⟩ := hrel
          rename World => wq
          obtain ⟨ls, hls⟩ : ∃ ls, l ++ List.replicate y 0 = ls := ⟨_, rfl⟩
          have HLN : Hid (ls.length = l.length + y) := Lib.hid (by rw [← hls]; simp)
          have hln2 : ls.length ≤ 903 := by rw [HLN.out]; omega
          have HLS := Lib.hid hls
          rw [hls] at ho
          clear hls
          obtain ⟨Aq, cq, rfl, _, _⟩ := ho.ints.form
          go_wp2_with fail
          refine (sizeI_c _ ls wq ho.ints).mono ?_
          rintro e w' ⟨rfl, rfl⟩
          go_wp2_with fail
          refine (sizeI_c _ ps wq (ho1.ext hXq).ints).mono ?_
          rintro e w' ⟨rfl, rfl⟩
          by_cases hlt : ls.length < N
          · have ho' := ownsRow_ext ho (Ext.alloc wq (.cells #[.int .i64 0] 2))
            go_wp2_with (at_builtin; refine wpList_append_own_at _ rfl _ _ 25 rfl g2 2 i0 (.int .i64 0) 1 8 Tryz.underlying25 hi hz0 hz1 hz2 rfl (by decide) _ _ _ rfl ho' ⟨wq.heap.size, 0, none⟩ 1 1 [.int .i64 0] rfl rfl ?c1 ?c2 ?c3 ?c4 ?c5 ?_)
            case c1 =>
              intro j u hj
              match j, hj with
              | 0, hj => simp at hj; subst hj; simp [Addr.add]
            case c2 => intro u hu; simp at hu; rcases hu with rfl; rfl
            case c3 => unfold maxLen; omega
            case c4 => omega
            case c5 => simp; omega
            intro v' w5 hown' hgrow _ _
            have HO : Hid (OwnInts g2 w5 v' (l ++ List.replicate (y + 1) 0)) := by
              unfold Hid OwnInts
              rw [pad_more, HLS.out, ivs_append, List.length_append]
              exact hown'
            have HX5 : Hid (Ext w2 w5) := Lib.hid ((hXq.trans (Ext.alloc wq _)).grown hgrow (fun b hb => by have := (ho'.lt b hb).1; omega))
            have HG5 : Hid (g2 ≤ w5.heap.size) := Lib.hid (by have := hgrow.size; simp at this; omega)
            obtain ⟨Av, cv, rfl, _, _, _⟩ := (ownsRow_row hown').form
            clear hown' hgrow ho'
            go_wp2
            go_roundw
            case rel => exact ⟨y + 1, by have := HLN.out; omega, HO.out, HX5.out, HG5.out⟩
            case measure => simp only; omega
          · have HE : Hid (ls = xs.reverse) := by
              unfold Hid
              have h1 := HLN.out
              have h2 := HXL.out
              have h3 : y = xs.reverse.length - (trim xs.reverse).length := by rw [List.length_reverse, h2, ← HF.out.2]; omega
              rw [← HLS.out, HF.out.2, h3]
              exact trim_pad _
            go_wp2_with fail
            refine (reversed_c _ ls wq ho.ints ho.flat (by omega)).mono ?_
            rintro e w6 ⟨u6, rfl, ho6, hx6⟩
            rw [HE.out, List.reverse_reverse] at ho6
            obtain ⟨A6, c6, rfl, _, _⟩ := ho6.ints.form
            have hx6l : xs.length ≤ 1048576 := by rw [HXL.out]; omega
            go_wp2_with fail
            refine (trimmed_c _ xs w6 ho6.ints hx6l).mono ?_
            rintro e w' ⟨⟨A1, c1, ea, rfl⟩, rfl⟩
            injection ea with ea1 ea2 ea3
            subst ea1 ea3
            have ho7 : OwnInts g w6 (.slice A6 (trimN xs xs.length) c6) (trim xs) := ownsRow_base ho6.trimmed (by omega)
            generalize trimN xs xs.length = n at *
            go_wp2
            go_ret2
            exact ⟨.inr ⟨_, _, HF.out.1, rfl, by rw [HG.out]; exact ho7⟩, (hX2.trans hXq).trans hx6⟩
    · have hcond : (((ps.length : Nat) : Int) % (B : Int) != 0) = true := by
        have h0 : ¬ ps.length % B = 0 := fun hh => he (by have := (HR.out ps.length (by rw [HPL.out]; omega) (by rw [HPL.out]; omega)).1 hh; rw [HPL.out] at this; exact this)
        have h2 : ¬ ((ps.length : Nat) : Int) % (B : Int) = 0 := fun hh => h0 (by exact_mod_cast hh)
        simpa using h2
      have ho' := ownsRow_ext ho (Ext.alloc wr (.cells #[.int .i64 0] 2))
      go_wp2_with (at_builtin; refine wpList_append_own_at _ rfl _ _ 25 rfl g 2 i0 (.int .i64 0) 1 8 Tryz.underlying25 hi hz0 hz1 hz2 rfl (by decide) _ _ _ rfl ho' ⟨wr.heap.size, 0, none⟩ 1 1 [.int .i64 0] rfl rfl ?c1 ?c2 ?c3 ?c4 ?c5 ?_)
      case c1 =>
        intro j u hj
        match j, hj with
        | 0, hj => simp at hj; subst hj; simp [Addr.add]
      case c2 => intro u hu; simp at hu; rcases hu with rfl; rfl
      case c3 => unfold maxLen; omega
      case c4 => omega
      case c5 => simp; omega
      intro v' w5 hown' hgrow _ _
      have HO : Hid (OwnInts g w5 v' (side ++ List.replicate (z + 1) 0)) := by
        unfold Hid OwnInts
        rw [pad_more, HPS.out, ivs_append, List.length_append]
        exact hown'
      have HX5 : Hid (Ext w w5) := Lib.hid ((hXr.trans (Ext.alloc wr _)).grown hgrow (fun b hb => by have := (ho'.lt b hb).1; have := HG.out; omega))
      have HG5 : Hid (g ≤ w5.heap.size) := Lib.hid (by have := hgrow.size; simp at this; omega)
      obtain ⟨Av, cv, rfl, _, _, _⟩ := (ownsRow_row hown').form
      clear hown' hgrow ho'
      go_wp2
      go_roundw
      case rel => exact ⟨z + 1, by omega, HO.out, HX5.out, HG5.out⟩
      case measure => have := HPL.out; simp only; omega
end Go.Proofs.YthhjbmlkncdigaaGreatDoor
end
