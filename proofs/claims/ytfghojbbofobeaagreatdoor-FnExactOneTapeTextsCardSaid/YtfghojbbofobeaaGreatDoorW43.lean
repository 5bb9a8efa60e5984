/- Contracts of the reference's texts of numbers, words and configurations. The numbers are from 0 to a million, the letters are digits.
Contract of the reference's text of a configuration with several tapes.
Contract of the reference's OneTapeTexts. -/
import Derived.Test.YtfghojbbofobeaaGreatDoorW33
import Derived.Test.YtfghojbbofobeaaGreatDoorW07
import Derived.Test.YtfghojbbofobeaaGreatDoorW37
import Derived.Laws.IdiomStrings
import Derived.Test.YtfghojbbofobeaaGreatDoorW40
import Derived.Test.YtfghojbbofobeaaGreatDoorW41
import Derived.Test.YtfghojbbofobeaaGreatDoorW35
import Derived.Test.YtfghojbbofobeaaGreatDoorW42
import Derived.Test.YtfghojbbofobeaaGreatDoorW04
import Derived.Test.YtfghojbbofobeaaGreatDoorW38
import Derived.Deep.CutBlock
section
set_option linter.unusedSimpArgs false
set_option linter.unusedVariables false
namespace Go.Proofs.YtfghojbbofobeaaGreatDoor
open Go Go.RowKit Go.Proofs
set_option maxHeartbeats 400000
theorem itoa_natF {n : Int} (h0 : 0 ≤ n) : Lib.itoa n = Lib.decDigits n.toNat := by
  unfold Lib.itoa
  rw [if_neg (by omega)]
/-- The digits of a number, none for 0. -/
def dgs (m : Nat) : List UInt8 := if m = 0 then [] else Lib.decDigits m
theorem dgs_step {m : Nat} (h : m ≠ 0) : dgs m = dgs (m / 10) ++ [UInt8.ofNat (48 + m % 10)] := by
  unfold dgs
  rw [if_neg h, Lib.decDigits]
  split
  · rename_i h9
    rw [if_pos (by omega), show m % 10 = m by omega]
    rfl
  · rename_i h9
    rw [if_neg (by omega)]
theorem dgs_len (m : Nat) (hm : m ≤ 1000000) : (dgs m).length ≤ 18 := by
  unfold dgs
  split
  · simp
  · exact digits_len m hm
theorem itoa_dgs {n : Int} (h0 : 0 < n) : Lib.itoa n = dgs n.toNat := by
  rw [itoa_natF (by omega)]
  unfold dgs
  rw [if_neg (by omega)]
theorem u8Info : (Tryz.prog.info? 5).map (fun i => (i.zero, i.size, i.bytes)) = some (some (.int .u8 0), 1, 1) := by kernel_rfl
/-- A list of bytes as cells. -/
def ubs (l : List UInt8) : List Value := l.map fun b => .int .u8 (b.toNat : Int)
theorem ubs_app (a b : List UInt8) : ubs (a ++ b) = ubs a ++ ubs b := by simp [ubs]
theorem ubs_get (l : List UInt8) (k : Nat) (h : k < l.length) : (ubs l)[k]? = some (.int .u8 (l[k].toNat : Int)) := by simp [ubs, h]
/-- The text of a row of bytes. -/
theorem ubs_conv {w : World} {base n c : Nat} {A : Option Addr} {l : List UInt8} (ho : w.ownsRow base 5 1 (.slice A n c) n (ubs l)) (hn : l.length = n) (h0 : 0 < n) : (convert 136 9 (.slice A n c)).run Tryz.prog w = .ok (.string (bsS l)) w := by
  obtain ⟨g, rfl, _, _⟩ := own_at ho h0
  subst hn
  exact run_convert_bytes_back w _ _ 5 _ c l Tryz.underlying136 Tryz.underlying5 Tryz.underlying9 (fun j hj => by
    have : (⟨g, 0, none⟩ : Addr).add j = ⟨g, j, none⟩ := by simp [Addr.add]; intro h; exact h.symm
    rw [this, ho.cellAt j (by omega), ubs_get l j hj])
theorem dig_fact {z : Int} (h0 : 0 ≤ z) (h1 : z ≤ 9) : IntKind.u8.wrap (48 + z) = ((digU z).toNat : Int) := by
  rw [digU_nat h0 h1]
  rcases (show z = 0 ∨ z = 1 ∨ z = 2 ∨ z = 3 ∨ z = 4 ∨ z = 5 ∨ z = 6 ∨ z = 7 ∨ z = 8 ∨ z = 9 by omega) with e | e | e | e | e | e | e | e | e | e <;> rw [e] <;> rfl
set_option maxRecDepth 20000 in
set_option maxHeartbeats 4000000 in
theorem l03Text_c (v : Value) (zs : List Int) (w : World) (h : Ints w v zs) (hz : ∀ z ∈ zs, 0 ≤ z ∧ z ≤ 9) (h0 : 0 < zs.length) (hl : zs.length ≤ 1048576) :
    Calls Tryz.prog 94 #[v] w fun e w' => e = .returned (.string (bsS (digB zs))) ∧ Ext w w' := by
  obtain ⟨i0, hi, hz0, hz1, hz2⟩ := info_parts u8Info
  obtain ⟨A, c, rfl, h1, h2⟩ := h.form
  have hne : ((zs.length : Int) == 0) = false := beq_eq_false_iff_ne.2 (by omega)
  obtain ⟨W, hW⟩ : ∃ W, w.alloc (.cells #[] 5) = W := ⟨_, rfl⟩
  have hX : Ext w W := by rw [← hW]; exact Ext.alloc _ _
  have ho0 : W.ownsRow w.heap.size 5 1 (.slice (some ⟨w.heap.size, 0, none⟩) 0 0) 0 (ubs (digB (zs.take 0))) := by
    rw [← hW]
    exact World.ownsRow_made (base := w.heap.size) (e := 5) (size := 1) w #[] 0 (by simp) (by unfold maxLen; omega) (by simp [ubs, digB])
  have HZ := Lib.hid hz
  go_enter Tryz.func94, Tryz.ntmps94
  go_wp2_with fail
  try rw [hW]
  clear hW
  go_loopw [3, 4] (fun tv i wr => ∃ k : Nat, k ≤ zs.length ∧ i = .int .i64 (k : Int) ∧ Ext w wr ∧ wr.ownsRow w.heap.size 5 1 tv k (ubs (digB (zs.take k)))) (fun _ i _ => zs.length - (intOf i).toNat)
  case atStart => exact ⟨0, Nat.zero_le _, rfl, hX, ho0⟩
  case round =>
    clear ho0 hX
    obtain ⟨k, hk, rfl, hX, ho⟩ := hrel
    obtain ⟨At, ct, rfl, hct, hct2, _⟩ := (ownsRow_row ho).form
    by_cases hlt : k < zs.length
    · obtain ⟨b', off, rfl, hc⟩ := (h.ext hX).at hlt
      have c0 := hc k hlt
      have hz0' := HZ.out _ (List.getElem_mem hlt)
      have hnx : Hid (ubs (digB (zs.take (k + 1))) = ubs (digB (zs.take k)) ++ [.int .u8 ((digU zs[k]).toNat : Int)]) := Lib.hid (by unfold digB; rw [List.take_succ_eq_append_getElem hlt, List.map_append, ubs_app]; rfl)
      generalize zs[k] = z at *
      have hwz := dig_fact hz0'.1 hz0'.2
      have hsz := hX.size
      clear hc
      go_wp2_with (at_builtin; refine wpList_append_own _ rfl _ _ 136 rfl w.heap.size 5 i0 (.int .u8 0) 1 1 Tryz.underlying136 hi hz0 hz1 hz2 rfl (by decide) _ _ _ rfl (ho.alloc _) ⟨wr.heap.size, 0, none⟩ 1 1 [.int .u8 ((digU z).toNat : Int)] rfl rfl ?c1 ?c2 ?c3 ?c4 ?c5 ?_)
      case c1 =>
        intro j u hj
        match j, hj with
        | 0, hj => simp at hj; subst hj; simp [Addr.add, hwz]
      case c2 => intro u hu; simp at hu; subst hu; rfl
      case c3 => unfold maxLen; omega
      case c4 => omega
      case c5 => simp; omega
      intro v' w3 hown' hgrow _
      have hX3' : Ext w w3 := hX.grown (grownBy_trans (World.grownBy_alloc _ _ _) hgrow) (fun b hb => (ho.lt b hb).1)
      have R : w3.ownsRow w.heap.size 5 1 v' (k + 1) (ubs (digB (zs.take (k + 1)))) := by rw [hnx.out]; exact hown'
      clear hown' hgrow ho
      go_wp2
      go_roundw
      case rel => exact ⟨k + 1, by omega, by go_num, hX3', R⟩
      case measure => simp [intOf]; omega
    · obtain rfl : k = zs.length := by omega
      have hke : zs.take zs.length = zs := List.take_length
      rw [hke] at ho
      have hcv := ubs_conv ho (by simp [digB]) h0
      clear hke
      go_wp2
      go_ret
      exact ⟨rfl, hX⟩
theorem l05Digits_c (v : Value) (zs : List Int) (w : World) (h : Ints w v zs) (hz : ∀ z ∈ zs, 0 ≤ z ∧ z ≤ 9) (hl : zs.length ≤ 1048576) :
    Calls Tryz.prog 55 #[v] w fun e w' => e = .returned (.string (bsS (digB zs))) ∧ Ext w w' := by
  obtain ⟨A, c, rfl, h1, h2⟩ := h.form
  by_cases h0 : 0 < zs.length
  · have hne : ((zs.length : Int) == 0) = false := beq_eq_false_iff_ne.2 (by omega)
    have hT := l03Text_c _ zs w h hz h0 hl
    go_enter Tryz.func55, Tryz.ntmps55
    go_wp2_with fail
    refine hT.mono ?_
    rintro e w' ⟨rfl, hx⟩
    go_wp2
    go_ret
    exact ⟨rfl, hx⟩
  · have hz0 : zs = [] := List.length_eq_zero_iff.1 (by omega)
    subst hz0
    go_enter Tryz.func55, Tryz.ntmps55
    go_wp2
    go_ret
    exact ⟨rfl, Ext.refl _⟩
theorem one_u8 {w : World} {x : Int} (k : Nat) (u : Value) (h : [Value.int .u8 x][k]? = some u) : (w.alloc (.cells #[.int .u8 x] 5)).cell? ((⟨w.heap.size, 0, none⟩ : Addr).add k) = some u := by
  match k, h with
  | 0, h => simp at h; subst h; simp [Addr.add]
theorem wrap_nat {q : Nat} (h : q ≤ 1000000) : wrap64 (q : Int) = (q : Int) := by unfold wrap64; omega
theorem meas_fact (q k : Nat) (h : q < k) (hq : q ≤ 1000000) : (intOf (Value.int IntKind.i64 (wrap64 (q : Int)))).toNat < (intOf (Value.int IntKind.i64 (k : Int))).toNat := by
  rw [wrap_nat hq]
  simp only [intOf]
  omega
set_option maxRecDepth 20000 in
set_option maxHeartbeats 4000000 in
theorem l01Dec_c (n : Int) (w : World) (n0 : 0 ≤ n) (n1 : n ≤ 1000000) :
    Calls Tryz.prog 54 #[.int .i64 n] w fun e w' => e = .returned (.string (itoaS n)) ∧ Ext w w' := by
  obtain ⟨i0, hi, hz0, hz1, hz2⟩ := info_parts u8Info
  by_cases hn0 : n = 0
  · subst hn0
    have e : itoaS 0 = ⟨#[48]⟩ := by
      unfold itoaS
      rw [itoa_natF (by omega), Lib.decDigits]
      rfl
    rw [e]
    go_enter Tryz.func54, Tryz.ntmps54
    go_wp2
    go_ret
    exact ⟨rfl, Ext.refl _⟩
  · obtain ⟨N, rfl⟩ : ∃ N : Nat, n = (N : Int) := ⟨n.toNat, by omega⟩
    have hN0 : N ≠ 0 := by omega
    have hne : ((N : Int) == 0) = false := beq_eq_false_iff_ne.2 (by omega)
    have hlt0 : ¬ (N : Int) < 0 := by omega
    have hlt0' : decide ((N : Int) < 0) = false := decide_eq_false hlt0
    have HE : Hid (itoaS (N : Int) = bsS (dgs N)) := by
      unfold Hid itoaS bsS
      rw [itoa_dgs (by omega), Int.toNat_natCast]
    have HLN := Lib.hid (dgs_len N (by omega))
    have HP : Hid (0 < (dgs N).length) := by
      unfold Hid
      rw [dgs_step hN0]
      simp
    have HN1 : Hid (N ≤ 1000000) := by unfold Hid; omega
    obtain ⟨W, hW⟩ : ∃ W, w.alloc (.cells #[] 5) = W := ⟨_, rfl⟩
    have hX : Ext w W := by rw [← hW]; exact Ext.alloc _ _
    have ho0 : W.ownsRow w.heap.size 5 1 (.slice (some ⟨w.heap.size, 0, none⟩) 0 0) 0 (ubs []) := by
      rw [← hW]
      exact World.ownsRow_made (base := w.heap.size) (e := 5) (size := 1) w #[] 0 (by simp) (by unfold maxLen; omega) (by simp [ubs])
    clear n0 n1 hn0
    go_enter Tryz.func54, Tryz.ntmps54
    go_wp2_with fail
    try rw [hW]
    clear hW
    go_loopw [3, 4, 5] (fun tv i dv wr => ∃ (k : Nat) (D : List UInt8), i = .int .i64 (k : Int) ∧ k ≤ N ∧ dgs N = dgs k ++ D.reverse ∧ Ext w wr ∧ wr.ownsRow w.heap.size 5 1 tv D.length (ubs D)) (fun _ i _ _ => (intOf i).toNat)
    case atStart => exact ⟨N, [], rfl, Nat.le_refl _, by simp, hX, ho0⟩
    case round =>
      clear ho0 hX
      obtain ⟨k, D, rfl, hk, hD, hX, ho⟩ := hrel
      obtain ⟨At, ct, rfl, hct, hct2, _⟩ := (ownsRow_row ho).form
      by_cases hk0 : k = 0
      · subst hk0
        rw [show ((0 : Nat) : Int) = 0 from rfl]
        have HD : Hid (D.reverse = dgs N) := Lib.hid (by rw [hD]; simp [dgs])
        clear hD
        have HDL : Hid (D.length = (dgs N).length) := by unfold Hid; rw [← HD.out, List.length_reverse]
        obtain ⟨M, hM⟩ : ∃ M, D.length = M := ⟨_, rfl⟩
        have HM := Lib.hid hM
        rw [hM] at ho hct ⊢
        clear hM
        have hM0 : 0 < M := by rw [← HM.out, HDL.out]; exact HP.out
        have hM1 : M ≤ 18 := by rw [← HM.out, HDL.out]; exact HLN.out
        obtain ⟨g, rfl, hg1, hg2⟩ := own_at ho hM0
        obtain ⟨V, hV⟩ : ∃ V, wr.alloc (.cells #[] 5) = V := ⟨_, rfl⟩
        have hXV : Ext wr V := by rw [← hV]; exact Ext.alloc _ _
        have ho2 : V.ownsRow wr.heap.size 5 1 (.slice (some ⟨wr.heap.size, 0, none⟩) 0 0) 0 (ubs ((dgs N).take 0)) := by
          rw [← hV]
          exact World.ownsRow_made (base := wr.heap.size) (e := 5) (size := 1) wr #[] 0 (by simp) (by unfold maxLen; omega) (by simp [ubs])
        obtain ⟨h0, hh0⟩ : ∃ h0, wr.heap.size = h0 := ⟨_, rfl⟩
        have hX0 : w.heap.size ≤ h0 := by rw [← hh0]; exact hX.size
        rw [hh0] at ho2 hg2
        go_wp2_with fail
        try rw [hh0]
        try rw [hV]
        have hXwV := hX.trans hXV
        have hoV := ownsRow_ext ho hXV
        have hVs : h0 ≤ V.heap.size := by rw [← hh0]; exact hXV.size
        clear hV hXV ho hX hh0
        go_loopw [6, 7] (fun tv i wr => ∃ j : Nat, j ≤ M ∧ i = .int .i64 ((M : Int) - 1 - j) ∧ Below h0 V wr ∧ wr.ownsRow h0 5 1 tv j (ubs ((dgs N).take j))) (fun _ i _ => (intOf i + 1).toNat)
        case atStart => exact ⟨0, Nat.zero_le _, by simp, Below.refl _ _, ho2⟩
        case round =>
          clear ho2
          obtain ⟨j, hj, rfl, hB, ho⟩ := hrel
          obtain ⟨Aj, cj, rfl, hcj, hcj2, _⟩ := (ownsRow_row ho).form
          by_cases hlt : j < M
          · have hge : (0 : Int) ≤ (M : Int) - 1 - j := by omega
            have hix : (M : Int) - 1 - (j : Int) = ((M - 1 - j : Nat) : Int) := by omega
            have hdl : j < (dgs N).length := by rw [← HDL.out, HM.out]; exact hlt
            have hDl : M - 1 - j < D.length := by rw [HM.out]; omega
            have hval : D[M - 1 - j] = (dgs N)[j] := by
              have e1 : (dgs N)[j] = D.reverse[j]'(by rw [HD.out]; exact hdl) := by simp only [HD.out]
              rw [e1, List.getElem_reverse]
              simp only [HM.out]
            have hcl : wr.cell? ⟨g, M - 1 - j, none⟩ = some (.int .u8 (((dgs N)[j]).toNat : Int)) := by
              have : wr.heap[g]? = V.heap[g]? := Below.block hB _ hg2
              have e := hoV.cellAt (M - 1 - j) (by omega)
              rw [ubs_get _ _ hDl, hval] at e
              rw [← e]
              unfold World.cell?
              rw [this]
            have hnx : Hid (ubs ((dgs N).take (j + 1)) = ubs ((dgs N).take j) ++ [.int .u8 (((dgs N)[j]).toNat : Int)]) := Lib.hid (by rw [List.take_succ_eq_append_getElem hdl, ubs_app]; rfl)
            generalize (dgs N)[j] = z at *
            rw [hix]
            go_wp2_with (at_builtin; refine wpList_append_own _ rfl _ _ 136 rfl h0 5 i0 (.int .u8 0) 1 1 Tryz.underlying136 hi hz0 hz1 hz2 rfl (by decide) _ _ _ rfl (ho.alloc _) ⟨wr.heap.size, 0, none⟩ 1 1 [.int .u8 (z.toNat : Int)] rfl rfl ?c1 ?c2 ?c3 ?c4 ?c5 ?_)
            case c1 => intro j u hj; exact one_u8 j u hj
            case c2 => intro u hu; simp at hu; subst hu; rfl
            case c3 => unfold maxLen; omega
            case c4 => omega
            case c5 => simp; have := Below.size hB; omega
            intro v' w3 hown' hgrow _
            have hB3 : Below h0 V w3 := hB.grown (grownBy_trans (World.grownBy_alloc _ _ _) hgrow) (by have := Below.size hB; omega) (fun b hb => (ho.lt b hb).1)
            have R : w3.ownsRow h0 5 1 v' (j + 1) (ubs ((dgs N).take (j + 1))) := by rw [hnx.out]; exact hown'
            clear hown' hgrow ho
            go_wp2
            go_roundw
            case rel => exact ⟨j + 1, by omega, by first | go_num | (congr 1; omega), hB3, R⟩
            case measure => simp [intOf] <;> omega
          · obtain rfl : j = M := by omega
            have hke : (dgs N).take j = dgs N := List.take_of_length_le (by rw [← HDL.out, HM.out]; exact Nat.le_refl _)
            rw [hke] at ho
            have hcv := ubs_conv ho (by rw [← HDL.out, HM.out]) hM0
            have hge : ¬ (0 : Int) ≤ (j : Int) - 1 - j := by omega
            clear hke
            go_wp2
            go_ret
            exact ⟨by rw [HE.out]; rfl, Below.trans hXwV (Below.mono hB hX0)⟩
      · have hd1 : ((k : Int) != 0) = true := by simp; omega
        have hq : (k : Int).tdiv 10 = ((k / 10 : Nat) : Int) := by rw [Int.tdiv_eq_ediv_of_nonneg (by omega)]; omega
        have hm : (k : Int).tmod 10 = ((k % 10 : Nat) : Int) := by rw [Int.tmod_eq_emod_of_nonneg (by omega)]; omega
        have hqw : IntKind.i64.wrap ((k : Int).tdiv 10) = ((k / 10 : Nat) : Int) := by rw [hq]; exact IntWalk.i64_in _ (by have := HN1.out; omega)
        have HST := Lib.hid (dgs_step hk0)
        have hdd : UInt8.ofNat (48 + k % 10) = digU ((k % 10 : Nat) : Int) := by unfold digU; rw [Int.toNat_natCast]
        rw [hdd] at HST
        have HDG := Lib.hid hD
        clear hdd hD
        obtain ⟨d, hd⟩ : ∃ d, k % 10 = d := ⟨_, rfl⟩
        have hd9 : d ≤ 9 := by omega
        rw [hd] at hm HST
        have hwz := dig_fact (z := (d : Int)) (by omega) (by omega)
        have hdn : ¬ (d : Int) < 0 := by omega
        have hsz := hX.size
        have hDlen : D.length ≤ 18 := by
          have h1 := HLN.out
          rw [HDG.out, List.length_append, List.length_reverse] at h1
          omega
        obtain ⟨q, hqq⟩ : ∃ q, k / 10 = q := ⟨_, rfl⟩
        have HQ := Lib.hid hqq
        rw [hqq] at hq hqw HST
        have hqk : q < k := by omega
        have HQ64 : Hid (wrap64 (q : Int) = (q : Int)) := Lib.hid (wrap_nat (Nat.le_trans (Nat.le_trans (Nat.le_of_lt hqk) hk) HN1.out))
        clear hd hqq
        go_wp2_with (at_builtin; refine wpList_append_own _ rfl _ _ 136 rfl w.heap.size 5 i0 (.int .u8 0) 1 1 Tryz.underlying136 hi hz0 hz1 hz2 rfl (by decide) _ _ _ rfl (ho.alloc _) ⟨wr.heap.size, 0, none⟩ 1 1 [.int .u8 ((digU (d : Int)).toNat : Int)] rfl rfl (fun j u hj => one_u8 j u hj) (fun u hu => by simp at hu; subst hu; rfl) (by unfold maxLen; omega) (by omega) (by simp; omega) ?_)
        intro v' w3 hown' hgrow _
        have hX3' : Ext w w3 := hX.grown (grownBy_trans (World.grownBy_alloc _ _ _) hgrow) (fun b hb => (ho.lt b hb).1)
        have R : w3.ownsRow w.heap.size 5 1 v' (D ++ [digU (d : Int)]).length (ubs (D ++ [digU (d : Int)])) := by
          rw [ubs_app, List.length_append]; exact hown'
        have HR : Hid (dgs N = dgs q ++ (D ++ [digU (d : Int)]).reverse) := by
          unfold Hid
          rw [HDG.out, HST.out]
          simp
        clear hown' hgrow ho
        go_wp2
        go_roundw
        case rel => exact ⟨q, _, by rw [HQ64.out], by omega, HR.out, hX3', R⟩
        case measure =>
          exact meas_fact q k hqk (Nat.le_trans (by omega) HN1.out)
end Go.Proofs.YtfghojbbofobeaaGreatDoor
end
section
set_option linter.unusedSimpArgs false
set_option linter.unusedVariables false
namespace Go.Proofs.YtfghojbbofobeaaGreatDoor
open Go Go.RowKit Go.Proofs
set_option maxHeartbeats 400000
theorem bsS_app (a b : List UInt8) : bsS a ++ bsS b = bsS (a ++ b) := by
  apply ByteArray.ext
  simp [ByteArray.data_append]
theorem bsS_of {s : ByteArray} {l : List UInt8} (h : s.data.toList = l) : s = bsS l := by
  apply ByteArray.ext
  show s.data = l.toArray
  rw [← h]
set_option maxRecDepth 20000 in
set_option maxHeartbeats 4000000 in
theorem l19Multi_c (bc : Nat) (c : MConfD) (tv : Value) (w : World) (q0 : w.cell? ⟨bc, 0, none⟩ = some (.int .i64 c.q)) (q1 : w.cell? ⟨bc, 1, none⟩ = some tv) (hT : Tapes w tv c.tapes) (hd : MDig c) :
    Calls Tryz.prog 27 #[.pointer (some ⟨bc, 0, none⟩)] w fun e w' => e = .returned (.string (bsS (mconT c))) ∧ Ext w w' := by
  obtain ⟨z0, z9, n3, hdt⟩ := hd
  obtain ⟨A, ct, rfl, ht1, ht2⟩ := hT.form
  have LD := l01Dec_c c.q w (by omega) (by omega)
  have hsQ := itoaS_size (n := c.q) z0 (by omega)
  have HQA := Lib.hid (headQ_app c.q)
  have k1 : ¬ 9223372036854775807 < 1 + (itoaS c.q).size := by omega
  have k2 : ¬ 9223372036854775807 < 1 + (itoaS c.q).size + 1 := by omega
  have hqs0 : ((⟨#[40]⟩ : ByteArray) ++ itoaS c.q ++ ⟨#[41]⟩).size ≤ 30 := by
    have z1 : (⟨#[40]⟩ : ByteArray).size = 1 := rfl
    have z2 : (⟨#[41]⟩ : ByteArray).size = 1 := rfl
    rw [ByteArray.size_append, ByteArray.size_append]; omega
  have HHS := Lib.hid (bsS_of HQA.out)
  go_enter Tryz.func27, Tryz.ntmps27
  go_wp2_with fail
  refine LD.mono ?_
  rintro e w1 ⟨rfl, hx1⟩
  have p1 := hx1.cell q1
  generalize hHD : [40] ++ Lib.itoa c.q ++ [41] = hd0 at *
  have hhd : hd0.length ≤ 30 := by rw [← HQA.out, Array.length_toList]; exact hqs0
  generalize hsq : (⟨#[40]⟩ : ByteArray) ++ itoaS c.q ++ ⟨#[41]⟩ = sq at *
  clear LD hqs0
  go_wp2_with fail
  try rw [hsq]
  go_loopw [3, 4] (fun s i wr => ∃ k : Nat, k ≤ c.tapes.length ∧ s = .string (bsS (hd0 ++ (c.tapes.take k).flatMap tapT)) ∧ i = .int .i64 (k : Int) ∧ Ext w wr) (fun _ i _ => c.tapes.length - (intOf i).toNat)
  case atStart => exact ⟨0, Nat.zero_le _, by rw [HHS.out]; simp, rfl, hx1⟩
  case round =>
    clear hx1 p1
    obtain ⟨k, hk, rfl, rfl, hE⟩ := hrel
    have p1 := hE.cell q1
    by_cases hlt : k < c.tapes.length
    · obtain ⟨b4, o4, lv, rv, rfl, d0, d1, o1, o2⟩ := (hT.ext hE).at hlt
      have hdk := hdt _ (List.getElem_mem hlt)
      have hnx : Hid (hd0 ++ (c.tapes.take (k + 1)).flatMap tapT = (hd0 ++ (c.tapes.take k).flatMap tapT) ++ tapT c.tapes[k]) := Lib.hid (by rw [List.take_succ_eq_append_getElem hlt, List.flatMap_append, List.append_assoc]; simp)
      have hll : (bsS (hd0 ++ (c.tapes.take k).flatMap tapT)).size ≤ 1300 := by
        have := flatT_len (c.tapes.take k) (fun t ht => ⟨(hdt t (List.mem_of_mem_take ht)).1, (hdt t (List.mem_of_mem_take ht)).2.1⟩)
        rw [bs_size, List.length_append]
        simp only [List.length_take] at this
        omega
      generalize hd0 ++ (c.tapes.take k).flatMap tapT = acc at *
      generalize c.tapes[k] = t at *
      obtain ⟨y1, y2, y3, y4⟩ := hdk
      obtain ⟨A1, e1, rfl, _, _⟩ := o1.form
      obtain ⟨A2, e2, rfl, _, _⟩ := o2.form
      have hXd := Ext.drew wr
      have b0 := hXd.cell p1
      have b1 := hXd.cell d0
      have b2 := hXd.cell d1
      have hrv := l03Reverse_c _ t.l wr.drew (o1.ext hXd) (by omega)
      have hsL : (bsS (digB t.l.reverse)).size ≤ 200 := by rw [bs_size]; simp [digB]; omega
      have hsR : (bsS (digB t.r)).size ≤ 200 := by rw [bs_size]; simp [digB]; omega
      have hA := tapT_app t
      have hdL : ∀ (v : Value) (w : World), Ints w v t.l.reverse → Calls Tryz.prog 55 #[v] w fun e w' => e = .returned (.string (bsS (digB t.l.reverse))) ∧ Ext w w' := fun v w h => l05Digits_c v _ w h (fun z hz => y3 z (List.mem_reverse.1 hz)) (by simp; omega)
      have hdR : ∀ (v : Value) (w : World), Ints w v t.r → Calls Tryz.prog 55 #[v] w fun e w' => e = .returned (.string (bsS (digB t.r))) ∧ Ext w w' := fun v w h => l05Digits_c v _ w h y4 (by omega)
      generalize bsS (digB t.l.reverse) = sL at *
      generalize bsS (digB t.r) = sR at *
      have m1 : ¬ 9223372036854775807 < 1 + sL.size := by omega
      have m2 : ¬ 9223372036854775807 < 1 + sL.size + 1 := by omega
      have m3 : ¬ 9223372036854775807 < 1 + sL.size + 1 + sR.size := by omega
      have HA := Lib.hid (bsS_of hA)
      have HBA : Hid (bsS acc ++ ((⟨#[124]⟩ : ByteArray) ++ sL ++ ⟨#[94]⟩ ++ sR) = bsS (acc ++ tapT t)) := by unfold Hid; rw [HA.out, bsS_app]
      generalize bsS acc = sA at *
      have m4 : ¬ 9223372036854775807 < sA.size + (1 + sL.size + 1 + sR.size) := by omega
      clear hA hdt d0 d1
      go_wp2_with fail
      refine wp_region_ordT 24 (readsT [0, 1, 2, 3, 4, 5, 6, 7, 8, 13, 14, 15, 16, 17, 18, 19, 20] (.stir 9 (.stir 10 (readsT [11, 12] (.stir 21 (readsT [22, 23] .done)))))) (by kernel_rfl) (by kernel_rfl) (fun _ _ _ _ _ h => h) ?_
      simp only [readsT]
      iterate 17 (refine wpOrdT_read (v := ?_) (by rfl) (Or.inl ⟨by rfl, fun x hx => ?_⟩) ?_; rotate_left; (· have a1 := hx.cell b0; have a2 := hx.cell b1; have a3 := hx.cell b2; go_simp; try with_reducible rfl); try simp only [Act.put, List.setIfInBounds_toArray, List.set_cons_zero, List.set_cons_succ])
      refine wpOrdT_keep (by rfl) (fun K hK => ?_)
      go_simp
      refine hrv.mono ?_
      rintro e w3 ⟨u, rfl, ho, hx3⟩
      obtain ⟨Au, cu, rfl, _, _⟩ := ho.ints.form
      rw [List.length_reverse] at *
      refine hK _ _ hx3 ?_
      clear hK K
      refine wpOrdT_keep (by rfl) (fun K hK => ?_)
      go_simp
      refine (hdL _ w3 (by simpa using ho.ints)).mono ?_
      rintro e w4 ⟨rfl, hx4⟩
      refine hK _ _ (hx3.trans hx4) ?_
      clear hK K
      refine wpOrdT_read (v := ?_) (by rfl) (Or.inl ⟨by rfl, fun x hx => ?_⟩) ?_
      rotate_left
      · go_simp; try with_reducible rfl
      try simp only [Act.put, List.setIfInBounds_toArray, List.set_cons_zero, List.set_cons_succ]
      refine wpOrdT_read (v := ?_) (by rfl) (Or.inl ⟨by rfl, fun x hx => ?_⟩) ?_
      rotate_left
      · go_simp; try with_reducible rfl
      try simp only [Act.put, List.setIfInBounds_toArray, List.set_cons_zero, List.set_cons_succ]
      refine wpOrdT_keep (by rfl) (fun K hK => ?_)
      go_simp
      refine (hdR _ w4 (o2.ext (hXd.trans (hx3.trans hx4)))).mono ?_
      rintro e w5 ⟨rfl, hx5⟩
      have hx := (hx3.trans hx4).trans hx5
      refine hK _ _ hx ?_
      clear hK K
      refine wpOrdT_read (v := ?_) (by rfl) (Or.inl ⟨by rfl, fun x hx => ?_⟩) ?_
      rotate_left
      · go_simp; try with_reducible rfl
      try simp only [Act.put, List.setIfInBounds_toArray, List.set_cons_zero, List.set_cons_succ]
      refine wpOrdT_read (v := ?_) (by rfl) (Or.inl ⟨by rfl, fun x hx => ?_⟩) ?_
      rotate_left
      · go_simp; try with_reducible rfl
      try simp only [Act.put, List.setIfInBounds_toArray, List.set_cons_zero, List.set_cons_succ]
      refine wpOrdT_done ?_
      try simp only [List.drop_succ_cons, List.drop_zero]
      go_wp2_with fail
      go_roundw
      case rel => exact ⟨k + 1, by omega, by rw [hnx.out, ← HBA.out], by go_num, hE.trans (hXd.trans hx)⟩
      case measure => simp [intOf]; omega
    · have hke : c.tapes.take k = c.tapes := List.take_of_length_le (by omega)
      rw [hke]
      clear hke
      go_wp2
      go_ret
      refine ⟨?_, hE⟩
      rw [← hHD]
      rfl
end Go.Proofs.YtfghojbbofobeaaGreatDoor
end
section
set_option linter.unusedSimpArgs false
set_option linter.unusedVariables false
namespace Go.Proofs.YtfghojbbofobeaaGreatDoor
open Go Go.RowKit Go.Proofs Go.Maps
set_option maxHeartbeats 400000
theorem strInfoQ : (Tryz.prog.info? 9).map (fun i => (i.zero, i.size, i.bytes)) = some (some (.string ⟨#[]⟩), 1, 16) := by kernel_rfl
theorem MkM.machQ {base : Nat} {w : World} {bk b : Nat} {m : MultiD} {sy st : Int} {rs : List RuleD} {ps : List MP} {rv pv : Value} {vs : List Value} (h : MkM base w bk b m sy st rs ps rv pv vs) : MachO w bk ⟨sy, st, rs⟩ := by
  have x4 := h.blk.cell 4
  have x5 := h.blk.cell 5
  have x6 := h.blk.cell 6
  simp only [List.getElem?_toArray, List.getElem?_cons_zero, List.getElem?_cons_succ] at x4 x5 x6
  exact ⟨rv, x4, x5, x6, h.rules.rules⟩
/-- The text of a place that is looked at first. -/
theorem txtW_no {m : MultiD} {p : MP} {x : ConfD} (h : p ≠ lookP p.a) : txtW m p x = [] := by
  unfold txtW
  rw [if_neg h]
set_option maxRecDepth 20000 in
set_option maxHeartbeats 4000000 in
theorem specOneTapeTexts_c (m : MultiD) (mv wv : Value) (ws : List (List Int)) (vs : List Value) (n : Int) (w : World) (hM : Mult w mv m) (hW : Row w 1 wv ws.length vs) (hI : ∀ i, (h : i < ws.length) → ∃ u, vs[i]? = some u ∧ Ints w u ws[i] ∧ ws[i].length ≤ 1048576) :
    Calls Tryz.prog 6 #[mv, wv, .int .i64 n] w (TxRes w (OTxt m ws n)) := by
  obtain ⟨rv, rfl, hR⟩ := id hM
  obtain ⟨A, cA, rfl, _, _⟩ := hR.form
  obtain ⟨B, cB, rfl, hB1, hB2, hvl⟩ := id hW.form
  obtain ⟨g, hg⟩ : ∃ g, w.heap.size = g := ⟨_, rfl⟩
  obtain ⟨V, hV⟩ : ∃ V, V = w.alloc (.cells #[.int .i64 m.tp, .int .i64 m.sy, .int .i64 m.st, .slice A m.rules.length cA] 33) := ⟨_, rfl⟩
  have hX : Ext w V := by rw [hV]; exact Ext.alloc _ _
  have bM : Blk V g 33 #[.int .i64 m.tp, .int .i64 m.sy, .int .i64 m.st, .slice A m.rules.length cA] := by rw [hV]; exact Blk.new _ _ _ _ hg
  have IS := l06Is_c g m _ V bM (hR.ext hX)
  go_enter Tryz.func6, Tryz.ntmps6
  go_wp2_with fail
  try rw [← hV]
  try rw [hg]
  clear hV
  refine IS.mono ?_
  rintro e w1 ⟨rfl, hx1⟩
  clear IS
  have hX1 := hX.trans hx1
  have bM1 := bM.ext hx1
  cases hm : multiOk m with
  | false =>
    have HF := Lib.hid (OTxt.bad (ws := ws) (n := n) hm)
    clear hm
    go_wp2
    go_ret2
    exact TxRes.none HF.out hX1
  | true =>
    have HM := Lib.hid hm
    have ST := l19Steps_c n w1
    cases hbu : inB n 0 599 with
    | false =>
      have HF := Lib.hid (OTxt.steps (ws := ws) hm hbu)
      rw [hbu] at ST
      clear hm hbu
      go_wp2_with fail
      refine ST.mono ?_
      rintro e _ ⟨rfl, rfl⟩
      clear ST
      go_wp2
      go_ret2
      exact TxRes.none HF.out hX1
    | true =>
      rw [hbu] at ST
      have hn := inB_iff.1 hbu
      have HD := Lib.hid hbu
      have MS := l13MakeSeveral_c g m w1 ⟨A, cA, bM1, hR.ext hX1⟩ hm
      clear hm hbu
      go_wp2_with fail
      refine ST.mono ?_
      rintro e _ ⟨rfl, rfl⟩
      clear ST
      go_wp2_with fail
      refine MS.mono ?_
      rintro e w2 ⟨hres, hx2⟩
      clear MS
      have hX2 := hX1.trans hx2
      have bM2 := bM1.ext hx2
      rcases hres with ⟨hnn, bk, rfl⟩ | ⟨s, bk, rvx, pvx, vsx, hs, rfl, hst, hok, l1, l2⟩
      · have HF := Lib.hid (OTxt.big (ws := ws) HM.out HD.out hnn)
        clear hnn
        go_wp2
        go_ret2
        exact TxRes.none HF.out hX2
      · have HS := Lib.hid hs
        have HOK := Lib.hid hok
        have m0 := bM2.cell 0
        have m1 := bM2.cell 1
        have m2 := bM2.cell 2
        have m3 := bM2.cell 3
        simp only [List.getElem?_toArray, List.getElem?_cons_zero, List.getElem?_cons_succ] at m0 m1 m2 m3
        have SO := specStartOneTape_c m (.agg #[.int .i64 m.tp, .int .i64 m.sy, .int .i64 m.st, .slice A m.rules.length cA]) (.slice B ws.length cB) ws vs w2 ⟨_, rfl, hR.ext hX2⟩ (hW.ext hX2) (fun i hi => by
          obtain ⟨u, e, iu, hf⟩ := hI i hi
          exact ⟨u, e, iu.ext hX2, hf⟩)
        clear hs hok
        go_wp2_with fail
        refine SO.mono ?_
        rintro e w3 ⟨lvs, rvs, rfl, ol3, or3, hx3⟩
        clear SO m0 m1 m2 m3
        obtain ⟨Al, cl, rfl, _, _⟩ := id ol3.ints.form
        obtain ⟨Ar, cr, rfl, _, _⟩ := id or3.ints.form
        have hX3 := hX2.trans hx3
        by_cases hk : (startOC m ws).2 = 0
        · obtain ⟨hwok, hlen, hsc⟩ := startOC_ok HM.out hk
          have hcf := startO_conf HM.out HS.out hwok hlen
          have HK := Lib.hid hk
          rw [hsc] at ol3 or3 ⊢
          simp only at ol3 or3 ⊢
          have HMO := Lib.hid (one_ok HM.out HS.out).1
          have HRUN : Hid (∀ L kk, TRun (oneM m s) (startO m ws) n.toNat (txtO m s) L kk → OTxt m ws n L kk) := Lib.hid (fun L kk h => OTxt.run HM.out HD.out HS.out HK.out h)
          obtain ⟨x0, hx0⟩ : ∃ q, startO m ws = q := ⟨_, rfl⟩
          rw [hx0] at hcf ol3 or3 HRUN ⊢
          have HCF := Lib.hid hcf
          obtain ⟨W4, hW4⟩ : ∃ W, W = w3.alloc (.cells #[.int .i64 x0.q, .slice Al x0.l.length cl, .slice Ar x0.r.length cr] 52) := ⟨_, rfl⟩
          have hX4 : Ext w3 W4 := by rw [hW4]; exact Ext.alloc _ _
          have bC4 : Blk W4 w3.heap.size 52 #[.int .i64 x0.q, .slice Al x0.l.length cl, .slice Ar x0.r.length cr] := by rw [hW4]; exact Blk.new _ _ _ _ rfl
          obtain ⟨gc, hgc⟩ : ∃ k, w3.heap.size = k := ⟨_, rfl⟩
          rw [hgc] at bC4
          have zD := Ext.drew W4
          have hx34 := hx3.trans (hX4.trans zD)
          have hE4 := hX2.trans hx34
          have stD := hst.ext hx34
          have bMD := bM2.ext hx34
          have g0 := (bC4.ext zD).cell 0
          have g1 := (bC4.ext zD).cell 1
          have g2 := (bC4.ext zD).cell 2
          simp only [List.getElem?_toArray, List.getElem?_cons_zero, List.getElem?_cons_succ] at g0 g1 g2
          have hRT : Calls Tryz.prog 23 #[.pointer (some ⟨bk, 4, none⟩), .agg #[.int .i64 x0.q, .slice Al x0.l.length cl, .slice Ar x0.r.length cr], .int .i64 (n.toNat : Int)] W4.drew (TrOut W4.drew (oneM m s) x0 n.toNat) :=
            l19Run_c bk (oneM m s) x0 _ _ n.toNat W4.drew stD.machQ HMO.out hcf (ol3.ext (hX4.trans zD)).ints (or3.ext (hX4.trans zD)).ints (by omega)
          rw [Int.toNat_of_nonneg hn.1] at hRT
          clear hk hwok hlen hsc hx0 hcf hst
          go_upto_region 11 with fail
          try rw [← hW4]
          try rw [hgc]
          clear hW4
          refine wp_region_ordT 10 (readsT [0, 1, 2, 3, 4] (.stir 5 (readsT [6, 7, 8, 9] .done))) (by kernel_rfl) (by kernel_rfl) (fun _ _ _ _ _ h => h) ?_
          simp only [readsT]
          generalize W4.drew = wD at *
          iterate 5 (refine wpOrdT_read (v := ?_) (by rfl) (Or.inl ⟨by rfl, fun x hx => ?_⟩) ?_; rotate_left; (· have a4 := hx.cell g0; have a5 := hx.cell g1; have a6 := hx.cell g2; go_simp; try with_reducible rfl); try simp only [Act.put, List.setIfInBounds_toArray, List.set_cons_zero, List.set_cons_succ])
          refine wpOrdT_keep (by rfl) (fun K hK => ?_)
          go_simp
          go_at_call 23
          refine hRT.mono ?_
          rintro e w5 (⟨T, tv, vst, hEnd, rfl, hL, hx5⟩ | ⟨hFull, rfl, hx5⟩)
          · obtain ⟨A5, c5, rfl, _, _, _⟩ := (ownsRow_row hL.own).form
            obtain ⟨NL, hNL⟩ : ∃ NL, T + 1 = NL := ⟨_, rfl⟩
            have HNL := Lib.hid hNL
            rw [hNL] at hL ⊢
            clear hNL
            have HEnd := Lib.hid hEnd
            clear hEnd
            refine hK _ _ hx5 ?_
            clear hK K hRT
            iterate 4 (refine wpOrdT_read (v := ?_) (by rfl) (Or.inl ⟨by rfl, fun x hx => ?_⟩) ?_; rotate_left; (· go_simp; try with_reducible rfl); try simp only [Act.put, List.setIfInBounds_toArray, List.set_cons_zero, List.set_cons_succ])
            refine wpOrdT_done ?_
            try simp only [List.drop_succ_cons, List.drop_zero]
            obtain ⟨h0, hh0⟩ : ∃ h, w5.heap.size = h := ⟨_, rfl⟩
            obtain ⟨W6, hW6⟩ : ∃ W6, w5.alloc (.cells #[] 9) = W6 := ⟨_, rfl⟩
            have hX6 : Ext w5 W6 := by rw [← hW6]; exact Ext.alloc _ _
            have ho6 : W6.ownsRow h0 9 1 (.slice (some ⟨h0, 0, none⟩) 0 0) 0 (svB (firstT (oneM m s) x0 (txtO m s) 0)) := by
              rw [← hW6, ← hh0]
              exact World.ownsRow_made (base := w5.heap.size) (e := 9) (size := 1) w5 #[] 0 (by simp) (by unfold maxLen; omega) (by simp)
            clear g0 g1 g2
            go_wp2_with fail
            try rw [hh0]
            try rw [hW6]
            clear hW6
            have hnl : NL ≤ 600 := by have := HEnd.out.le; have := HNL.out; omega
            obtain ⟨i0, hi, hz0, hz1, hz2⟩ := info_parts strInfoQ
            have hX5 := hE4.trans hx5
            have st5 := stD.ext hx5
            have bM5 := bMD.ext hx5
            go_loopw [14, 15] (fun tv iv wr => ∃ i : Nat, i ≤ NL ∧ iv = .int .i64 (i : Int) ∧ wr.ownsRow h0 9 1 tv i (svB (firstT (oneM m s) x0 (txtO m s) i)) ∧ Ext w5 wr) (fun _ iv _ => NL - (intOf iv).toNat)
            case atStart => exact ⟨0, Nat.zero_le _, rfl, ho6, hX6⟩
            case round =>
              clear ho6 hX6
              obtain ⟨i, hiN, rfl, ho, hXr⟩ := hrel
              obtain ⟨At, ct, rfl, hct, hct2, _⟩ := (ownsRow_row ho).form
              by_cases hlt : i < NL
              · have i1 : (i : Int) < (NL : Int) := by omega
                have i2 : (0 : Int) ≤ (i : Int) := by omega
                obtain ⟨gl, cL, eL, q0, q1, q2⟩ := hL.at hlt
                obtain ⟨bl, br, ol, or_⟩ := hL.sides i hlt
                injection eL with eA _ eC
                subst eA eC
                have hrun : RunsTo (oneM m s) x0 i := ⟨fun j hj => HEnd.out.runs.no j (by have := HNL.out; omega), fun j hj => HEnd.out.runs.fit j (by have := HNL.out; omega)⟩
                have hcx := run_confM HMO.out HCF.out hrun
                have HSV := Lib.hid (firstT_svB (oneM m s) x0 (txtO m s) i)
                obtain ⟨x, hx0⟩ : ∃ x, cfgI (oneM m s) x0 i = x := ⟨_, rfl⟩
                rw [hx0] at q0 ol or_ hcx HSV
                have hCQ : ConfQ wr gl (i * 3) x := ⟨_, _, hXr.cell q0, hXr.cell q1, hXr.cell q2, (ol.ext hXr).ints, (or_.ext hXr).ints⟩
                obtain ⟨⟨y0, y1⟩, ⟨b1, b2⟩, ⟨b3, b4⟩⟩ := conf_allM (sy := 2 * m.sy) (st := (s.1.length : Int)) (rs := s.2) hcx
                obtain ⟨ix, hix⟩ : ∃ ix : Nat, x.q = ix := ⟨x.q.toNat, by omega⟩
                have hil : ix < s.1.length := by omega
                obtain ⟨p, hp⟩ : ∃ p, s.1[ix]? = some p := ⟨_, List.getElem?_eq_getElem hil⟩
                have hpk : WOk m p := HOK.out p (List.mem_of_getElem? hp)
                have HTX : Hid (txtO m s x = txtW m p x) := Lib.hid (by
                  unfold txtO
                  rw [hix, Int.toNat_natCast, List.getD_eq_getElem?_getD, hp]
                  rfl)
                have hgd : s.1.getD x.q.toNat mp0 = p := by
                  rw [hix, Int.toNat_natCast, List.getD_eq_getElem?_getD, hp]
                  rfl
                have HDG : Hid ((decOne m p x).2 = 0 → MDig (decOne m p x).1 ∧ 0 < (decOne m p x).1.tapes.length) := Lib.hid (decOne_dig HM.out hpk b1 b3 (fun z hz => by have := b2 z hz; omega) (fun z hz => by have := b4 z hz; omega))
                have hXw := hX5.trans hXr
                have str := st5.ext hXr
                have bMr := bM5.ext hXr
                have hMA : MulAt wr g m := ⟨A, cA, bMr, hR.ext hXw⟩
                have DO := fun X (hx : Ext wr X) => l13DecodeQ_c w1.heap.size X bk g gl (i * 3) m s.2 s.1 rvx pvx vsx x (str.ext hx) HOK.out l1 l2 (hMA.ext hx) HM.out (hCQ.ext hx)
                rw [if_pos (show confB ⟨2 * m.sy, s.1.length, s.2⟩ x = true from hcx), hgd] at DO
                obtain ⟨Ap, cp, rfl, hp1, hp2, _⟩ := (ownsRow_row str.places).form
                obtain ⟨gp, rfl, _, _⟩ := own_at str.places (by omega)
                obtain ⟨u, hu, hou⟩ := str.rows ix p hp
                have k0 : wr.cell? ⟨gp, ix, none⟩ = some u := (World.ownsRow.cellAt str.places ix (by have := str.places.1; omega)).trans hu
                have e0 := encM_fst (m := m) hpk
                have HK3 : Hid (p.k = 0 → (encM m p)[1]? = some p.a ∧ (encM m p)[2]? = some p.t) := Lib.hid encM_three
                have HINJ : Hid (lEq (encM m p) (encM m (lookP p.a)) = true → p.k = 0 → p = lookP p.a) := Lib.hid (fun h hk0 => by
                  have ha : 0 ≤ p.a ∧ p.a < m.st := by
                    rcases hpk.kd with ⟨_, a, b, _⟩ | ⟨e | e, _⟩ | ⟨e, _⟩ | ⟨e, _⟩
                    · exact ⟨a, b⟩
                    all_goals omega
                  exact encM_inj HM.out hpk (lookP_ok HM.out ha.1 ha.2) (of_decide_eq_true h))
                have HLK : Hid (∀ X, Ext wr X → Calls Tryz.prog 25 #[.pointer (some ⟨g, 0, none⟩), .int .i64 p.a] X fun e w' => ∃ u, e = .returned u ∧ OwnInts X.heap.size w' u (encM m (lookP p.a)) ∧ Ext X w') := Lib.hid fun X hx => lookS_c g m p.a X (hMA.ext hx) HM.out
                obtain ⟨nu, hnu⟩ : ∃ k, (encM m p).length = k := ⟨_, rfl⟩
                obtain ⟨Au, cu, rfl, _, _⟩ := id hou.ints.form
                have hnu0 : 0 < (encM m p).length := (List.getElem?_eq_some_iff.1 e0).1
                obtain ⟨gu, rfl, _, _⟩ := own_at hou hnu0
                have kc : ∀ (q : Nat) (z : Int), (encM m p)[q]? = some z → wr.cell? ⟨gu, q, none⟩ = some (.int .i64 z) := fun q z hz => by
                  have hq := (List.getElem?_eq_some_iff.1 hz).1
                  rw [World.ownsRow.cellAt hou q (by simpa using hq)]
                  simp only [ivs, List.getElem?_map, hz]
                  rfl
                have u0 := kc 0 _ e0
                have HU1 : Hid (p.k = 0 → wr.cell? ⟨gu, 1, none⟩ = some (.int .i64 p.a) ∧ 1 < nu) := Lib.hid fun hk => by
                  obtain ⟨a1, _⟩ := HK3.out hk
                  exact ⟨kc 1 _ a1, by rw [← hnu]; exact (List.getElem?_eq_some_iff.1 a1).1⟩
                have hiu := hou.ints
                rw [hnu] at k0 hnu0 hiu
                have x3 := str.blk.cell 3
                simp only [List.getElem?_toArray, List.getElem?_cons_zero, List.getElem?_cons_succ] at x3
                have j1 : (0 : Int) ≤ (ix : Int) := by omega
                have j2 : (ix : Int) < (s.1.length : Int) := by omega
                have hnu0i : (0 : Int) < (nu : Int) := by omega
                have zR := Ext.drew wr
                have d0 := hXr.cell q0
                rw [hix] at d0
                have d0 := zR.cell d0
                have d3 := zR.cell x3
                have dk := zR.cell k0
                have v0 := zR.cell u0
                clear q0 q1 q2 hcx hrun hx0 hp hix b2 b4 kc hu hgd e0 hMA str hou y0 y1 hCQ
                go_upto_region 18 with fail
                refine wp_region_ordT 11 (readsT [0, 1, 2, 3, 4, 5, 6, 7, 8, 9, 10] .done) (by kernel_rfl) (by kernel_rfl) (fun _ _ _ _ _ h => h) ?_
                simp only [readsT]
                iterate 11 (refine wpOrdT_read (v := ?_) (by rfl) (Or.inl ⟨by rfl, fun x hx => ?_⟩) ?_; rotate_left; (· have a0 := hx.cell d0; have a3 := hx.cell d3; have ak := hx.cell dk; go_simp; try with_reducible rfl); try simp only [Act.put, List.setIfInBounds_toArray, List.set_cons_zero, List.set_cons_succ])
                refine wpOrdT_done ?_
                try simp only [List.drop_succ_cons, List.drop_zero]
                change wpList _ _ _ _ _ wr.drew
                have hiu2 := hiu.ext zR
                have HU2 : Hid (p.k = 0 → wr.drew.cell? ⟨gu, 1, none⟩ = some (.int .i64 p.a) ∧ 1 < nu) := Lib.hid fun hk => ⟨zR.cell (HU1.out hk).1, (HU1.out hk).2⟩
                have HLK2 : Hid (∀ X, Ext wr.drew X → Calls Tryz.prog 25 #[.pointer (some ⟨g, 0, none⟩), .int .i64 p.a] X fun e w' => ∃ u, e = .returned u ∧ OwnInts X.heap.size w' u (encM m (lookP p.a)) ∧ Ext X w') := Lib.hid fun X hx => HLK.out X (zR.trans hx)
                have DO2 := fun X (hx : Ext wr.drew X) => DO X (zR.trans hx)
                have hod := ownsRow_ext ho zR
                have hXd := hXr.trans zR
                clear d0 d3 dk u0 k0 x3 HU1 HLK DO hiu zR ho hXr
                generalize wr.drew = X at *
                go_upto_region 20 with fail
                go_cut [80] (fun u wx => u = .bool (decide (p = lookP p.a)) ∧ Ext X wx)
                case first =>
                  clear HSV HTX hod hlt DO2 HDG
                  by_cases hk : p.k = 0
                  · obtain ⟨u1, hn1⟩ := HU2.out hk
                    have hn1i : (1 : Int) < (nu : Int) := by omega
                    have HKK := Lib.hid hk
                    rw [hk] at v0
                    have LK := HLK2.out X (Ext.refl _)
                    clear hk HU2 HLK2 HK3
                    go_wp2_with fail
                    refine LK.mono ?_
                    rintro e w6 ⟨u6, rfl, o6, hx6⟩
                    obtain ⟨A6, c6, rfl, _, _⟩ := id o6.ints.form
                    have SA := l00Same_c w6 _ _ (encM m p) (encM m (lookP p.a)) (hiu2.ext hx6) o6.ints
                    have HQ : Hid (lEq (encM m p) (encM m (lookP p.a)) = decide (p = lookP p.a)) := Lib.hid (by
                      by_cases e : p = lookP p.a
                      · rw [decide_eq_true e]
                        exact lEq_true (congrArg (encM m) e)
                      · rw [decide_eq_false e]
                        cases hq : lEq (encM m p) (encM m (lookP p.a)) with
                        | false => rfl
                        | true => exact absurd (HINJ.out hq HKK.out) e)
                    rw [HQ.out] at SA
                    clear LK v0 u1 HINJ HQ
                    go_wp2_with fail
                    refine SA.mono ?_
                    rintro e w7 ⟨rfl, hx7⟩
                    clear SA
                    go_wp2_with fail
                    go_meet
                    exact ⟨rfl, hx6.trans hx7⟩
                  · have hne : (p.k == 0) = false := by simpa using hk
                    have HT : Hid (decide (p = lookP p.a) = false) := Lib.hid (decide_eq_false fun e => hk (by
                      rw [e]
                      rfl))
                    clear hk HLK2 HU2 HK3 HINJ
                    go_wp2_with fail
                    go_meet
                    rw [HT.out]
                    exact ⟨rfl, Ext.refl _⟩
                case rest =>
                rename World => wY
                obtain ⟨rfl, hXY⟩ := hcut
                go_upto_if 80 with fail
                go_cut [17] (fun u wx => u = .string (bsS (txtW m p x)) ∧ Ext X wx)
                case first =>
                  clear HSV HTX hod hlt v0 HLK2 HU2 HK3 HINJ
                  by_cases hpl : p = lookP p.a
                  · rw [decide_eq_true hpl]
                    have HT : Hid (txtW m p x = if (decOne m p x).2 = 0 then mconT (decOne m p x).1 else []) := Lib.hid (by
                      unfold txtW
                      exact if_pos hpl)
                    have DO3 := DO2 wY hXY
                    obtain ⟨⟨⟨uq, uts⟩, uk⟩, hdec⟩ : ∃ q, decOne m p x = q := ⟨_, rfl⟩
                    rw [hdec] at DO3 HT HDG
                    clear hdec DO2 hpl
                    go_wp2_with fail
                    refine DO3.mono ?_
                    rintro e w8 ⟨v8, rfl, o8, hx8⟩
                    clear DO3
                    simp only at o8 ⊢
                    obtain ⟨A8, c8, rfl, _, _⟩ := id o8.form
                    by_cases hk8 : uk = 0
                    · have hdg := (HDG.out hk8).1
                      have HT3 : Hid (txtW m p x = mconT ⟨uq, uts⟩) := Lib.hid (by rw [HT.out]; exact if_pos hk8)
                      obtain ⟨g8, hg8⟩ : ∃ k, w8.heap.size = k := ⟨_, rfl⟩
                      obtain ⟨U, hU⟩ : ∃ U, U = w8.alloc (.cells #[.int .i64 uq, .slice A8 uts.length c8] 68) := ⟨_, rfl⟩
                      have hXU : Ext w8 U := by rw [hU]; exact Ext.alloc _ _
                      have b8 : Blk U g8 68 #[.int .i64 uq, .slice A8 uts.length c8] := by rw [hU]; exact Blk.new _ _ _ _ hg8
                      have z0 := b8.cell 0
                      have z1 := b8.cell 1
                      simp only [List.getElem?_toArray, List.getElem?_cons_zero, List.getElem?_cons_succ] at z0 z1
                      have LM := l19Multi_c g8 ⟨uq, uts⟩ _ U z0 z1 (o8.ext hXU).tapes hdg
                      subst hk8
                      clear hdg HDG HT z0 z1
                      go_wp2_with fail
                      try rw [← hU]
                      try rw [hg8]
                      clear hU
                      refine LM.mono ?_
                      rintro e w9 ⟨rfl, hx9⟩
                      clear LM
                      go_wp2_with fail
                      go_meet
                      rw [HT3.out]
                      exact ⟨rfl, ((hXY.trans hx8).trans hXU).trans hx9⟩
                    · have HT3 : Hid (txtW m p x = []) := Lib.hid (by rw [HT.out]; exact if_neg hk8)
                      have hne : (uk == 0) = false := by simpa using hk8
                      clear hk8 HDG HT
                      go_wp2_with fail
                      go_meet
                      rw [HT3.out]
                      exact ⟨rfl, (hXY.trans hx8).trans (Ext.alloc _ _)⟩
                  · rw [decide_eq_false hpl]
                    have HT : Hid (txtW m p x = []) := Lib.hid (txtW_no hpl)
                    clear hpl DO2 HDG
                    go_wp2_with fail
                    go_meet
                    rw [HT.out]
                    exact ⟨rfl, hXY⟩
                case rest =>
                  rename World => wT
                  obtain ⟨rfl, hXT⟩ := hcut
                  rw [HTX.out] at HSV
                  obtain ⟨st, hstt⟩ : ∃ st, bsS (txtW m p x) = st := ⟨_, rfl⟩
                  rw [hstt] at HSV ⊢
                  clear hstt HDG HTX HK3 HINJ HLK2 HU2 DO2 v0 hXY
                  have hs5 := (hXd.trans hXT).size
                  go_wp2_with (at_builtin; refine wpList_append_own_at _ rfl _ _ 28 rfl h0 9 i0 (.string ⟨#[]⟩) 1 16 Tryz.underlying28 hi hz0 hz1 hz2 rfl (by decide) _ _ _ rfl ((ownsRow_ext hod hXT).alloc _) ⟨wT.heap.size, 0, none⟩ 1 1 [.string st] rfl rfl (cell_one_new _ _ _) ?c2 ?c3 ?c4 ?c5 ?_)
                  case c2 => first | rfl | (intro u hu; simp at hu; subst hu; rfl)
                  case c3 => unfold maxLen; omega
                  case c4 => omega
                  case c5 => first | omega | (simp; omega)
                  intro v' w9 hown' hgrow _ _
                  have hOA := (ownsRow_ext hod hXT).alloc (.cells #[.string st] 9)
                  have HO : Hid (w9.ownsRow h0 9 1 v' (i + 1) (svB (firstT (oneM m s) x0 (txtO m s) (i + 1)))) := by unfold Hid; rw [HSV.out]; exact hown'
                  have HX9 : Hid (Ext w5 w9) := Lib.hid (((hXd.trans hXT).trans (Ext.alloc wT _)).grown hgrow (fun b hb => by have := (hOA.lt b hb).1; omega))
                  clear hown' hgrow hOA hod
                  go_wp2
                  go_roundw
                  case rel => exact ⟨i + 1, by omega, by go_num, HO.out, HX9.out⟩
                  case measure => simp [intOf]; omega
              · obtain rfl : i = NL := by omega
                have HFin : Hid (TxRes w (OTxt m ws n) (.returned (.tuple #[.slice At i ct, .int .i64 0])) wr) := ⟨firstT (oneM m s) x0 (txtO m s) i, 0, _, rfl, by rw [firstT_length]; exact ownsRow_base ho (by have := hX5.size; omega), HRUN.out _ 0 (.inl ⟨T, HEnd.out, by rw [HNL.out]; rfl, rfl⟩), hX5.trans hXr⟩
                clear ho
                go_wp2
                go_ret2
                exact HFin.out
          · have HF : Hid (OTxt m ws n [] 5) := Lib.hid (HRUN.out [] 5 (.inr ⟨hFull, rfl, rfl⟩))
            clear hFull
            refine hK _ _ hx5 ?_
            clear hK K
            iterate 4 (refine wpOrdT_read (v := ?_) (by rfl) (Or.inl ⟨by rfl, fun x hx => ?_⟩) ?_; rotate_left; (· go_simp; try with_reducible rfl); try simp only [Act.put, List.setIfInBounds_toArray, List.set_cons_zero, List.set_cons_succ])
            refine wpOrdT_done ?_
            try simp only [List.drop_succ_cons, List.drop_zero]
            go_wp2
            go_ret2
            exact TxRes.none HF.out (hE4.trans hx5)
        · have HF := Lib.hid (OTxt.start HM.out HD.out HS.out hk)
          obtain ⟨⟨⟨sq, sl, sr⟩, sk⟩, hsc⟩ : ∃ q, startOC m ws = q := ⟨_, rfl⟩
          rw [hsc] at HF hk ol3 or3 ⊢
          simp only at HF hk ol3 or3 ⊢
          have hne : (sk != 0) = true := by simpa using hk
          clear hk hsc
          go_wp2
          go_ret2
          exact TxRes.none HF.out (hX3.trans (Ext.alloc _ _))
end Go.Proofs.YtfghojbbofobeaaGreatDoor
end
