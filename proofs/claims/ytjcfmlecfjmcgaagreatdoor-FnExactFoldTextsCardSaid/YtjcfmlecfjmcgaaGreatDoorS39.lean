/- Contracts of the reference's texts of numbers, words and configurations. The numbers are from 0 to a million, the letters are digits.
Contracts of the reference's step of a machine that is a part of a maker. -/
import Derived.Test.YtjcfmlecfjmcgaaGreatDoorS33
import Derived.Test.YtjcfmlecfjmcgaaGreatDoorS09
import Derived.Test.YtjcfmlecfjmcgaaGreatDoorS10
import Derived.Laws.IdiomStrings
import Derived.Test.YtjcfmlecfjmcgaaGreatDoorS23
section
set_option linter.unusedSimpArgs false
set_option linter.unusedVariables false
namespace Go.Proofs.YtjcfmlecfjmcgaaGreatDoor
open Go Go.RowKit Go.Proofs
set_option maxHeartbeats 400000
theorem itoa_natF {n : Int} (h0 : 0 ≤ n) : Lib.itoa n = Lib.decDigits n.toNat := by
  unfold Lib.itoa
  rw [if_neg (by omega)]
/-- The digits of a number, none for 0. -/
def dgs (m : Nat) : List UInt8 := if m = 0 then [] else Lib.decDigits m
theorem dgs_step {m : Nat} (h : m ≠ 0) : dgs m = dgs (m / 10) ++ [UInt8.ofNat (48 + m % 10)] := by
  unfold dgs
  rw [if_neg h, Lib.decDigits]
  split
  · rename_i h9
    rw [if_pos (by omega), show m % 10 = m by omega]
    rfl
  · rename_i h9
    rw [if_neg (by omega)]
theorem dgs_len (m : Nat) (hm : m ≤ 1000000) : (dgs m).length ≤ 18 := by
  unfold dgs
  split
  · simp
  · exact digits_len m hm
theorem itoa_dgs {n : Int} (h0 : 0 < n) : Lib.itoa n = dgs n.toNat := by
  rw [itoa_natF (by omega)]
  unfold dgs
  rw [if_neg (by omega)]
theorem u8Info : (Tryz.prog.info? 5).map (fun i => (i.zero, i.size, i.bytes)) = some (some (.int .u8 0), 1, 1) := by kernel_rfl
/-- A list of bytes as cells. -/
def ubs (l : List UInt8) : List Value := l.map fun b => .int .u8 (b.toNat : Int)
theorem ubs_length (l : List UInt8) : (ubs l).length = l.length := by simp [ubs]
theorem ubs_app (a b : List UInt8) : ubs (a ++ b) = ubs a ++ ubs b := by simp [ubs]
theorem ubs_get (l : List UInt8) (k : Nat) (h : k < l.length) : (ubs l)[k]? = some (.int .u8 (l[k].toNat : Int)) := by simp [ubs, h]
/-- The text of a row of bytes. -/
theorem ubs_conv {w : World} {base n c : Nat} {A : Option Addr} {l : List UInt8} (ho : w.ownsRow base 5 1 (.slice A n c) n (ubs l)) (hn : l.length = n) (h0 : 0 < n) : (convert 120 9 (.slice A n c)).run Tryz.prog w = .ok (.string (bsS l)) w := by
  obtain ⟨g, rfl, _, _⟩ := own_at ho h0
  subst hn
  exact run_convert_bytes_back w _ _ 5 _ c l Tryz.underlying120 Tryz.underlying5 Tryz.underlying9 (fun j hj => by
    have : (⟨g, 0, none⟩ : Addr).add j = ⟨g, j, none⟩ := by simp [Addr.add]; intro h; exact h.symm
    rw [this, ho.cellAt j (by omega), ubs_get l j hj])
theorem dig_fact {z : Int} (h0 : 0 ≤ z) (h1 : z ≤ 9) : IntKind.u8.wrap (48 + z) = ((digU z).toNat : Int) := by
  rw [digU_nat h0 h1]
  rcases (show z = 0 ∨ z = 1 ∨ z = 2 ∨ z = 3 ∨ z = 4 ∨ z = 5 ∨ z = 6 ∨ z = 7 ∨ z = 8 ∨ z = 9 by omega) with e | e | e | e | e | e | e | e | e | e <;> rw [e] <;> rfl
set_option maxRecDepth 20000 in
set_option maxHeartbeats 4000000 in
theorem l03Text_c (v : Value) (zs : List Int) (w : World) (h : Ints w v zs) (hz : ∀ z ∈ zs, 0 ≤ z ∧ z ≤ 9) (h0 : 0 < zs.length) (hl : zs.length ≤ 1048576) :
    Calls Tryz.prog 85 #[v] w fun e w' => e = .returned (.string (bsS (digB zs))) ∧ Ext w w' := by
  obtain ⟨i0, hi, hz0, hz1, hz2⟩ := info_parts u8Info
  obtain ⟨A, c, rfl, h1, h2⟩ := h.form
  have hne : ((zs.length : Int) == 0) = false := beq_eq_false_iff_ne.2 (by omega)
  obtain ⟨W, hW⟩ : ∃ W, w.alloc (.cells #[] 5) = W := ⟨_, rfl⟩
  have hX : Ext w W := by rw [← hW]; exact Ext.alloc _ _
  have ho0 : W.ownsRow w.heap.size 5 1 (.slice (some ⟨w.heap.size, 0, none⟩) 0 0) 0 (ubs (digB (zs.take 0))) := by
    rw [← hW]
    exact World.ownsRow_made (base := w.heap.size) (e := 5) (size := 1) w #[] 0 (by simp) (by unfold maxLen; omega) (by simp [ubs, digB])
  have HZ := Lib.hid hz
  go_enter Tryz.func85, Tryz.ntmps85
  go_wp2_with fail
  try rw [hW]
  clear hW
  go_loopw [3, 4] (fun tv i wr => ∃ k : Nat, k ≤ zs.length ∧ i = .int .i64 (k : Int) ∧ Ext w wr ∧ wr.ownsRow w.heap.size 5 1 tv k (ubs (digB (zs.take k)))) (fun _ i _ => zs.length - (intOf i).toNat)
  case atStart => exact ⟨0, Nat.zero_le _, rfl, hX, ho0⟩
  case round =>
    clear ho0 hX
    obtain ⟨k, hk, rfl, hX, ho⟩ := hrel
    obtain ⟨At, ct, rfl, hct, hct2, _⟩ := (ownsRow_row ho).form
    by_cases hlt : k < zs.length
    · obtain ⟨b', off, rfl, hc⟩ := (h.ext hX).at hlt
      have c0 := hc k hlt
      have hz0' := HZ.out _ (List.getElem_mem hlt)
      have hnx : Hid (ubs (digB (zs.take (k + 1))) = ubs (digB (zs.take k)) ++ [.int .u8 ((digU zs[k]).toNat : Int)]) := Lib.hid (by unfold digB; rw [List.take_succ_eq_append_getElem hlt, List.map_append, ubs_app]; rfl)
      generalize zs[k] = z at *
      have hwz := dig_fact hz0'.1 hz0'.2
      have hsz := hX.size
      clear hc
      go_wp2_with (at_builtin; refine wpList_append_own _ rfl _ _ 120 rfl w.heap.size 5 i0 (.int .u8 0) 1 1 Tryz.underlying120 hi hz0 hz1 hz2 rfl (by decide) _ _ _ rfl (ho.alloc _) ⟨wr.heap.size, 0, none⟩ 1 1 [.int .u8 ((digU z).toNat : Int)] rfl rfl ?c1 ?c2 ?c3 ?c4 ?c5 ?_)
      case c1 =>
        intro j u hj
        match j, hj with
        | 0, hj => simp at hj; subst hj; simp [Addr.add, hwz]
      case c2 => intro u hu; simp at hu; subst hu; rfl
      case c3 => unfold maxLen; omega
      case c4 => omega
      case c5 => simp; omega
      intro v' w3 hown' hgrow _
      have hX3' : Ext w w3 := hX.grown (grownBy_trans (World.grownBy_alloc _ _ _) hgrow) (fun b hb => (ho.lt b hb).1)
      have R : w3.ownsRow w.heap.size 5 1 v' (k + 1) (ubs (digB (zs.take (k + 1)))) := by rw [hnx.out]; exact hown'
      clear hown' hgrow ho
      go_wp2
      go_roundw
      case rel => exact ⟨k + 1, by omega, by go_num, hX3', R⟩
      case measure => simp [intOf]; omega
    · obtain rfl : k = zs.length := by omega
      have hke : zs.take zs.length = zs := List.take_length
      rw [hke] at ho
      have hcv := ubs_conv ho (by simp [digB]) h0
      clear hke
      go_wp2
      go_ret
      exact ⟨rfl, hX⟩
theorem l05Digits_c (v : Value) (zs : List Int) (w : World) (h : Ints w v zs) (hz : ∀ z ∈ zs, 0 ≤ z ∧ z ≤ 9) (hl : zs.length ≤ 1048576) :
    Calls Tryz.prog 52 #[v] w fun e w' => e = .returned (.string (bsS (digB zs))) ∧ Ext w w' := by
  obtain ⟨A, c, rfl, h1, h2⟩ := h.form
  by_cases h0 : 0 < zs.length
  · have hne : ((zs.length : Int) == 0) = false := beq_eq_false_iff_ne.2 (by omega)
    have hT := l03Text_c _ zs w h hz h0 hl
    go_enter Tryz.func52, Tryz.ntmps52
    go_wp2_with fail
    refine hT.mono ?_
    rintro e w' ⟨rfl, hx⟩
    go_wp2
    go_ret
    exact ⟨rfl, hx⟩
  · have hz0 : zs = [] := List.length_eq_zero_iff.1 (by omega)
    subst hz0
    go_enter Tryz.func52, Tryz.ntmps52
    go_wp2
    go_ret
    exact ⟨rfl, Ext.refl _⟩
theorem one_u8 {w : World} {x : Int} (k : Nat) (u : Value) (h : [Value.int .u8 x][k]? = some u) : (w.alloc (.cells #[.int .u8 x] 5)).cell? ((⟨w.heap.size, 0, none⟩ : Addr).add k) = some u := by
  match k, h with
  | 0, h => simp at h; subst h; simp [Addr.add]
theorem wrap_nat {q : Nat} (h : q ≤ 1000000) : wrap64 (q : Int) = (q : Int) := by unfold wrap64; omega
theorem meas_fact (q k : Nat) (h : q < k) (hq : q ≤ 1000000) : (intOf (Value.int IntKind.i64 (wrap64 (q : Int)))).toNat < (intOf (Value.int IntKind.i64 (k : Int))).toNat := by
  rw [wrap_nat hq]
  simp only [intOf]
  omega
set_option maxRecDepth 20000 in
set_option maxHeartbeats 4000000 in
theorem l01Dec_c (n : Int) (w : World) (n0 : 0 ≤ n) (n1 : n ≤ 1000000) :
    Calls Tryz.prog 53 #[.int .i64 n] w fun e w' => e = .returned (.string (itoaS n)) ∧ Ext w w' := by
  obtain ⟨i0, hi, hz0, hz1, hz2⟩ := info_parts u8Info
  by_cases hn0 : n = 0
  · subst hn0
    have e : itoaS 0 = ⟨#[48]⟩ := by
      unfold itoaS
      rw [itoa_natF (by omega), Lib.decDigits]
      rfl
    rw [e]
    go_enter Tryz.func53, Tryz.ntmps53
    go_wp2
    go_ret
    exact ⟨rfl, Ext.refl _⟩
  · obtain ⟨N, rfl⟩ : ∃ N : Nat, n = (N : Int) := ⟨n.toNat, by omega⟩
    have hN0 : N ≠ 0 := by omega
    have hne : ((N : Int) == 0) = false := beq_eq_false_iff_ne.2 (by omega)
    have hlt0 : ¬ (N : Int) < 0 := by omega
    have hlt0' : decide ((N : Int) < 0) = false := decide_eq_false hlt0
    have HE : Hid (itoaS (N : Int) = bsS (dgs N)) := by
      unfold Hid itoaS bsS
      rw [itoa_dgs (by omega), Int.toNat_natCast]
    have HLN := Lib.hid (dgs_len N (by omega))
    have HP : Hid (0 < (dgs N).length) := by
      unfold Hid
      rw [dgs_step hN0]
      simp
    have HN1 : Hid (N ≤ 1000000) := by unfold Hid; omega
    obtain ⟨W, hW⟩ : ∃ W, w.alloc (.cells #[] 5) = W := ⟨_, rfl⟩
    have hX : Ext w W := by rw [← hW]; exact Ext.alloc _ _
    have ho0 : W.ownsRow w.heap.size 5 1 (.slice (some ⟨w.heap.size, 0, none⟩) 0 0) 0 (ubs []) := by
      rw [← hW]
      exact World.ownsRow_made (base := w.heap.size) (e := 5) (size := 1) w #[] 0 (by simp) (by unfold maxLen; omega) (by simp [ubs])
    clear n0 n1 hn0
    go_enter Tryz.func53, Tryz.ntmps53
    go_wp2_with fail
    try rw [hW]
    clear hW
    go_loopw [3, 4, 5] (fun tv i dv wr => ∃ (k : Nat) (D : List UInt8), i = .int .i64 (k : Int) ∧ k ≤ N ∧ dgs N = dgs k ++ D.reverse ∧ Ext w wr ∧ wr.ownsRow w.heap.size 5 1 tv D.length (ubs D)) (fun _ i _ _ => (intOf i).toNat)
    case atStart => exact ⟨N, [], rfl, Nat.le_refl _, by simp, hX, ho0⟩
    case round =>
      clear ho0 hX
      obtain ⟨k, D, rfl, hk, hD, hX, ho⟩ := hrel
      obtain ⟨At, ct, rfl, hct, hct2, _⟩ := (ownsRow_row ho).form
      by_cases hk0 : k = 0
      · subst hk0
        rw [show ((0 : Nat) : Int) = 0 from rfl]
        have HD : Hid (D.reverse = dgs N) := Lib.hid (by rw [hD]; simp [dgs])
        clear hD
        have HDL : Hid (D.length = (dgs N).length) := by unfold Hid; rw [← HD.out, List.length_reverse]
        obtain ⟨M, hM⟩ : ∃ M, D.length = M := ⟨_, rfl⟩
        have HM := Lib.hid hM
        rw [hM] at ho hct ⊢
        clear hM
        have hM0 : 0 < M := by rw [← HM.out, HDL.out]; exact HP.out
        have hM1 : M ≤ 18 := by rw [← HM.out, HDL.out]; exact HLN.out
        obtain ⟨g, rfl, hg1, hg2⟩ := own_at ho hM0
        obtain ⟨V, hV⟩ : ∃ V, wr.alloc (.cells #[] 5) = V := ⟨_, rfl⟩
        have hXV : Ext wr V := by rw [← hV]; exact Ext.alloc _ _
        have ho2 : V.ownsRow wr.heap.size 5 1 (.slice (some ⟨wr.heap.size, 0, none⟩) 0 0) 0 (ubs ((dgs N).take 0)) := by
          rw [← hV]
          exact World.ownsRow_made (base := wr.heap.size) (e := 5) (size := 1) wr #[] 0 (by simp) (by unfold maxLen; omega) (by simp [ubs])
        obtain ⟨h0, hh0⟩ : ∃ h0, wr.heap.size = h0 := ⟨_, rfl⟩
        have hX0 : w.heap.size ≤ h0 := by rw [← hh0]; exact hX.size
        rw [hh0] at ho2 hg2
        go_wp2_with fail
        try rw [hh0]
        try rw [hV]
        have hXwV := hX.trans hXV
        have hoV := ownsRow_ext ho hXV
        have hVs : h0 ≤ V.heap.size := by rw [← hh0]; exact hXV.size
        clear hV hXV ho hX hh0
        go_loopw [6, 7] (fun tv i wr => ∃ j : Nat, j ≤ M ∧ i = .int .i64 ((M : Int) - 1 - j) ∧ Below h0 V wr ∧ wr.ownsRow h0 5 1 tv j (ubs ((dgs N).take j))) (fun _ i _ => (intOf i + 1).toNat)
        case atStart => exact ⟨0, Nat.zero_le _, by simp, Below.refl _ _, ho2⟩
        case round =>
          clear ho2
          obtain ⟨j, hj, rfl, hB, ho⟩ := hrel
          obtain ⟨Aj, cj, rfl, hcj, hcj2, _⟩ := (ownsRow_row ho).form
          by_cases hlt : j < M
          · have hge : (0 : Int) ≤ (M : Int) - 1 - j := by omega
            have hix : (M : Int) - 1 - (j : Int) = ((M - 1 - j : Nat) : Int) := by omega
            have hdl : j < (dgs N).length := by rw [← HDL.out, HM.out]; exact hlt
            have hDl : M - 1 - j < D.length := by rw [HM.out]; omega
            have hval : D[M - 1 - j] = (dgs N)[j] := by
              have e1 : (dgs N)[j] = D.reverse[j]'(by rw [HD.out]; exact hdl) := by simp only [HD.out]
              rw [e1, List.getElem_reverse]
              simp only [HM.out]
            have hcl : wr.cell? ⟨g, M - 1 - j, none⟩ = some (.int .u8 (((dgs N)[j]).toNat : Int)) := by
              have : wr.heap[g]? = V.heap[g]? := Below.block hB _ hg2
              have e := hoV.cellAt (M - 1 - j) (by omega)
              rw [ubs_get _ _ hDl, hval] at e
              rw [← e]
              unfold World.cell?
              rw [this]
            have hnx : Hid (ubs ((dgs N).take (j + 1)) = ubs ((dgs N).take j) ++ [.int .u8 (((dgs N)[j]).toNat : Int)]) := Lib.hid (by rw [List.take_succ_eq_append_getElem hdl, ubs_app]; rfl)
            generalize (dgs N)[j] = z at *
            rw [hix]
            go_wp2_with (at_builtin; refine wpList_append_own _ rfl _ _ 120 rfl h0 5 i0 (.int .u8 0) 1 1 Tryz.underlying120 hi hz0 hz1 hz2 rfl (by decide) _ _ _ rfl (ho.alloc _) ⟨wr.heap.size, 0, none⟩ 1 1 [.int .u8 (z.toNat : Int)] rfl rfl ?c1 ?c2 ?c3 ?c4 ?c5 ?_)
            case c1 => intro j u hj; exact one_u8 j u hj
            case c2 => intro u hu; simp at hu; subst hu; rfl
            case c3 => unfold maxLen; omega
            case c4 => omega
            case c5 => simp; have := Below.size hB; omega
            intro v' w3 hown' hgrow _
            have hB3 : Below h0 V w3 := hB.grown (grownBy_trans (World.grownBy_alloc _ _ _) hgrow) (by have := Below.size hB; omega) (fun b hb => (ho.lt b hb).1)
            have R : w3.ownsRow h0 5 1 v' (j + 1) (ubs ((dgs N).take (j + 1))) := by rw [hnx.out]; exact hown'
            clear hown' hgrow ho
            go_wp2
            go_roundw
            case rel => exact ⟨j + 1, by omega, by first | go_num | (congr 1; omega), hB3, R⟩
            case measure => simp [intOf] <;> omega
          · obtain rfl : j = M := by omega
            have hke : (dgs N).take j = dgs N := List.take_of_length_le (by rw [← HDL.out, HM.out]; exact Nat.le_refl _)
            rw [hke] at ho
            have hcv := ubs_conv ho (by rw [← HDL.out, HM.out]) hM0
            have hge : ¬ (0 : Int) ≤ (j : Int) - 1 - j := by omega
            clear hke
            go_wp2
            go_ret
            exact ⟨by rw [HE.out]; rfl, Below.trans hXwV (Below.mono hB hX0)⟩
      · have hd1 : ((k : Int) != 0) = true := by simp; omega
        have hq : (k : Int).tdiv 10 = ((k / 10 : Nat) : Int) := by rw [Int.tdiv_eq_ediv_of_nonneg (by omega)]; omega
        have hm : (k : Int).tmod 10 = ((k % 10 : Nat) : Int) := by rw [Int.tmod_eq_emod_of_nonneg (by omega)]; omega
        have hqw : IntKind.i64.wrap ((k : Int).tdiv 10) = ((k / 10 : Nat) : Int) := by rw [hq]; exact IntWalk.i64_in _ (by have := HN1.out; omega)
        have HST := Lib.hid (dgs_step hk0)
        have hdd : UInt8.ofNat (48 + k % 10) = digU ((k % 10 : Nat) : Int) := by unfold digU; rw [Int.toNat_natCast]
        rw [hdd] at HST
        have HDG := Lib.hid hD
        clear hdd hD
        obtain ⟨d, hd⟩ : ∃ d, k % 10 = d := ⟨_, rfl⟩
        have hd9 : d ≤ 9 := by omega
        rw [hd] at hm HST
        have hwz := dig_fact (z := (d : Int)) (by omega) (by omega)
        have hdn : ¬ (d : Int) < 0 := by omega
        have hsz := hX.size
        have hDlen : D.length ≤ 18 := by
          have h1 := HLN.out
          rw [HDG.out, List.length_append, List.length_reverse] at h1
          omega
        obtain ⟨q, hqq⟩ : ∃ q, k / 10 = q := ⟨_, rfl⟩
        have HQ := Lib.hid hqq
        rw [hqq] at hq hqw HST
        have hqk : q < k := by omega
        have HQ64 : Hid (wrap64 (q : Int) = (q : Int)) := Lib.hid (wrap_nat (Nat.le_trans (Nat.le_trans (Nat.le_of_lt hqk) hk) HN1.out))
        clear hd hqq
        go_wp2_with (at_builtin; refine wpList_append_own _ rfl _ _ 120 rfl w.heap.size 5 i0 (.int .u8 0) 1 1 Tryz.underlying120 hi hz0 hz1 hz2 rfl (by decide) _ _ _ rfl (ho.alloc _) ⟨wr.heap.size, 0, none⟩ 1 1 [.int .u8 ((digU (d : Int)).toNat : Int)] rfl rfl (fun j u hj => one_u8 j u hj) (fun u hu => by simp at hu; subst hu; rfl) (by unfold maxLen; omega) (by omega) (by simp; omega) ?_)
        intro v' w3 hown' hgrow _
        have hX3' : Ext w w3 := hX.grown (grownBy_trans (World.grownBy_alloc _ _ _) hgrow) (fun b hb => (ho.lt b hb).1)
        have R : w3.ownsRow w.heap.size 5 1 v' (D ++ [digU (d : Int)]).length (ubs (D ++ [digU (d : Int)])) := by
          rw [ubs_app, List.length_append]; exact hown'
        have HR : Hid (dgs N = dgs q ++ (D ++ [digU (d : Int)]).reverse) := by
          unfold Hid
          rw [HDG.out, HST.out]
          simp
        clear hown' hgrow ho
        go_wp2
        go_roundw
        case rel => exact ⟨q, _, by rw [HQ64.out], by omega, HR.out, hX3', R⟩
        case measure =>
          exact meas_fact q k hqk (Nat.le_trans (by omega) HN1.out)
end Go.Proofs.YtjcfmlecfjmcgaaGreatDoor
end
section
set_option linter.unusedSimpArgs false
set_option linter.unusedVariables false
namespace Go.Proofs.YtjcfmlecfjmcgaaGreatDoor
open Go Go.RowKit Go.Proofs
set_option maxHeartbeats 400000
/-- A machine that is a part of a maker. -/
def MachO (w : World) (b : Nat) (m : MachD) : Prop := ∃ rv, w.cell? ⟨b, 4, none⟩ = some (.int .i64 m.sy) ∧ w.cell? ⟨b, 5, none⟩ = some (.int .i64 m.st) ∧ w.cell? ⟨b, 6, none⟩ = some rv ∧ Rules w rv m.rules
theorem MachO.ext {w w' : World} {b : Nat} {m : MachD} (h : MachO w b m) (he : Ext w w') : MachO w' b m := by
  obtain ⟨rv, h0, h1, h2, h3⟩ := h
  exact ⟨rv, he.cell h0, he.cell h1, he.cell h2, h3.ext he⟩
theorem l05AtO_c (b bc : Nat) (m : MachD) (c : ConfR) (w : World) (hm : MachO w b m) (h : ConfAt w bc c) (q0 : 0 ≤ c.q) (q1 : c.q ≤ 1000) (s0 : 2 ≤ m.sy) (s1 : m.sy ≤ 6) (r0 : 0 ≤ hdR c.r) (r1 : hdR c.r ≤ 6) :
    Calls Tryz.prog 110 #[.pointer (some ⟨b, 4, none⟩), .pointer (some ⟨bc, 0, none⟩)] w fun e w' => e = .returned (.int .i64 (c.q * m.sy + hdR c.r)) ∧ Ext w w' := by
  have hC := h
  obtain ⟨rv, p0, _, _, _⟩ := hm
  obtain ⟨_, _, c0, _, _, _, _⟩ := h
  have d0 := cellR p0
  have d1 := cellR c0
  have hb : 0 ≤ c.q * m.sy ∧ c.q * m.sy ≤ 6000 := ⟨Int.mul_nonneg q0 (by omega), by
    have a1 := Int.mul_le_mul_of_nonneg_right q1 (show 0 ≤ m.sy by omega)
    have a2 := Int.mul_le_mul_of_nonneg_left s1 (show (0 : Int) ≤ 1000 by omega)
    omega⟩
  go_enter Tryz.func110, Tryz.ntmps110
  go_wp2
  refine wp_region_ext (by kernel_rfl) (by kernel_rfl) ?_
  repeat (go_big_quiet_step ((go_at_call 48; exact Calls.sameR (l05Head_c _ _ _ (hC.ext (below_regrown _ _ _))))))
  refine wpQuiet_nil ?_
  intro w2 hx2
  go_wp2
  go_ret
  exact ⟨rfl, hx2⟩
theorem l05AtKO_c (b bc : Nat) (m : MachD) (c : ConfR) (k : Nat) (w : World) (hm : MachO w b m) (h : ConfAt w bc c) (ok : COk m c k) :
    Calls Tryz.prog 110 #[.pointer (some ⟨b, 4, none⟩), .pointer (some ⟨bc, 0, none⟩)] w fun e w' => e = .returned (.int .i64 (k : Int)) ∧ Ext w w' := by
  rw [← ok.ke]
  exact l05AtO_c b bc m c w hm h ok.q0 ok.q1 ok.s0 ok.s1 ok.r0 ok.r1
set_option maxRecDepth 20000 in
theorem l05HaltsO_c (b bc : Nat) (m : MachD) (c : ConfR) (k : Nat) (w : World) (hm : MachO w b m) (h : ConfAt w bc c) (ok : COk m c k) :
    Calls Tryz.prog 83 #[.pointer (some ⟨b, 4, none⟩), .pointer (some ⟨bc, 0, none⟩)] w fun e w' => e = .returned (.bool (decide (m.rules[k]'ok.kl = noR))) ∧ Ext w w' := by
  have hM := hm
  obtain ⟨rv, p0, p1, p2, hr⟩ := hm
  obtain ⟨A, cap, rfl, h2, h2'⟩ := hr.form
  obtain ⟨b', off, rfl, hc⟩ := hr.at ok.kl
  obtain ⟨c0, c1, c2⟩ := hc k ok.kl
  have d0 := cellR c0
  have d1 := cellR c1
  have d2 := cellR c2
  have dM := cellR p2
  have rn := ruleEql_run
  have i1 : (0 : Int) ≤ (k : Int) := by omega
  have i2 : (k : Int) < (m.rules.length : Int) := by have := ok.kl; omega
  have HE : Hid (∀ q, rEq ⟨(m.rules[k]'ok.kl).w, (m.rules[k]'ok.kl).m, (m.rules[k]'ok.kl).n⟩ ⟨0, 0, -1⟩ = q → decide (m.rules[k]'ok.kl = noR) = q) := fun q h => by rw [← h]; rfl
  generalize m.rules[k]'ok.kl = ru at *
  clear c0 c1 c2 hc
  cases hq : rEq ⟨ru.w, ru.m, ru.n⟩ ⟨0, 0, -1⟩
  · go_enter Tryz.func83, Tryz.ntmps83
    go_wp2
    refine wp_region_ext (by kernel_rfl) (by kernel_rfl) ?_
    repeat (go_big_quiet_step ((first | (go_at_call 81; exact Calls.extR (l05None_c _)) | (go_at_call 110; exact Calls.extR (l05AtKO_c _ _ m c k _ (hM.ext (below_regrown _ _ _)) (h.ext (below_regrown _ _ _)) ok)))))
    refine wpQuiet_nil ?_
    intro w2 hx2
    go_wp2
    go_ret
    exact ⟨by rw [HE.out _ hq]; rfl, hx2⟩
  · go_enter Tryz.func83, Tryz.ntmps83
    go_wp2
    refine wp_region_ext (by kernel_rfl) (by kernel_rfl) ?_
    repeat (go_big_quiet_step ((first | (go_at_call 81; exact Calls.extR (l05None_c _)) | (go_at_call 110; exact Calls.extR (l05AtKO_c _ _ m c k _ (hM.ext (below_regrown _ _ _)) (h.ext (below_regrown _ _ _)) ok)))))
    refine wpQuiet_nil ?_
    intro w2 hx2
    go_wp2
    go_ret
    exact ⟨by rw [HE.out _ hq]; rfl, hx2⟩
set_option maxRecDepth 20000 in
set_option maxHeartbeats 4000000 in
theorem l05StepO_c (b bc : Nat) (m : MachD) (c : ConfR) (k : Nat) (w : World) (hm : MachO w b m) (h : ConfAt w bc c) (ok : COk m c k) (hl9 : c.l.length ≤ 200) :
    Calls Tryz.prog 84 #[.pointer (some ⟨b, 4, none⟩), .pointer (some ⟨bc, 0, none⟩)] w fun e w' => ∃ v, e = .returned (.tuple #[v, .bool (decide ((stepC (m.rules[k]'ok.kl) c).l.length ≤ 200) && decide ((stepC (m.rules[k]'ok.kl) c).r.length ≤ 200))]) ∧ ConfV w' v (stepC (m.rules[k]'ok.kl) c) ∧ Ext w w' := by
  obtain ⟨W, hW⟩ : ∃ W, W = w.alloc (.cells #[.int .i64 0, .slice none 0 0, .slice none 0 0] 37) := ⟨_, rfl⟩
  have hX : Ext w W := by rw [hW]; exact Ext.alloc _ _
  have bR : Blk W w.heap.size 37 #[.int .i64 0, .slice none 0 0, .slice none 0 0] := by rw [hW]; exact Blk.new _ _ _ _ rfl
  have hM := hm.ext hX
  have hC := h.ext hX
  have hM0 := hM
  have hM1 := hM.ext (Ext.drew _)
  have hC1 := hC.ext (Ext.drew _)
  have hM2 := (hM.ext (Ext.alloc _ (.cells #[.int .i64 0, .int .i64 0, .int .i64 0] 95))).ext (Ext.drew _)
  have hC2 := (hC.ext (Ext.alloc _ (.cells #[.int .i64 0, .int .i64 0, .int .i64 0] 95))).ext (Ext.drew _)
  obtain ⟨rv, p0, p1, p2, hr⟩ := hM
  obtain ⟨A, cap, rfl, h2, h2'⟩ := hr.form
  obtain ⟨b', off, rfl, hc⟩ := hr.at ok.kl
  obtain ⟨c0, c1, c2⟩ := hc k ok.kl
  have i1 : (0 : Int) ≤ (k : Int) := by omega
  have i2 : (k : Int) < (m.rules.length : Int) := by have := ok.kl; omega
  generalize m.rules[k]'ok.kl = ru at *
  clear hc
  go_enter Tryz.func84, Tryz.ntmps84
  go_wp2_with fail
  rw [← hW]
  clear hW
  go_region_held3 (fun w' => w'.cell? ⟨b, 6, none⟩ = some (.slice (some ⟨b', off, none⟩) m.rules.length cap) ∧ w'.cell? ⟨b', off + k * 3, none⟩ = some (.int .i64 ru.w) ∧ w'.cell? ⟨b', off + k * 3 + 1, none⟩ = some (.int .i64 ru.m) ∧ w'.cell? ⟨b', off + k * 3 + 2, none⟩ = some (.int .i64 ru.n))
    (first | go_keep | exact ⟨t0, t1, t2, t3⟩ | exact ⟨HX3.cell p2, HX3.cell c0, HX3.cell c1, HX3.cell c2⟩)
    (first
      | (go_at_call 110; ((with_reducible refine (l05AtKO_c _ _ m c k _ hM1 hC1 ok).mono ?_)); rintro e w2 ⟨rfl, hx2⟩; have HX2 := (Ext.drew W).trans hx2; have t0 := HX2.cell p2; have t1 := HX2.cell c0; have t2 := HX2.cell c1; have t3 := HX2.cell c2)
      | (go_at_call 110; ((with_reducible refine (l05AtKO_c _ _ m c k _ hM2 hC2 ok).mono ?_)); rintro e w2 ⟨rfl, hx2⟩; have HX2 := ((Ext.alloc W _).trans (Ext.drew _)).trans hx2; have bU := Blk.ext (Blk.ext (Blk.new W W.heap.size 95 #[.int .i64 0, .int .i64 0, .int .i64 0] rfl) (Ext.drew _)) hx2; have u0 := bU.cell 0; have u1 := bU.cell 1; have u2 := bU.cell 2; have f0 := bU.frozen 0; have f1 := bU.frozen 1; have f2 := bU.frozen 2; simp only [List.getElem?_toArray, List.getElem?_cons_zero, List.getElem?_cons_succ] at u0 u1 u2; have HX3 := ((HX2.setCell (p := ⟨W.heap.size, 0, none⟩) (Nat.le_refl _) (.int .i64 ru.w)).setCell (p := ⟨W.heap.size, 1, none⟩) (Nat.le_refl _) (.int .i64 ru.m)).setCell (p := ⟨W.heap.size, 2, none⟩) (Nat.le_refl _) (.int .i64 ru.n); have bV := ((bU.set_ 0 (.int .i64 ru.w)).set_ 1 (.int .i64 ru.m)).set_ 2 (.int .i64 ru.n); have t0 := HX2.cell p2; have t1 := HX2.cell c0; have t2 := HX2.cell c1; have t3 := HX2.cell c2))
  all_goals
    first
      | (show Exit.then _ _ _ _ (w2.alloc _); have HX3 := HX2.trans (Ext.alloc w2 (.cells #[.int .i64 ru.w, .int .i64 ru.m, .int .i64 ru.n] 95)); have bV := Blk.new w2 w2.heap.size 95 #[.int .i64 ru.w, .int .i64 ru.m, .int .i64 ru.n] rfl; generalize w2.alloc (.cells #[.int .i64 ru.w, .int .i64 ru.m, .int .i64 ru.n] 95) = V at *; generalize w2.heap.size = gr at *)
      | (generalize ((w2.setCell ⟨W.heap.size, 0, none⟩ (.int .i64 ru.w)).setCell ⟨W.heap.size, 1, none⟩ (.int .i64 ru.m)).setCell ⟨W.heap.size, 2, none⟩ (.int .i64 ru.n) = V at *; have bV' : Blk V W.heap.size 95 #[.int .i64 ru.w, .int .i64 ru.m, .int .i64 ru.n] := bV; clear bV; have bV := bV'; clear bV' bU u0 u1 u2 f0 f1 f2; generalize W.heap.size = gr at *)
    have hCV := hC.ext HX3
    have bRV := bR.ext HX3
    have hXV := hX.trans HX3
    have hgV := bRV.lt
    clear t0 t1 t2 t3 hM1 hM2 hC1 hC2 p0 p1 p2 c0 c1 c2 hr hx2 HX2 HX3
    obtain ⟨lv, rv, q0, q1, q2, hL, hR⟩ := hCV
    obtain ⟨AL, cL, rfl, _, _⟩ := hL.form
    obtain ⟨AR, cR, rfl, _, _⟩ := hR.form
    have g0 := bV.cell 0
    have g1 := bV.cell 1
    have g2 := bV.cell 2
    simp only [List.getElem?_toArray, List.getElem?_cons_zero, List.getElem?_cons_succ] at g0 g1 g2
    have ll := hl9
    have rl := ok.rl
    have hbc : bc < V.heap.size := World.block_lt_of_cell? V _ q0
    have hgr : gr < V.heap.size := bV.lt
    obtain ⟨V2, hV2⟩ : ∃ X, X = V.alloc (.cells #[.int .i64 ru.n, .slice none 0 0, .slice none 0 0] 37) := ⟨_, rfl⟩
    have EX2 : Ext V V2 := by rw [hV2]; exact Ext.alloc _ _
    have bO2 : Blk V2 V.heap.size 37 #[.int .i64 ru.n, .slice none 0 0, .slice none 0 0] := by rw [hV2]; exact Blk.new _ _ _ _ rfl
    have q2' := EX2.cell q2
    go_wp2_with fail
    rw [← hV2]
    clear hV2
    refine (l05Rest_c _ _ _ (hR.ext EX2) (by omega)).mono ?_
    rintro e w3 ⟨ur, rfl, ho3, hx3⟩
    obtain ⟨dr, hdr⟩ : ∃ d, d = List.drop 1 c.r := ⟨_, rfl⟩
    have hdl : dr.length ≤ 1000 := by rw [hdr]; simp; omega
    rw [← hdr] at ho3
    have HDR := Lib.hid hdr
    clear hdr
    have EX3 := EX2.trans hx3
    have bO3 := bO2.ext hx3
    obtain ⟨Au, cu, rfl, _, _⟩ := ho3.ints.form
    clear q2'
    by_cases hmv : 0 < ru.m
    · have e1 := EX3.cell g1
      have e0 := EX3.cell g0
      have eq1 := EX3.cell q1
      have hL4 := (hL.ext EX3).ext (Ext.drew _)
      have ne1 : gr ≠ V.heap.size := by omega
      have ne2 : bc ≠ V.heap.size := by omega
      go_wp2_with fail
      go_region_held3 (fun w' => w'.cell? ⟨gr, 0, none⟩ = some (.int .i64 ru.w) ∧ w'.cell? ⟨bc, 1, none⟩ = some (.slice AL c.l.length cL))
        (first | go_keep | exact ⟨EX4.cell g0, EX4.cell q1⟩ | exact ⟨EX5.cell g0, EX5.cell q1⟩)
        ((go_at_call 112; ((with_reducible refine (l05Push_c ru.w _ c.l _ hL4 (by omega)).mono ?_)); rintro e w4 ⟨ul, rfl, ho4, hx4⟩; obtain ⟨Al4, cl4, rfl, _, _⟩ := ho4.ints.form; have EX4 := (EX3.trans (Ext.drew w3)).trans hx4; have bO4 := Blk.ext (Blk.ext bO3 (Ext.drew w3)) hx4; have o1 := bO4.cell 1; have of1 := bO4.frozen 1; have EX5 := EX4.setCell (p := ⟨V.heap.size, 1, none⟩) (Nat.le_refl _) (.slice Al4 (trim (ru.w :: c.l)).length cl4); have bO5 := bO4.set_ 1 (.slice Al4 (trim (ru.w :: c.l)).length cl4); simp only [List.getElem?_toArray, List.getElem?_cons_zero, List.getElem?_cons_succ] at o1))
      all_goals
        have o4 : OwnInts _ _ _ _ := ownsRow_far ho4 (own_far_blk ho4 bO4 (by decide)) (.slice Al4 (trim (ru.w :: c.l)).length cl4) (p := ⟨V.heap.size, 1, none⟩)
        have o3 : OwnInts _ _ _ _ := ownsRow_far ((OwnInts.ext ho3 (Ext.drew w3)).ext hx4) (own_far_blk ((OwnInts.ext ho3 (Ext.drew w3)).ext hx4) bO4 (by decide)) (.slice Al4 (trim (ru.w :: c.l)).length cl4) (p := ⟨V.heap.size, 1, none⟩)
        have o4' : OwnInts _ _ _ (trim (ru.w :: c.l)) := ownsRow_far o4 (own_far_blk o4 bO5 (by decide)) (.slice Au dr.length cu) (p := ⟨V.heap.size, 2, none⟩)
        have o3' : OwnInts _ _ _ dr := ownsRow_far o3 (own_far_blk o3 bO5 (by decide)) (.slice Au dr.length cu) (p := ⟨V.heap.size, 2, none⟩)
        have EX := EX5.setCell (p := ⟨V.heap.size, 2, none⟩) (Nat.le_refl _) (.slice Au dr.length cu)
        have bO5' : Blk (w4.setCell ⟨V.heap.size, 1, none⟩ (.slice Al4 (trim (ru.w :: c.l)).length cl4)) V.heap.size 37 #[.int .i64 ru.n, .slice Al4 (trim (ru.w :: c.l)).length cl4, .slice none 0 0] := bO5
        have v0 := bO5'.cell 2
        have vf := bO5'.frozen 2
        simp only [List.getElem?_toArray, List.getElem?_cons_zero, List.getElem?_cons_succ] at v0
        have bO : Blk ((w4.setCell ⟨V.heap.size, 1, none⟩ (.slice Al4 (trim (ru.w :: c.l)).length cl4)).setCell ⟨V.heap.size, 2, none⟩ (.slice Au dr.length cu)) V.heap.size 37 #[.int .i64 ru.n, .slice Al4 (trim (ru.w :: c.l)).length cl4, .slice Au dr.length cu] := bO5'.set_ 2 (.slice Au dr.length cu)
        go_wp2_with fail
        generalize (w4.setCell ⟨V.heap.size, 1, none⟩ (.slice Al4 (trim (ru.w :: c.l)).length cl4)).setCell ⟨V.heap.size, 2, none⟩ (.slice Au dr.length cu) = X at *
        have hXX := hXV.trans EX
        have bRX := bRV.ext EX
        obtain ⟨D1, D2⟩ := conf_done (n := ru.n) hXX (Nat.le_refl _) bRX o4' o3'
        have HD1 : Hid (ConfV (((X.setCell ⟨w.heap.size, 0, none⟩ (.int .i64 ru.n)).setCell ⟨w.heap.size, 1, none⟩ (.slice Al4 (trim (ru.w :: c.l)).length cl4)).setCell ⟨w.heap.size, 2, none⟩ (.slice Au (dr).length cu)) (.agg #[.int .i64 ru.n, .slice Al4 (trim (ru.w :: c.l)).length cl4, .slice Au (dr).length cu]) (stepC ru c)) := by
          unfold Hid stepC
          rw [if_pos hmv, ← HDR.out]
          exact D1
        have HD2 := Lib.hid D2
        have HSL : Hid ((stepC ru c).l.length = (trim (ru.w :: c.l)).length) := by unfold Hid stepC; rw [if_pos hmv, ← HDR.out]
        have HSR : Hid ((stepC ru c).r.length = (dr).length) := by unfold Hid stepC; rw [if_pos hmv, ← HDR.out]
        have ln1 : (trim (ru.w :: c.l)).length ≤ 9223372036854775807 := by have := trim_len (ru.w :: c.l); simp at this; omega
        have ln2 : (dr).length ≤ 9223372036854775807 := by omega
        clear D1 D2 o4' o3'
        generalize (trim (ru.w :: c.l)).length = nl at *
        generalize (dr).length = nr at *
        have eO0 := bO.cell 0
        have eO1 := bO.cell 1
        have eO2 := bO.cell 2
        have r0 := bRX.cell 0
        have r1 := bRX.cell 1
        have r2 := bRX.cell 2
        have rf0 := bRX.frozen 0
        have rf1 := bRX.frozen 1
        have rf2 := bRX.frozen 2
        simp only [List.getElem?_toArray, List.getElem?_cons_zero, List.getElem?_cons_succ] at eO0 eO1 eO2 r0 r1 r2
        have neg : w.heap.size ≠ V.heap.size := by omega
        have bOf := ((bO.far (p := ⟨w.heap.size, 0, none⟩) neg.symm (.int .i64 ru.n)).far (p := ⟨w.heap.size, 1, none⟩) neg.symm (.slice Al4 nl cl4)).far (p := ⟨w.heap.size, 2, none⟩) neg.symm (.slice Au nr cu)
        have y0 := bOf.cell 0
        have y1 := bOf.cell 1
        have y2 := bOf.cell 2
        simp only [List.getElem?_toArray, List.getElem?_cons_zero, List.getElem?_cons_succ] at y0 y1 y2
        have d := (((bRX.set_ 0 (.int .i64 ru.n)).set_ 1 (.slice Al4 nl cl4)).set_ 2 (.slice Au nr cu)).cell
        by_cases hl1 : nl ≤ 200
        · have L1 : decide ((nl : Int) ≤ 200) = true := by simp; omega
          have L1' : decide (nl ≤ 200) = true := by simp; omega
          have HL1 := Lib.hid hl1
          clear hl1
          by_cases hl2 : nr ≤ 200
          · have L2 : decide ((nr : Int) ≤ 200) = true := by simp; omega
            have L2' : decide (nr ≤ 200) = true := by simp; omega
            have HL2 := Lib.hid hl2
            clear hl2
            go_region_held3 (fun w' => w'.cell? ⟨V.heap.size, 0, none⟩ = some (.int .i64 ru.n) ∧ w'.cell? ⟨V.heap.size, 1, none⟩ = some (.slice Al4 nl cl4) ∧ w'.cell? ⟨V.heap.size, 2, none⟩ = some (.slice Au nr cu)) (first | go_keep | exact ⟨y0, y1, y2⟩) (fail)
            all_goals
              go_wp2
              refine bodyPost_ret (v := .tuple #[.agg #[.int .i64 ru.n, .slice Al4 nl cl4, .slice Au nr cu], .bool true]) (by simp [results, Tryz.results84, go_sem, d]) rfl ⟨_, ?_, by first | exact HD1.out | exact HD1.out.ext (Ext.drew _), by first | exact HD2.out | exact HD2.out.trans (Ext.drew _)⟩
              simp [HSL.out, HSR.out, HL1.out, HL2.out]
          · have L2 : decide ((nr : Int) ≤ 200) = false := by simp; omega
            have L2' : decide (nr ≤ 200) = false := by simp; omega
            have HL2 := Lib.hid hl2
            clear hl2
            go_region_held3 (fun w' => w'.cell? ⟨V.heap.size, 0, none⟩ = some (.int .i64 ru.n) ∧ w'.cell? ⟨V.heap.size, 1, none⟩ = some (.slice Al4 nl cl4) ∧ w'.cell? ⟨V.heap.size, 2, none⟩ = some (.slice Au nr cu)) (first | go_keep | exact ⟨y0, y1, y2⟩) (fail)
            all_goals
              go_wp2
              refine bodyPost_ret (v := .tuple #[.agg #[.int .i64 ru.n, .slice Al4 nl cl4, .slice Au nr cu], .bool false]) (by simp [results, Tryz.results84, go_sem, d]) rfl ⟨_, ?_, by first | exact HD1.out | exact HD1.out.ext (Ext.drew _), by first | exact HD2.out | exact HD2.out.trans (Ext.drew _)⟩
              simp [HSL.out, HSR.out, HL1.out, HL2.out]
        · have L1 : decide ((nl : Int) ≤ 200) = false := by simp; omega
          have L1' : decide (nl ≤ 200) = false := by simp; omega
          have HL1 := Lib.hid hl1
          clear hl1
          refine wp_region_ordTS (fun w' => w'.cell? ⟨V.heap.size, 0, none⟩ = some (.int .i64 ru.n) ∧ w'.cell? ⟨V.heap.size, 1, none⟩ = some (.slice Al4 nl cl4) ∧ w'.cell? ⟨V.heap.size, 2, none⟩ = some (.slice Au nr cu)) 12 (readsT [0, 1, 2, 3, 4, 5, 6, 7, 8, 9, 10] (.stir 11 .done)) (by kernel_rfl) (by kernel_rfl) (fun _ _ _ _ _ h => h) ⟨eO0, eO1, eO2⟩ ?_
          simp only [readsT]
          iterate 6
            refine wpOrdT_read (v := ?_) (by rfl) (Or.inl ⟨by rfl, fun x hx => ?_⟩) ?_
            rotate_left
            · obtain ⟨a1, a2, a3⟩ := hx
              go_simp
              try simp only [L1]
              try with_reducible rfl
            try simp only [Act.put, List.setIfInBounds_toArray, List.set_cons_zero, List.set_cons_succ]
          iterate 4
            refine wpOrdT_read (v := undef) (by rfl) (Or.inr ⟨by rfl, by rfl⟩) ?_
            try simp only [Act.put, List.setIfInBounds_toArray, List.set_cons_zero, List.set_cons_succ]
          refine wpOrdT_read (v := ?_) (by rfl) (Or.inl ⟨by rfl, fun x hx => ?_⟩) ?_
          rotate_left
          · go_simp
            try with_reducible rfl
          try simp only [Act.put, List.setIfInBounds_toArray, List.set_cons_zero, List.set_cons_succ]
          refine wpOrdT_keep (by rfl) (fun K hK => ?_)
          go_simp
          refine hK _ _ ⟨y0, y1, y2⟩ ?_
          clear hK K
          refine wpOrdT_done ?_
          try simp only [List.drop_succ_cons, List.drop_zero]
          go_wp2
          refine bodyPost_ret (v := .tuple #[.agg #[.int .i64 ru.n, .slice Al4 nl cl4, .slice Au nr cu], .bool false]) (by simp [results, Tryz.results84, go_sem, d]) rfl ⟨_, ?_, by first | exact HD1.out | exact HD1.out.ext (Ext.drew _), by first | exact HD2.out | exact HD2.out.trans (Ext.drew _)⟩
          simp [HSL.out, HSR.out, HL1.out]
    · have e1 := EX3.cell g1
      have e0 := EX3.cell g0
      have eq1 := EX3.cell q1
      have hdm : decide (0 < ru.m) = false := by simp; omega
      have ho3l := dr.length
      by_cases hll : c.l.length = 0
      · have hz : c.l = [] := by simpa using hll
        have HN : Hid (hdR c.l = 0) := by unfold Hid; rw [hz]; rfl
        have hzd : decide ((0 : Int) < (c.l.length : Int)) = false := by simp; omega
        have hzd' : decide (0 < c.l.length) = false := by simp; omega
        clear hz hll
        go_wp2_with fail
        refine (l05Push_c ru.w _ dr _ ho3.ints (by omega)).mono ?_
        rintro e w4 ⟨u4, rfl, ho4, hx4⟩
        have hl4 := trim_len (ru.w :: dr)
        simp only [List.length_cons] at hl4
        obtain ⟨A4, c4, rfl, _, _⟩ := ho4.ints.form
        go_wp2_with fail
        refine (l05Push_c 0 _ _ _ ho4.ints (by omega)).mono ?_
        rintro e w5 ⟨u5, rfl, ho5, hx5⟩
        have hl5 := trim_len (0 :: trim (ru.w :: dr))
        simp only [List.length_cons] at hl5
        obtain ⟨A5, c5, rfl, _, _⟩ := ho5.ints.form
        have EX5 := (EX3.trans hx4).trans hx5
        have bO5 := (bO3.ext hx4).ext hx5
        generalize hrr : trim (0 :: trim (ru.w :: dr)) = rr at *
        have HRR := Lib.hid hrr
        clear hrr
        have v0 := bO5.cell 2
        have vf := bO5.frozen 2
        simp only [List.getElem?_toArray, List.getElem?_cons_zero, List.getElem?_cons_succ] at v0
        have o5 : OwnInts _ _ _ rr := ownsRow_far ho5 (own_far_blk ho5 bO5 (by decide)) (.slice A5 rr.length c5) (p := ⟨V.heap.size, 2, none⟩)
        have EX6 := EX5.setCell (p := ⟨V.heap.size, 2, none⟩) (Nat.le_refl _) (.slice A5 rr.length c5)
        have bO6 : Blk (w5.setCell ⟨V.heap.size, 2, none⟩ (.slice A5 rr.length c5)) V.heap.size 37 #[.int .i64 ru.n, .slice none 0 0, .slice A5 rr.length c5] := bO5.set_ 2 (.slice A5 rr.length c5)
        have eq6 := EX6.cell q1
        go_wp2_with fail
        generalize w5.setCell ⟨V.heap.size, 2, none⟩ (.slice A5 rr.length c5) = w6 at *
        refine (l05Rest_c _ _ _ (hL.ext EX6) (by omega)).mono ?_
        rintro e w7 ⟨u7, rfl, ho7, hx7⟩
        obtain ⟨dl, hdl'⟩ : ∃ d, d = List.drop 1 c.l := ⟨_, rfl⟩
        have hdll : dl.length ≤ 199 := by rw [hdl']; simp; omega
        rw [← hdl'] at ho7
        have HDL := Lib.hid hdl'
        clear hdl'
        obtain ⟨A7, c7, rfl, _, _⟩ := ho7.ints.form
        have EX7 := EX6.trans hx7
        have bO7 := bO6.ext hx7
        have o5' := OwnInts.ext o5 hx7
        have v1 := bO7.cell 1
        have vf1 := bO7.frozen 1
        simp only [List.getElem?_toArray, List.getElem?_cons_zero, List.getElem?_cons_succ] at v1
        have oL : OwnInts _ _ _ dl := ownsRow_far ho7 (own_far_blk ho7 bO7 (by decide)) (.slice A7 dl.length c7) (p := ⟨V.heap.size, 1, none⟩)
        have oR : OwnInts _ _ _ rr := ownsRow_far o5' (own_far_blk o5' bO7 (by decide)) (.slice A7 dl.length c7) (p := ⟨V.heap.size, 1, none⟩)
        have EX := EX7.setCell (p := ⟨V.heap.size, 1, none⟩) (Nat.le_refl _) (.slice A7 dl.length c7)
        have bO : Blk (w7.setCell ⟨V.heap.size, 1, none⟩ (.slice A7 dl.length c7)) V.heap.size 37 #[.int .i64 ru.n, .slice A7 dl.length c7, .slice A5 rr.length c5] := bO7.set_ 1 (.slice A7 dl.length c7)
        go_wp2_with fail
        generalize w7.setCell ⟨V.heap.size, 1, none⟩ (.slice A7 dl.length c7) = X at *
        have hXX := hXV.trans EX
        have bRX := bRV.ext EX
        obtain ⟨D1, D2⟩ := conf_done (n := ru.n) hXX (Nat.le_refl _) bRX oL oR
        have HD1 : Hid (ConfV (((X.setCell ⟨w.heap.size, 0, none⟩ (.int .i64 ru.n)).setCell ⟨w.heap.size, 1, none⟩ (.slice A7 (dl).length c7)).setCell ⟨w.heap.size, 2, none⟩ (.slice A5 (rr).length c5)) (.agg #[.int .i64 ru.n, .slice A7 (dl).length c7, .slice A5 (rr).length c5]) (stepC ru c)) := by
          unfold Hid stepC
          rw [if_neg (by omega), ← HDL.out, ← HDR.out, HN.out, HRR.out]
          exact D1
        have HD2 := Lib.hid D2
        have HSL : Hid ((stepC ru c).l.length = (dl).length) := by unfold Hid stepC; rw [if_neg (by omega), ← HDL.out, ← HDR.out, HN.out, HRR.out]
        have HSR : Hid ((stepC ru c).r.length = (rr).length) := by unfold Hid stepC; rw [if_neg (by omega), ← HDL.out, ← HDR.out, HN.out, HRR.out]
        have ln1 : (dl).length ≤ 9223372036854775807 := by omega
        have ln2 : (rr).length ≤ 9223372036854775807 := by omega
        have LN : (dl).length ≤ 200 := by omega
        clear D1 D2 oL oR
        generalize (dl).length = nl at *
        generalize (rr).length = nr at *
        have eO0 := bO.cell 0
        have eO1 := bO.cell 1
        have eO2 := bO.cell 2
        have r0 := bRX.cell 0
        have r1 := bRX.cell 1
        have r2 := bRX.cell 2
        have rf0 := bRX.frozen 0
        have rf1 := bRX.frozen 1
        have rf2 := bRX.frozen 2
        simp only [List.getElem?_toArray, List.getElem?_cons_zero, List.getElem?_cons_succ] at eO0 eO1 eO2 r0 r1 r2
        have neg : w.heap.size ≠ V.heap.size := by omega
        have bOf := ((bO.far (p := ⟨w.heap.size, 0, none⟩) neg.symm (.int .i64 ru.n)).far (p := ⟨w.heap.size, 1, none⟩) neg.symm (.slice A7 nl c7)).far (p := ⟨w.heap.size, 2, none⟩) neg.symm (.slice A5 nr c5)
        have y0 := bOf.cell 0
        have y1 := bOf.cell 1
        have y2 := bOf.cell 2
        simp only [List.getElem?_toArray, List.getElem?_cons_zero, List.getElem?_cons_succ] at y0 y1 y2
        have d := (((bRX.set_ 0 (.int .i64 ru.n)).set_ 1 (.slice A7 nl c7)).set_ 2 (.slice A5 nr c5)).cell
        by_cases hl1 : nl ≤ 200
        · have L1 : decide ((nl : Int) ≤ 200) = true := by simp; omega
          have L1' : decide (nl ≤ 200) = true := by simp; omega
          have HL1 := Lib.hid hl1
          clear hl1
          by_cases hl2 : nr ≤ 200
          · have L2 : decide ((nr : Int) ≤ 200) = true := by simp; omega
            have L2' : decide (nr ≤ 200) = true := by simp; omega
            have HL2 := Lib.hid hl2
            clear hl2
            go_region_held3 (fun w' => w'.cell? ⟨V.heap.size, 0, none⟩ = some (.int .i64 ru.n) ∧ w'.cell? ⟨V.heap.size, 1, none⟩ = some (.slice A7 nl c7) ∧ w'.cell? ⟨V.heap.size, 2, none⟩ = some (.slice A5 nr c5)) (first | go_keep | exact ⟨y0, y1, y2⟩) (fail)
            all_goals
              go_wp2
              refine bodyPost_ret (v := .tuple #[.agg #[.int .i64 ru.n, .slice A7 nl c7, .slice A5 nr c5], .bool true]) (by simp [results, Tryz.results84, go_sem, d]) rfl ⟨_, ?_, by first | exact HD1.out | exact HD1.out.ext (Ext.drew _), by first | exact HD2.out | exact HD2.out.trans (Ext.drew _)⟩
              simp [HSL.out, HSR.out, HL1.out, HL2.out]
          · have L2 : decide ((nr : Int) ≤ 200) = false := by simp; omega
            have L2' : decide (nr ≤ 200) = false := by simp; omega
            have HL2 := Lib.hid hl2
            clear hl2
            go_region_held3 (fun w' => w'.cell? ⟨V.heap.size, 0, none⟩ = some (.int .i64 ru.n) ∧ w'.cell? ⟨V.heap.size, 1, none⟩ = some (.slice A7 nl c7) ∧ w'.cell? ⟨V.heap.size, 2, none⟩ = some (.slice A5 nr c5)) (first | go_keep | exact ⟨y0, y1, y2⟩) (fail)
            all_goals
              go_wp2
              refine bodyPost_ret (v := .tuple #[.agg #[.int .i64 ru.n, .slice A7 nl c7, .slice A5 nr c5], .bool false]) (by simp [results, Tryz.results84, go_sem, d]) rfl ⟨_, ?_, by first | exact HD1.out | exact HD1.out.ext (Ext.drew _), by first | exact HD2.out | exact HD2.out.trans (Ext.drew _)⟩
              simp [HSL.out, HSR.out, HL1.out, HL2.out]
        · exact absurd LN hl1
      · obtain ⟨bl, ol, rfl, hcl⟩ := hL.at (k := 0) (by omega)
        have dl0 := EX3.cell (hcl 0 (by omega))
        simp only [Nat.add_zero] at dl0
        have HN : Hid (hdR c.l = c.l[0]) := by unfold Hid hdR; rw [List.getD_eq_getElem?_getD, List.getElem?_eq_getElem (by omega)]; rfl
        have hl0 : (0 : Int) < (c.l.length : Int) := by omega
        generalize c.l[0] = near at *
        clear hcl
        go_wp2_with fail
        refine (l05Push_c ru.w _ dr _ ho3.ints (by omega)).mono ?_
        rintro e w4 ⟨u4, rfl, ho4, hx4⟩
        have hl4 := trim_len (ru.w :: dr)
        simp only [List.length_cons] at hl4
        obtain ⟨A4, c4, rfl, _, _⟩ := ho4.ints.form
        go_wp2_with fail
        refine (l05Push_c near _ _ _ ho4.ints (by omega)).mono ?_
        rintro e w5 ⟨u5, rfl, ho5, hx5⟩
        have hl5 := trim_len (near :: trim (ru.w :: dr))
        simp only [List.length_cons] at hl5
        obtain ⟨A5, c5, rfl, _, _⟩ := ho5.ints.form
        have EX5 := (EX3.trans hx4).trans hx5
        have bO5 := (bO3.ext hx4).ext hx5
        generalize hrr : trim (near :: trim (ru.w :: dr)) = rr at *
        have HRR := Lib.hid hrr
        clear hrr
        have v0 := bO5.cell 2
        have vf := bO5.frozen 2
        simp only [List.getElem?_toArray, List.getElem?_cons_zero, List.getElem?_cons_succ] at v0
        have o5 : OwnInts _ _ _ rr := ownsRow_far ho5 (own_far_blk ho5 bO5 (by decide)) (.slice A5 rr.length c5) (p := ⟨V.heap.size, 2, none⟩)
        have EX6 := EX5.setCell (p := ⟨V.heap.size, 2, none⟩) (Nat.le_refl _) (.slice A5 rr.length c5)
        have bO6 : Blk (w5.setCell ⟨V.heap.size, 2, none⟩ (.slice A5 rr.length c5)) V.heap.size 37 #[.int .i64 ru.n, .slice none 0 0, .slice A5 rr.length c5] := bO5.set_ 2 (.slice A5 rr.length c5)
        have eq6 := EX6.cell q1
        go_wp2_with fail
        generalize w5.setCell ⟨V.heap.size, 2, none⟩ (.slice A5 rr.length c5) = w6 at *
        refine (l05Rest_c _ _ _ (hL.ext EX6) (by omega)).mono ?_
        rintro e w7 ⟨u7, rfl, ho7, hx7⟩
        obtain ⟨dl, hdl'⟩ : ∃ d, d = List.drop 1 c.l := ⟨_, rfl⟩
        have hdll : dl.length ≤ 199 := by rw [hdl']; simp; omega
        rw [← hdl'] at ho7
        have HDL := Lib.hid hdl'
        clear hdl'
        obtain ⟨A7, c7, rfl, _, _⟩ := ho7.ints.form
        have EX7 := EX6.trans hx7
        have bO7 := bO6.ext hx7
        have o5' := OwnInts.ext o5 hx7
        have v1 := bO7.cell 1
        have vf1 := bO7.frozen 1
        simp only [List.getElem?_toArray, List.getElem?_cons_zero, List.getElem?_cons_succ] at v1
        have oL : OwnInts _ _ _ dl := ownsRow_far ho7 (own_far_blk ho7 bO7 (by decide)) (.slice A7 dl.length c7) (p := ⟨V.heap.size, 1, none⟩)
        have oR : OwnInts _ _ _ rr := ownsRow_far o5' (own_far_blk o5' bO7 (by decide)) (.slice A7 dl.length c7) (p := ⟨V.heap.size, 1, none⟩)
        have EX := EX7.setCell (p := ⟨V.heap.size, 1, none⟩) (Nat.le_refl _) (.slice A7 dl.length c7)
        have bO : Blk (w7.setCell ⟨V.heap.size, 1, none⟩ (.slice A7 dl.length c7)) V.heap.size 37 #[.int .i64 ru.n, .slice A7 dl.length c7, .slice A5 rr.length c5] := bO7.set_ 1 (.slice A7 dl.length c7)
        go_wp2_with fail
        generalize w7.setCell ⟨V.heap.size, 1, none⟩ (.slice A7 dl.length c7) = X at *
        have hXX := hXV.trans EX
        have bRX := bRV.ext EX
        obtain ⟨D1, D2⟩ := conf_done (n := ru.n) hXX (Nat.le_refl _) bRX oL oR
        have HD1 : Hid (ConfV (((X.setCell ⟨w.heap.size, 0, none⟩ (.int .i64 ru.n)).setCell ⟨w.heap.size, 1, none⟩ (.slice A7 (dl).length c7)).setCell ⟨w.heap.size, 2, none⟩ (.slice A5 (rr).length c5)) (.agg #[.int .i64 ru.n, .slice A7 (dl).length c7, .slice A5 (rr).length c5]) (stepC ru c)) := by
          unfold Hid stepC
          rw [if_neg (by omega), ← HDL.out, ← HDR.out, HN.out, HRR.out]
          exact D1
        have HD2 := Lib.hid D2
        have HSL : Hid ((stepC ru c).l.length = (dl).length) := by unfold Hid stepC; rw [if_neg (by omega), ← HDL.out, ← HDR.out, HN.out, HRR.out]
        have HSR : Hid ((stepC ru c).r.length = (rr).length) := by unfold Hid stepC; rw [if_neg (by omega), ← HDL.out, ← HDR.out, HN.out, HRR.out]
        have ln1 : (dl).length ≤ 9223372036854775807 := by omega
        have ln2 : (rr).length ≤ 9223372036854775807 := by omega
        have LN : (dl).length ≤ 200 := by omega
        clear D1 D2 oL oR
        generalize (dl).length = nl at *
        generalize (rr).length = nr at *
        have eO0 := bO.cell 0
        have eO1 := bO.cell 1
        have eO2 := bO.cell 2
        have r0 := bRX.cell 0
        have r1 := bRX.cell 1
        have r2 := bRX.cell 2
        have rf0 := bRX.frozen 0
        have rf1 := bRX.frozen 1
        have rf2 := bRX.frozen 2
        simp only [List.getElem?_toArray, List.getElem?_cons_zero, List.getElem?_cons_succ] at eO0 eO1 eO2 r0 r1 r2
        have neg : w.heap.size ≠ V.heap.size := by omega
        have bOf := ((bO.far (p := ⟨w.heap.size, 0, none⟩) neg.symm (.int .i64 ru.n)).far (p := ⟨w.heap.size, 1, none⟩) neg.symm (.slice A7 nl c7)).far (p := ⟨w.heap.size, 2, none⟩) neg.symm (.slice A5 nr c5)
        have y0 := bOf.cell 0
        have y1 := bOf.cell 1
        have y2 := bOf.cell 2
        simp only [List.getElem?_toArray, List.getElem?_cons_zero, List.getElem?_cons_succ] at y0 y1 y2
        have d := (((bRX.set_ 0 (.int .i64 ru.n)).set_ 1 (.slice A7 nl c7)).set_ 2 (.slice A5 nr c5)).cell
        by_cases hl1 : nl ≤ 200
        · have L1 : decide ((nl : Int) ≤ 200) = true := by simp; omega
          have L1' : decide (nl ≤ 200) = true := by simp; omega
          have HL1 := Lib.hid hl1
          clear hl1
          by_cases hl2 : nr ≤ 200
          · have L2 : decide ((nr : Int) ≤ 200) = true := by simp; omega
            have L2' : decide (nr ≤ 200) = true := by simp; omega
            have HL2 := Lib.hid hl2
            clear hl2
            go_region_held3 (fun w' => w'.cell? ⟨V.heap.size, 0, none⟩ = some (.int .i64 ru.n) ∧ w'.cell? ⟨V.heap.size, 1, none⟩ = some (.slice A7 nl c7) ∧ w'.cell? ⟨V.heap.size, 2, none⟩ = some (.slice A5 nr c5)) (first | go_keep | exact ⟨y0, y1, y2⟩) (fail)
            all_goals
              go_wp2
              refine bodyPost_ret (v := .tuple #[.agg #[.int .i64 ru.n, .slice A7 nl c7, .slice A5 nr c5], .bool true]) (by simp [results, Tryz.results84, go_sem, d]) rfl ⟨_, ?_, by first | exact HD1.out | exact HD1.out.ext (Ext.drew _), by first | exact HD2.out | exact HD2.out.trans (Ext.drew _)⟩
              simp [HSL.out, HSR.out, HL1.out, HL2.out]
          · have L2 : decide ((nr : Int) ≤ 200) = false := by simp; omega
            have L2' : decide (nr ≤ 200) = false := by simp; omega
            have HL2 := Lib.hid hl2
            clear hl2
            go_region_held3 (fun w' => w'.cell? ⟨V.heap.size, 0, none⟩ = some (.int .i64 ru.n) ∧ w'.cell? ⟨V.heap.size, 1, none⟩ = some (.slice A7 nl c7) ∧ w'.cell? ⟨V.heap.size, 2, none⟩ = some (.slice A5 nr c5)) (first | go_keep | exact ⟨y0, y1, y2⟩) (fail)
            all_goals
              go_wp2
              refine bodyPost_ret (v := .tuple #[.agg #[.int .i64 ru.n, .slice A7 nl c7, .slice A5 nr c5], .bool false]) (by simp [results, Tryz.results84, go_sem, d]) rfl ⟨_, ?_, by first | exact HD1.out | exact HD1.out.ext (Ext.drew _), by first | exact HD2.out | exact HD2.out.trans (Ext.drew _)⟩
              simp [HSL.out, HSR.out, HL1.out, HL2.out]
        · exact absurd LN hl1
end Go.Proofs.YtjcfmlecfjmcgaaGreatDoor
end
