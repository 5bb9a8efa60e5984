/- Contracts of the reference's texts of numbers, words and configurations. The numbers are from 0 to a million, the letters are digits.
Contract of the reference's text of a configuration.
Contracts of the reference's step of a machine from a valid configuration, and of the laws' one. Each side has at most 199 cells. -/
import Derived.Test.YthhjbmlkncdigaaGreatDoorB20
import Derived.Test.YthhjbmlkncdigaaGreatDoorB06
import Derived.Test.YthhjbmlkncdigaaGreatDoorB07
import Derived.Laws.IdiomStrings
import Derived.Test.YthhjbmlkncdigaaGreatDoorB17
import Derived.Test.YthhjbmlkncdigaaGreatDoorB16
section
set_option linter.unusedSimpArgs false
set_option linter.unusedVariables false
namespace Go.Proofs.YthhjbmlkncdigaaGreatDoor
open Go Go.RowKit Go.Proofs
set_option maxHeartbeats 400000
theorem itoa_natF {n : Int} (h0 : 0 ≤ n) : Lib.itoa n = Lib.decDigits n.toNat := by
  unfold Lib.itoa
  rw [if_neg (by omega)]
/-- The digits of a number, none for 0. -/
def dgs (m : Nat) : List UInt8 := if m = 0 then [] else Lib.decDigits m
theorem dgs_step {m : Nat} (h : m ≠ 0) : dgs m = dgs (m / 10) ++ [UInt8.ofNat (48 + m % 10)] := by
  unfold dgs
  rw [if_neg h, Lib.decDigits]
  split
  · rename_i h9
    rw [if_pos (by omega), show m % 10 = m by omega]
    rfl
  · rename_i h9
    rw [if_neg (by omega)]
theorem dgs_len (m : Nat) (hm : m ≤ 1000000) : (dgs m).length ≤ 18 := by
  unfold dgs
  split
  · simp
  · exact digits_len m hm
theorem itoa_dgs {n : Int} (h0 : 0 < n) : Lib.itoa n = dgs n.toNat := by
  rw [itoa_natF (by omega)]
  unfold dgs
  rw [if_neg (by omega)]
theorem u8Info : (Tryz.prog.info? 5).map (fun i => (i.zero, i.size, i.bytes)) = some (some (.int .u8 0), 1, 1) := by kernel_rfl
/-- A list of bytes as cells. -/
def ubs (l : List UInt8) : List Value := l.map fun b => .int .u8 (b.toNat : Int)
theorem ubs_app (a b : List UInt8) : ubs (a ++ b) = ubs a ++ ubs b := by simp [ubs]
theorem ubs_get (l : List UInt8) (k : Nat) (h : k < l.length) : (ubs l)[k]? = some (.int .u8 (l[k].toNat : Int)) := by simp [ubs, h]
/-- The text of a row of bytes. -/
theorem ubs_conv {w : World} {base n c : Nat} {A : Option Addr} {l : List UInt8} (ho : w.ownsRow base 5 1 (.slice A n c) n (ubs l)) (hn : l.length = n) (h0 : 0 < n) : (convert 121 9 (.slice A n c)).run Tryz.prog w = .ok (.string (bsS l)) w := by
  obtain ⟨g, rfl, _, _⟩ := own_at ho h0
  subst hn
  exact run_convert_bytes_back w _ _ 5 _ c l Tryz.underlying121 Tryz.underlying5 Tryz.underlying9 (fun j hj => by
    have : (⟨g, 0, none⟩ : Addr).add j = ⟨g, j, none⟩ := by simp [Addr.add]; intro h; exact h.symm
    rw [this, ho.cellAt j (by omega), ubs_get l j hj])
theorem dig_fact {z : Int} (h0 : 0 ≤ z) (h1 : z ≤ 9) : IntKind.u8.wrap (48 + z) = ((digU z).toNat : Int) := by
  rw [digU_nat h0 h1]
  rcases (show z = 0 ∨ z = 1 ∨ z = 2 ∨ z = 3 ∨ z = 4 ∨ z = 5 ∨ z = 6 ∨ z = 7 ∨ z = 8 ∨ z = 9 by omega) with e | e | e | e | e | e | e | e | e | e <;> rw [e] <;> rfl
set_option maxRecDepth 20000 in
set_option maxHeartbeats 4000000 in
theorem l03Text_c (v : Value) (zs : List Int) (w : World) (h : Ints w v zs) (hz : ∀ z ∈ zs, 0 ≤ z ∧ z ≤ 9) (h0 : 0 < zs.length) (hl : zs.length ≤ 1048576) :
    Calls Tryz.prog 86 #[v] w fun e w' => e = .returned (.string (bsS (digB zs))) ∧ Ext w w' := by
  obtain ⟨i0, hi, hz0, hz1, hz2⟩ := info_parts u8Info
  obtain ⟨A, c, rfl, h1, h2⟩ := h.form
  have hne : ((zs.length : Int) == 0) = false := beq_eq_false_iff_ne.2 (by omega)
  obtain ⟨W, hW⟩ : ∃ W, w.alloc (.cells #[] 5) = W := ⟨_, rfl⟩
  have hX : Ext w W := by rw [← hW]; exact Ext.alloc _ _
  have ho0 : W.ownsRow w.heap.size 5 1 (.slice (some ⟨w.heap.size, 0, none⟩) 0 0) 0 (ubs (digB (zs.take 0))) := by
    rw [← hW]
    exact World.ownsRow_made (base := w.heap.size) (e := 5) (size := 1) w #[] 0 (by simp) (by unfold maxLen; omega) (by simp [ubs, digB])
  have HZ := Lib.hid hz
  go_enter Tryz.func86, Tryz.ntmps86
  go_wp2_with fail
  try rw [hW]
  clear hW
  go_loopw [3, 4] (fun tv i wr => ∃ k : Nat, k ≤ zs.length ∧ i = .int .i64 (k : Int) ∧ Ext w wr ∧ wr.ownsRow w.heap.size 5 1 tv k (ubs (digB (zs.take k)))) (fun _ i _ => zs.length - (intOf i).toNat)
  case atStart => exact ⟨0, Nat.zero_le _, rfl, hX, ho0⟩
  case round =>
    clear ho0 hX
    obtain ⟨k, hk, rfl, hX, ho⟩ := hrel
    obtain ⟨At, ct, rfl, hct, hct2, _⟩ := (ownsRow_row ho).form
    by_cases hlt : k < zs.length
    · obtain ⟨b', off, rfl, hc⟩ := (h.ext hX).at hlt
      have c0 := hc k hlt
      have hz0' := HZ.out _ (List.getElem_mem hlt)
      have hnx : Hid (ubs (digB (zs.take (k + 1))) = ubs (digB (zs.take k)) ++ [.int .u8 ((digU zs[k]).toNat : Int)]) := Lib.hid (by unfold digB; rw [List.take_succ_eq_append_getElem hlt, List.map_append, ubs_app]; rfl)
      generalize zs[k] = z at *
      have hwz := dig_fact hz0'.1 hz0'.2
      have hsz := hX.size
      clear hc
      go_wp2_with (at_builtin; refine wpList_append_own _ rfl _ _ 121 rfl w.heap.size 5 i0 (.int .u8 0) 1 1 Tryz.underlying121 hi hz0 hz1 hz2 rfl (by decide) _ _ _ rfl (ho.alloc _) ⟨wr.heap.size, 0, none⟩ 1 1 [.int .u8 ((digU z).toNat : Int)] rfl rfl ?c1 ?c2 ?c3 ?c4 ?c5 ?_)
      case c1 =>
        intro j u hj
        match j, hj with
        | 0, hj => simp at hj; subst hj; simp [Addr.add, hwz]
      case c2 => intro u hu; simp at hu; subst hu; rfl
      case c3 => unfold maxLen; omega
      case c4 => omega
      case c5 => simp; omega
      intro v' w3 hown' hgrow _
      have hX3' : Ext w w3 := hX.grown (grownBy_trans (World.grownBy_alloc _ _ _) hgrow) (fun b hb => (ho.lt b hb).1)
      have R : w3.ownsRow w.heap.size 5 1 v' (k + 1) (ubs (digB (zs.take (k + 1)))) := by rw [hnx.out]; exact hown'
      clear hown' hgrow ho
      go_wp2
      go_roundw
      case rel => exact ⟨k + 1, by omega, by go_num, hX3', R⟩
      case measure => simp [intOf]; omega
    · obtain rfl : k = zs.length := by omega
      have hke : zs.take zs.length = zs := List.take_length
      rw [hke] at ho
      have hcv := ubs_conv ho (by simp [digB]) h0
      clear hke
      go_wp2
      go_ret
      exact ⟨rfl, hX⟩
theorem l05Digits_c (v : Value) (zs : List Int) (w : World) (h : Ints w v zs) (hz : ∀ z ∈ zs, 0 ≤ z ∧ z ≤ 9) (hl : zs.length ≤ 1048576) :
    Calls Tryz.prog 50 #[v] w fun e w' => e = .returned (.string (bsS (digB zs))) ∧ Ext w w' := by
  obtain ⟨A, c, rfl, h1, h2⟩ := h.form
  by_cases h0 : 0 < zs.length
  · have hne : ((zs.length : Int) == 0) = false := beq_eq_false_iff_ne.2 (by omega)
    have hT := l03Text_c _ zs w h hz h0 hl
    go_enter Tryz.func50, Tryz.ntmps50
    go_wp2_with fail
    refine hT.mono ?_
    rintro e w' ⟨rfl, hx⟩
    go_wp2
    go_ret
    exact ⟨rfl, hx⟩
  · have hz0 : zs = [] := List.length_eq_zero_iff.1 (by omega)
    subst hz0
    go_enter Tryz.func50, Tryz.ntmps50
    go_wp2
    go_ret
    exact ⟨rfl, Ext.refl _⟩
theorem one_u8 {w : World} {x : Int} (k : Nat) (u : Value) (h : [Value.int .u8 x][k]? = some u) : (w.alloc (.cells #[.int .u8 x] 5)).cell? ((⟨w.heap.size, 0, none⟩ : Addr).add k) = some u := by
  match k, h with
  | 0, h => simp at h; subst h; simp [Addr.add]
theorem wrap_nat {q : Nat} (h : q ≤ 1000000) : wrap64 (q : Int) = (q : Int) := by unfold wrap64; omega
theorem meas_fact (q k : Nat) (h : q < k) (hq : q ≤ 1000000) : (intOf (Value.int IntKind.i64 (wrap64 (q : Int)))).toNat < (intOf (Value.int IntKind.i64 (k : Int))).toNat := by
  rw [wrap_nat hq]
  simp only [intOf]
  omega
set_option maxRecDepth 20000 in
set_option maxHeartbeats 4000000 in
theorem l01Dec_c (n : Int) (w : World) (n0 : 0 ≤ n) (n1 : n ≤ 1000000) :
    Calls Tryz.prog 52 #[.int .i64 n] w fun e w' => e = .returned (.string (itoaS n)) ∧ Ext w w' := by
  obtain ⟨i0, hi, hz0, hz1, hz2⟩ := info_parts u8Info
  by_cases hn0 : n = 0
  · subst hn0
    have e : itoaS 0 = ⟨#[48]⟩ := by
      unfold itoaS
      rw [itoa_natF (by omega), Lib.decDigits]
      rfl
    rw [e]
    go_enter Tryz.func52, Tryz.ntmps52
    go_wp2
    go_ret
    exact ⟨rfl, Ext.refl _⟩
  · obtain ⟨N, rfl⟩ : ∃ N : Nat, n = (N : Int) := ⟨n.toNat, by omega⟩
    have hN0 : N ≠ 0 := by omega
    have hne : ((N : Int) == 0) = false := beq_eq_false_iff_ne.2 (by omega)
    have hlt0 : ¬ (N : Int) < 0 := by omega
    have hlt0' : decide ((N : Int) < 0) = false := decide_eq_false hlt0
    have HE : Hid (itoaS (N : Int) = bsS (dgs N)) := by
      unfold Hid itoaS bsS
      rw [itoa_dgs (by omega), Int.toNat_natCast]
    have HLN := Lib.hid (dgs_len N (by omega))
    have HP : Hid (0 < (dgs N).length) := by
      unfold Hid
      rw [dgs_step hN0]
      simp
    have HN1 : Hid (N ≤ 1000000) := by unfold Hid; omega
    obtain ⟨W, hW⟩ : ∃ W, w.alloc (.cells #[] 5) = W := ⟨_, rfl⟩
    have hX : Ext w W := by rw [← hW]; exact Ext.alloc _ _
    have ho0 : W.ownsRow w.heap.size 5 1 (.slice (some ⟨w.heap.size, 0, none⟩) 0 0) 0 (ubs []) := by
      rw [← hW]
      exact World.ownsRow_made (base := w.heap.size) (e := 5) (size := 1) w #[] 0 (by simp) (by unfold maxLen; omega) (by simp [ubs])
    clear n0 n1 hn0
    go_enter Tryz.func52, Tryz.ntmps52
    go_wp2_with fail
    try rw [hW]
    clear hW
    go_loopw [3, 4, 5] (fun tv i dv wr => ∃ (k : Nat) (D : List UInt8), i = .int .i64 (k : Int) ∧ k ≤ N ∧ dgs N = dgs k ++ D.reverse ∧ Ext w wr ∧ wr.ownsRow w.heap.size 5 1 tv D.length (ubs D)) (fun _ i _ _ => (intOf i).toNat)
    case atStart => exact ⟨N, [], rfl, Nat.le_refl _, by simp, hX, ho0⟩
    case round =>
      clear ho0 hX
      obtain ⟨k, D, rfl, hk, hD, hX, ho⟩ := hrel
      obtain ⟨At, ct, rfl, hct, hct2, _⟩ := (ownsRow_row ho).form
      by_cases hk0 : k = 0
      · subst hk0
        rw [show ((0 : Nat) : Int) = 0 from rfl]
        have HD : Hid (D.reverse = dgs N) := Lib.hid (by rw [hD]; simp [dgs])
        clear hD
        have HDL : Hid (D.length = (dgs N).length) := by unfold Hid; rw [← HD.out, List.length_reverse]
        obtain ⟨M, hM⟩ : ∃ M, D.length = M := ⟨_, rfl⟩
        have HM := Lib.hid hM
        rw [hM] at ho hct ⊢
        clear hM
        have hM0 : 0 < M := by rw [← HM.out, HDL.out]; exact HP.out
        have hM1 : M ≤ 18 := by rw [← HM.out, HDL.out]; exact HLN.out
        obtain ⟨g, rfl, hg1, hg2⟩ := own_at ho hM0
        obtain ⟨V, hV⟩ : ∃ V, wr.alloc (.cells #[] 5) = V := ⟨_, rfl⟩
        have hXV : Ext wr V := by rw [← hV]; exact Ext.alloc _ _
        have ho2 : V.ownsRow wr.heap.size 5 1 (.slice (some ⟨wr.heap.size, 0, none⟩) 0 0) 0 (ubs ((dgs N).take 0)) := by
          rw [← hV]
          exact World.ownsRow_made (base := wr.heap.size) (e := 5) (size := 1) wr #[] 0 (by simp) (by unfold maxLen; omega) (by simp [ubs])
        obtain ⟨h0, hh0⟩ : ∃ h0, wr.heap.size = h0 := ⟨_, rfl⟩
        have hX0 : w.heap.size ≤ h0 := by rw [← hh0]; exact hX.size
        rw [hh0] at ho2 hg2
        go_wp2_with fail
        try rw [hh0]
        try rw [hV]
        have hXwV := hX.trans hXV
        have hoV := ownsRow_ext ho hXV
        have hVs : h0 ≤ V.heap.size := by rw [← hh0]; exact hXV.size
        clear hV hXV ho hX hh0
        go_loopw [6, 7] (fun tv i wr => ∃ j : Nat, j ≤ M ∧ i = .int .i64 ((M : Int) - 1 - j) ∧ Below h0 V wr ∧ wr.ownsRow h0 5 1 tv j (ubs ((dgs N).take j))) (fun _ i _ => (intOf i + 1).toNat)
        case atStart => exact ⟨0, Nat.zero_le _, by simp, Below.refl _ _, ho2⟩
        case round =>
          clear ho2
          obtain ⟨j, hj, rfl, hB, ho⟩ := hrel
          obtain ⟨Aj, cj, rfl, hcj, hcj2, _⟩ := (ownsRow_row ho).form
          by_cases hlt : j < M
          · have hge : (0 : Int) ≤ (M : Int) - 1 - j := by omega
            have hix : (M : Int) - 1 - (j : Int) = ((M - 1 - j : Nat) : Int) := by omega
            have hdl : j < (dgs N).length := by rw [← HDL.out, HM.out]; exact hlt
            have hDl : M - 1 - j < D.length := by rw [HM.out]; omega
            have hval : D[M - 1 - j] = (dgs N)[j] := by
              have e1 : (dgs N)[j] = D.reverse[j]'(by rw [HD.out]; exact hdl) := by simp only [HD.out]
              rw [e1, List.getElem_reverse]
              simp only [HM.out]
            have hcl : wr.cell? ⟨g, M - 1 - j, none⟩ = some (.int .u8 (((dgs N)[j]).toNat : Int)) := by
              have : wr.heap[g]? = V.heap[g]? := Below.block hB _ hg2
              have e := hoV.cellAt (M - 1 - j) (by omega)
              rw [ubs_get _ _ hDl, hval] at e
              rw [← e]
              unfold World.cell?
              rw [this]
            have hnx : Hid (ubs ((dgs N).take (j + 1)) = ubs ((dgs N).take j) ++ [.int .u8 (((dgs N)[j]).toNat : Int)]) := Lib.hid (by rw [List.take_succ_eq_append_getElem hdl, ubs_app]; rfl)
            generalize (dgs N)[j] = z at *
            rw [hix]
            go_wp2_with (at_builtin; refine wpList_append_own _ rfl _ _ 121 rfl h0 5 i0 (.int .u8 0) 1 1 Tryz.underlying121 hi hz0 hz1 hz2 rfl (by decide) _ _ _ rfl (ho.alloc _) ⟨wr.heap.size, 0, none⟩ 1 1 [.int .u8 (z.toNat : Int)] rfl rfl ?c1 ?c2 ?c3 ?c4 ?c5 ?_)
            case c1 => intro j u hj; exact one_u8 j u hj
            case c2 => intro u hu; simp at hu; subst hu; rfl
            case c3 => unfold maxLen; omega
            case c4 => omega
            case c5 => simp; have := Below.size hB; omega
            intro v' w3 hown' hgrow _
            have hB3 : Below h0 V w3 := hB.grown (grownBy_trans (World.grownBy_alloc _ _ _) hgrow) (by have := Below.size hB; omega) (fun b hb => (ho.lt b hb).1)
            have R : w3.ownsRow h0 5 1 v' (j + 1) (ubs ((dgs N).take (j + 1))) := by rw [hnx.out]; exact hown'
            clear hown' hgrow ho
            go_wp2
            go_roundw
            case rel => exact ⟨j + 1, by omega, by first | go_num | (congr 1; omega), hB3, R⟩
            case measure => simp [intOf] <;> omega
          · obtain rfl : j = M := by omega
            have hke : (dgs N).take j = dgs N := List.take_of_length_le (by rw [← HDL.out, HM.out]; exact Nat.le_refl _)
            rw [hke] at ho
            have hcv := ubs_conv ho (by rw [← HDL.out, HM.out]) hM0
            have hge : ¬ (0 : Int) ≤ (j : Int) - 1 - j := by omega
            clear hke
            go_wp2
            go_ret
            exact ⟨by rw [HE.out]; rfl, Below.trans hXwV (Below.mono hB hX0)⟩
      · have hd1 : ((k : Int) != 0) = true := by simp; omega
        have hq : (k : Int).tdiv 10 = ((k / 10 : Nat) : Int) := by rw [Int.tdiv_eq_ediv_of_nonneg (by omega)]; omega
        have hm : (k : Int).tmod 10 = ((k % 10 : Nat) : Int) := by rw [Int.tmod_eq_emod_of_nonneg (by omega)]; omega
        have hqw : IntKind.i64.wrap ((k : Int).tdiv 10) = ((k / 10 : Nat) : Int) := by rw [hq]; exact IntWalk.i64_in _ (by have := HN1.out; omega)
        have HST := Lib.hid (dgs_step hk0)
        have hdd : UInt8.ofNat (48 + k % 10) = digU ((k % 10 : Nat) : Int) := by unfold digU; rw [Int.toNat_natCast]
        rw [hdd] at HST
        have HDG := Lib.hid hD
        clear hdd hD
        obtain ⟨d, hd⟩ : ∃ d, k % 10 = d := ⟨_, rfl⟩
        have hd9 : d ≤ 9 := by omega
        rw [hd] at hm HST
        have hwz := dig_fact (z := (d : Int)) (by omega) (by omega)
        have hdn : ¬ (d : Int) < 0 := by omega
        have hsz := hX.size
        have hDlen : D.length ≤ 18 := by
          have h1 := HLN.out
          rw [HDG.out, List.length_append, List.length_reverse] at h1
          omega
        obtain ⟨q, hqq⟩ : ∃ q, k / 10 = q := ⟨_, rfl⟩
        have HQ := Lib.hid hqq
        rw [hqq] at hq hqw HST
        have hqk : q < k := by omega
        have HQ64 : Hid (wrap64 (q : Int) = (q : Int)) := Lib.hid (wrap_nat (Nat.le_trans (Nat.le_trans (Nat.le_of_lt hqk) hk) HN1.out))
        clear hd hqq
        go_wp2_with (at_builtin; refine wpList_append_own _ rfl _ _ 121 rfl w.heap.size 5 i0 (.int .u8 0) 1 1 Tryz.underlying121 hi hz0 hz1 hz2 rfl (by decide) _ _ _ rfl (ho.alloc _) ⟨wr.heap.size, 0, none⟩ 1 1 [.int .u8 ((digU (d : Int)).toNat : Int)] rfl rfl (fun j u hj => one_u8 j u hj) (fun u hu => by simp at hu; subst hu; rfl) (by unfold maxLen; omega) (by omega) (by simp; omega) ?_)
        intro v' w3 hown' hgrow _
        have hX3' : Ext w w3 := hX.grown (grownBy_trans (World.grownBy_alloc _ _ _) hgrow) (fun b hb => (ho.lt b hb).1)
        have R : w3.ownsRow w.heap.size 5 1 v' (D ++ [digU (d : Int)]).length (ubs (D ++ [digU (d : Int)])) := by
          rw [ubs_app, List.length_append]; exact hown'
        have HR : Hid (dgs N = dgs q ++ (D ++ [digU (d : Int)]).reverse) := by
          unfold Hid
          rw [HDG.out, HST.out]
          simp
        clear hown' hgrow ho
        go_wp2
        go_roundw
        case rel => exact ⟨q, _, by rw [HQ64.out], by omega, HR.out, hX3', R⟩
        case measure =>
          exact meas_fact q k hqk (Nat.le_trans (by omega) HN1.out)
end Go.Proofs.YthhjbmlkncdigaaGreatDoor
end
section
set_option linter.unusedSimpArgs false
set_option linter.unusedVariables false
namespace Go.Proofs.YthhjbmlkncdigaaGreatDoor
open Go Go.RowKit Go.Proofs
set_option maxHeartbeats 400000
set_option maxRecDepth 20000 in
set_option maxHeartbeats 4000000 in
theorem l05Show_c (bc : Nat) (c : ConfD) (w : World) (h : ConfP w bc c) (hd : CDig c) :
    Calls Tryz.prog 25 #[.pointer (some ⟨bc, 0, none⟩)] w fun e w' => e = .returned (.string (bsS (confT c))) ∧ Ext w w' := by
  obtain ⟨q0, q1, l1, l2, r1, r2⟩ := hd
  obtain ⟨lv0, rv0, p0, p1, p2, hl0, hr0⟩ := h
  obtain ⟨Al, cl, rfl, _, _⟩ := hl0.form
  obtain ⟨Ar, cr, rfl, _, _⟩ := hr0.form
  have hXd := Ext.drew w
  have b0 := hXd.cell p0
  have b1 := hXd.cell p1
  have b2 := hXd.cell p2
  clear p0 p1 p2
  have hrv := l03Reverse_c _ c.l w.drew (hl0.ext hXd) (by omega)
  have hsL : (bsS (digB c.l.reverse)).size ≤ 200 := by rw [bs_size]; simp [digB]; omega
  have hsR : (bsS (digB c.r)).size ≤ 200 := by rw [bs_size]; simp [digB]; omega
  have hsQ := itoaS_size (n := c.q) q0 (by omega)
  have hA := confT_app c
  have hdL : ∀ (v : Value) (w : World), Ints w v c.l.reverse → Calls Tryz.prog 50 #[v] w fun e w' => e = .returned (.string (bsS (digB c.l.reverse))) ∧ Ext w w' := fun v w h => l05Digits_c v _ w h (fun z hz => l2 z (List.mem_reverse.1 hz)) (by simp; omega)
  have hdR : ∀ (v : Value) (w : World), Ints w v c.r → Calls Tryz.prog 50 #[v] w fun e w' => e = .returned (.string (bsS (digB c.r))) ∧ Ext w w' := fun v w h => l05Digits_c v _ w h r2 (by omega)
  generalize bsS (digB c.l.reverse) = sL at *
  generalize bsS (digB c.r) = sR at *
  have HA := Lib.hid hA
  clear hA
  have n1 : ¬ 9223372036854775807 < sL.size + 1 := by omega
  have n2 : ¬ 9223372036854775807 < sL.size + 1 + (itoaS c.q).size := by omega
  have n3 : ¬ 9223372036854775807 < sL.size + 1 + (itoaS c.q).size + 1 := by omega
  have n4 : ¬ 9223372036854775807 < sL.size + 1 + (itoaS c.q).size + 1 + sR.size := by omega
  go_enter Tryz.func25, Tryz.ntmps25
  go_wp2_with fail
  refine wp_region_ordT 19 (readsT [0, 1, 2, 3, 7, 8, 9, 10, 14, 15, 16, 17] (.stir 4 (.stir 5 (readsT [6] (.stir 11 (readsT [12, 13] (.stir 18 .done))))))) (by kernel_rfl) (by kernel_rfl) (fun _ _ _ _ _ h => h) ?_
  simp only [readsT]
  iterate 12 (refine wpOrdT_read (v := ?_) (by rfl) (Or.inl ⟨by rfl, fun x hx => ?_⟩) ?_; rotate_left; (· have a1 := hx.cell b0; have a2 := hx.cell b1; have a3 := hx.cell b2; go_simp; try with_reducible rfl); try simp only [Act.put, List.setIfInBounds_toArray, List.set_cons_zero, List.set_cons_succ])
  refine wpOrdT_keep (by rfl) (fun K hK => ?_)
  go_simp
  refine hrv.mono ?_
  rintro e w2 ⟨u, rfl, ho, hx2⟩
  obtain ⟨Au, cu, rfl, _, _⟩ := ho.ints.form
  rw [List.length_reverse] at *
  refine hK _ _ hx2 ?_
  clear hK K
  refine wpOrdT_keep (by rfl) (fun K hK => ?_)
  go_simp
  refine (hdL _ w2 (by simpa using ho.ints)).mono ?_
  rintro e w3 ⟨rfl, hx3⟩
  refine hK _ _ (hx2.trans hx3) ?_
  clear hK K
  refine wpOrdT_read (v := ?_) (by rfl) (Or.inl ⟨by rfl, fun x hx => ?_⟩) ?_
  rotate_left
  · go_simp; try with_reducible rfl
  try simp only [Act.put, List.setIfInBounds_toArray, List.set_cons_zero, List.set_cons_succ]
  refine wpOrdT_keep (by rfl) (fun K hK => ?_)
  go_simp
  refine (l01Dec_c c.q w3 (by omega) (by omega)).mono ?_
  rintro e w4 ⟨rfl, hx4⟩
  refine hK _ _ ((hx2.trans hx3).trans hx4) ?_
  clear hK K
  iterate 2 (refine wpOrdT_read (v := ?_) (by rfl) (Or.inl ⟨by rfl, fun x hx => ?_⟩) ?_; rotate_left; (· go_simp; try with_reducible rfl); try simp only [Act.put, List.setIfInBounds_toArray, List.set_cons_zero, List.set_cons_succ])
  refine wpOrdT_keep (by rfl) (fun K hK => ?_)
  go_simp
  refine (hdR _ w4 (hr0.ext (hXd.trans ((hx2.trans hx3).trans hx4)))).mono ?_
  rintro e w5 ⟨rfl, hx5⟩
  refine hK _ _ (((hx2.trans hx3).trans hx4).trans hx5) ?_
  clear hK K
  refine wpOrdT_done ?_
  try simp only [List.drop_succ_cons, List.drop_zero]
  go_wp2
  go_ret
  exact ⟨by rw [← HA.out]; rfl, hXd.trans (((hx2.trans hx3).trans hx4).trans hx5)⟩
end Go.Proofs.YthhjbmlkncdigaaGreatDoor
end
section
set_option linter.unusedSimpArgs false
set_option linter.unusedVariables false
set_option linter.unusedSectionVars false
set_option maxHeartbeats 4000000
namespace Go.Proofs.YthhjbmlkncdigaaGreatDoor
open Go Go.RowKit Go.Proofs
theorem cok_of {m : MachD} {c : ConfD} (hm : machOk m = true) (h : confB m c = true) : ∃ k, COk m (cR c) k ∧ ∀ hk : k < m.rules.length, lookI m c = m.rules[k] := by
  obtain ⟨hg, hf, ht⟩ := conf_good h
  obtain ⟨⟨m1, m2, m3, m4⟩, _, _⟩ := machOk_five hm
  obtain ⟨k, hk, e⟩ := hg.idx hm
  have hh := hdD_of hg.r (by omega)
  have := hg.q0
  have := hg.q1
  exact ⟨k, ⟨hg.q0, by show c.q ≤ 1000; omega, m1, m2, hh.1, by have := hh.2; show hdD c.r ≤ 6; omega, hk, e, by show c.l.length ≤ 1000; omega, by show c.r.length ≤ 1000; omega⟩, fun _ => lookI_get hk e⟩
end Go.Proofs.YthhjbmlkncdigaaGreatDoor
end
