/- Contracts of the reference's texts of numbers, words and configurations. The numbers are from 0 to a million, the letters are digits.
Contract of the reference's text of a configuration with several tapes.
Contracts of the reference's texts of lists of digits and of moves. -/
import Derived.Test.YtkbpchdncljlbaaGreatDoorV09
import Derived.Test.YtkbpchdncljlbaaGreatDoorV11
import Derived.Test.YtkbpchdncljlbaaGreatDoorV15
import Derived.Laws.IdiomStrings
import Derived.Test.YtkbpchdncljlbaaGreatDoorV32
import Derived.Test.YtkbpchdncljlbaaGreatDoorV27
section
set_option linter.unusedSimpArgs false
set_option linter.unusedVariables false
namespace Go.Proofs.YtkbpchdncljlbaaGreatDoor
open Go Go.RowKit Go.Proofs
set_option maxHeartbeats 400000
theorem itoa_natF {n : Int} (h0 : 0 ≤ n) : Lib.itoa n = Lib.decDigits n.toNat := by
  unfold Lib.itoa
  rw [if_neg (by omega)]
/-- The digits of a number, none for 0. -/
def dgs (m : Nat) : List UInt8 := if m = 0 then [] else Lib.decDigits m
theorem dgs_step {m : Nat} (h : m ≠ 0) : dgs m = dgs (m / 10) ++ [UInt8.ofNat (48 + m % 10)] := by
  unfold dgs
  rw [if_neg h, Lib.decDigits]
  split
  · rename_i h9
    rw [if_pos (by omega), show m % 10 = m by omega]
    rfl
  · rename_i h9
    rw [if_neg (by omega)]
theorem dgs_len (m : Nat) (hm : m ≤ 1000000) : (dgs m).length ≤ 18 := by
  unfold dgs
  split
  · simp
  · exact digits_len m hm
theorem itoa_dgs {n : Int} (h0 : 0 < n) : Lib.itoa n = dgs n.toNat := by
  rw [itoa_natF (by omega)]
  unfold dgs
  rw [if_neg (by omega)]
theorem u8Info : (Tryz.prog.info? 5).map (fun i => (i.zero, i.size, i.bytes)) = some (some (.int .u8 0), 1, 1) := by kernel_rfl
/-- A list of bytes as cells. -/
def ubs (l : List UInt8) : List Value := l.map fun b => .int .u8 (b.toNat : Int)
theorem ubs_length (l : List UInt8) : (ubs l).length = l.length := by simp [ubs]
theorem ubs_app (a b : List UInt8) : ubs (a ++ b) = ubs a ++ ubs b := by simp [ubs]
theorem ubs_get (l : List UInt8) (k : Nat) (h : k < l.length) : (ubs l)[k]? = some (.int .u8 (l[k].toNat : Int)) := by simp [ubs, h]
/-- The text of a row of bytes. -/
theorem ubs_conv {w : World} {base n c : Nat} {A : Option Addr} {l : List UInt8} (ho : w.ownsRow base 5 1 (.slice A n c) n (ubs l)) (hn : l.length = n) (h0 : 0 < n) : (convert 22 9 (.slice A n c)).run Tryz.prog w = .ok (.string (bsS l)) w := by
  obtain ⟨g, rfl, _, _⟩ := own_at ho h0
  subst hn
  exact run_convert_bytes_back w _ _ 5 _ c l Tryz.underlying22 Tryz.underlying5 Tryz.underlying9 (fun j hj => by
    have : (⟨g, 0, none⟩ : Addr).add j = ⟨g, j, none⟩ := by simp [Addr.add]; intro h; exact h.symm
    rw [this, ho.cellAt j (by omega), ubs_get l j hj])
theorem dig_fact {z : Int} (h0 : 0 ≤ z) (h1 : z ≤ 9) : IntKind.u8.wrap (48 + z) = ((digU z).toNat : Int) := by
  rw [digU_nat h0 h1]
  rcases (show z = 0 ∨ z = 1 ∨ z = 2 ∨ z = 3 ∨ z = 4 ∨ z = 5 ∨ z = 6 ∨ z = 7 ∨ z = 8 ∨ z = 9 by omega) with e | e | e | e | e | e | e | e | e | e <;> rw [e] <;> rfl
theorem one_u8 {w : World} {x : Int} (k : Nat) (u : Value) (h : [Value.int .u8 x][k]? = some u) : (w.alloc (.cells #[.int .u8 x] 5)).cell? ((⟨w.heap.size, 0, none⟩ : Addr).add k) = some u := by
  match k, h with
  | 0, h => simp at h; subst h; simp [Addr.add]
theorem wrap_nat {q : Nat} (h : q ≤ 1000000) : wrap64 (q : Int) = (q : Int) := by unfold wrap64; omega
theorem meas_fact (q k : Nat) (h : q < k) (hq : q ≤ 1000000) : (intOf (Value.int IntKind.i64 (wrap64 (q : Int)))).toNat < (intOf (Value.int IntKind.i64 (k : Int))).toNat := by
  rw [wrap_nat hq]
  simp only [intOf]
  omega
set_option maxRecDepth 20000 in
set_option maxHeartbeats 4000000 in
theorem l01Dec_c (n : Int) (w : World) (n0 : 0 ≤ n) (n1 : n ≤ 1000000) :
    Calls Tryz.prog 71 #[.int .i64 n] w fun e w' => e = .returned (.string (itoaS n)) ∧ Ext w w' := by
  obtain ⟨i0, hi, hz0, hz1, hz2⟩ := info_parts u8Info
  by_cases hn0 : n = 0
  · subst hn0
    have e : itoaS 0 = ⟨#[48]⟩ := by
      unfold itoaS
      rw [itoa_natF (by omega), Lib.decDigits]
      rfl
    rw [e]
    go_enter Tryz.func71, Tryz.ntmps71
    go_wp2
    go_ret
    exact ⟨rfl, Ext.refl _⟩
  · obtain ⟨N, rfl⟩ : ∃ N : Nat, n = (N : Int) := ⟨n.toNat, by omega⟩
    have hN0 : N ≠ 0 := by omega
    have hne : ((N : Int) == 0) = false := beq_eq_false_iff_ne.2 (by omega)
    have hlt0 : ¬ (N : Int) < 0 := by omega
    have hlt0' : decide ((N : Int) < 0) = false := decide_eq_false hlt0
    have HE : Hid (itoaS (N : Int) = bsS (dgs N)) := by
      unfold Hid itoaS bsS
      rw [itoa_dgs (by omega), Int.toNat_natCast]
    have HLN := Lib.hid (dgs_len N (by omega))
    have HP : Hid (0 < (dgs N).length) := by
      unfold Hid
      rw [dgs_step hN0]
      simp
    have HN1 : Hid (N ≤ 1000000) := by unfold Hid; omega
    obtain ⟨W, hW⟩ : ∃ W, w.alloc (.cells #[] 5) = W := ⟨_, rfl⟩
    have hX : Ext w W := by rw [← hW]; exact Ext.alloc _ _
    have ho0 : W.ownsRow w.heap.size 5 1 (.slice (some ⟨w.heap.size, 0, none⟩) 0 0) 0 (ubs []) := by
      rw [← hW]
      exact World.ownsRow_made (base := w.heap.size) (e := 5) (size := 1) w #[] 0 (by simp) (by unfold maxLen; omega) (by simp [ubs])
    clear n0 n1 hn0
    go_enter Tryz.func71, Tryz.ntmps71
    go_wp2_with fail
    try rw [hW]
    clear hW
    go_loopw [3, 4, 5] (fun tv i dv wr => ∃ (k : Nat) (D : List UInt8), i = .int .i64 (k : Int) ∧ k ≤ N ∧ dgs N = dgs k ++ D.reverse ∧ Ext w wr ∧ wr.ownsRow w.heap.size 5 1 tv D.length (ubs D)) (fun _ i _ _ => (intOf i).toNat)
    case atStart => exact ⟨N, [], rfl, Nat.le_refl _, by simp, hX, ho0⟩
    case round =>
      clear ho0 hX
      obtain ⟨k, D, rfl, hk, hD, hX, ho⟩ := hrel
      obtain ⟨At, ct, rfl, hct, hct2, _⟩ := (ownsRow_row ho).form
      by_cases hk0 : k = 0
      · subst hk0
        rw [show ((0 : Nat) : Int) = 0 from rfl]
        have HD : Hid (D.reverse = dgs N) := Lib.hid (by rw [hD]; simp [dgs])
        clear hD
        have HDL : Hid (D.length = (dgs N).length) := by unfold Hid; rw [← HD.out, List.length_reverse]
        obtain ⟨M, hM⟩ : ∃ M, D.length = M := ⟨_, rfl⟩
        have HM := Lib.hid hM
        rw [hM] at ho hct ⊢
        clear hM
        have hM0 : 0 < M := by rw [← HM.out, HDL.out]; exact HP.out
        have hM1 : M ≤ 18 := by rw [← HM.out, HDL.out]; exact HLN.out
        obtain ⟨g, rfl, hg1, hg2⟩ := own_at ho hM0
        obtain ⟨V, hV⟩ : ∃ V, wr.alloc (.cells #[] 5) = V := ⟨_, rfl⟩
        have hXV : Ext wr V := by rw [← hV]; exact Ext.alloc _ _
        have ho2 : V.ownsRow wr.heap.size 5 1 (.slice (some ⟨wr.heap.size, 0, none⟩) 0 0) 0 (ubs ((dgs N).take 0)) := by
          rw [← hV]
          exact World.ownsRow_made (base := wr.heap.size) (e := 5) (size := 1) wr #[] 0 (by simp) (by unfold maxLen; omega) (by simp [ubs])
        obtain ⟨h0, hh0⟩ : ∃ h0, wr.heap.size = h0 := ⟨_, rfl⟩
        have hX0 : w.heap.size ≤ h0 := by rw [← hh0]; exact hX.size
        rw [hh0] at ho2 hg2
        go_wp2_with fail
        try rw [hh0]
        try rw [hV]
        have hXwV := hX.trans hXV
        have hoV := ownsRow_ext ho hXV
        have hVs : h0 ≤ V.heap.size := by rw [← hh0]; exact hXV.size
        clear hV hXV ho hX hh0
        go_loopw [6, 7] (fun tv i wr => ∃ j : Nat, j ≤ M ∧ i = .int .i64 ((M : Int) - 1 - j) ∧ Below h0 V wr ∧ wr.ownsRow h0 5 1 tv j (ubs ((dgs N).take j))) (fun _ i _ => (intOf i + 1).toNat)
        case atStart => exact ⟨0, Nat.zero_le _, by simp, Below.refl _ _, ho2⟩
        case round =>
          clear ho2
          obtain ⟨j, hj, rfl, hB, ho⟩ := hrel
          obtain ⟨Aj, cj, rfl, hcj, hcj2, _⟩ := (ownsRow_row ho).form
          by_cases hlt : j < M
          · have hge : (0 : Int) ≤ (M : Int) - 1 - j := by omega
            have hix : (M : Int) - 1 - (j : Int) = ((M - 1 - j : Nat) : Int) := by omega
            have hdl : j < (dgs N).length := by rw [← HDL.out, HM.out]; exact hlt
            have hDl : M - 1 - j < D.length := by rw [HM.out]; omega
            have hval : D[M - 1 - j] = (dgs N)[j] := by
              have e1 : (dgs N)[j] = D.reverse[j]'(by rw [HD.out]; exact hdl) := by simp only [HD.out]
              rw [e1, List.getElem_reverse]
              simp only [HM.out]
            have hcl : wr.cell? ⟨g, M - 1 - j, none⟩ = some (.int .u8 (((dgs N)[j]).toNat : Int)) := by
              have : wr.heap[g]? = V.heap[g]? := Below.block hB _ hg2
              have e := hoV.cellAt (M - 1 - j) (by omega)
              rw [ubs_get _ _ hDl, hval] at e
              rw [← e]
              unfold World.cell?
              rw [this]
            have hnx : Hid (ubs ((dgs N).take (j + 1)) = ubs ((dgs N).take j) ++ [.int .u8 (((dgs N)[j]).toNat : Int)]) := Lib.hid (by rw [List.take_succ_eq_append_getElem hdl, ubs_app]; rfl)
            generalize (dgs N)[j] = z at *
            rw [hix]
            go_wp2_with (at_builtin; refine wpList_append_own _ rfl _ _ 22 rfl h0 5 i0 (.int .u8 0) 1 1 Tryz.underlying22 hi hz0 hz1 hz2 rfl (by decide) _ _ _ rfl (ho.alloc _) ⟨wr.heap.size, 0, none⟩ 1 1 [.int .u8 (z.toNat : Int)] rfl rfl ?c1 ?c2 ?c3 ?c4 ?c5 ?_)
            case c1 => intro j u hj; exact one_u8 j u hj
            case c2 => intro u hu; simp at hu; subst hu; rfl
            case c3 => unfold maxLen; omega
            case c4 => omega
            case c5 => simp; have := Below.size hB; omega
            intro v' w3 hown' hgrow _
            have hB3 : Below h0 V w3 := hB.grown (grownBy_trans (World.grownBy_alloc _ _ _) hgrow) (by have := Below.size hB; omega) (fun b hb => (ho.lt b hb).1)
            have R : w3.ownsRow h0 5 1 v' (j + 1) (ubs ((dgs N).take (j + 1))) := by rw [hnx.out]; exact hown'
            clear hown' hgrow ho
            go_wp2
            go_roundw
            case rel => exact ⟨j + 1, by omega, by first | go_num | (congr 1; omega), hB3, R⟩
            case measure => simp [intOf] <;> omega
          · obtain rfl : j = M := by omega
            have hke : (dgs N).take j = dgs N := List.take_of_length_le (by rw [← HDL.out, HM.out]; exact Nat.le_refl _)
            rw [hke] at ho
            have hcv := ubs_conv ho (by rw [← HDL.out, HM.out]) hM0
            have hge : ¬ (0 : Int) ≤ (j : Int) - 1 - j := by omega
            clear hke
            go_wp2
            go_ret
            exact ⟨by rw [HE.out]; rfl, Below.trans hXwV (Below.mono hB hX0)⟩
      · have hd1 : ((k : Int) != 0) = true := by simp; omega
        have hq : (k : Int).tdiv 10 = ((k / 10 : Nat) : Int) := by rw [Int.tdiv_eq_ediv_of_nonneg (by omega)]; omega
        have hm : (k : Int).tmod 10 = ((k % 10 : Nat) : Int) := by rw [Int.tmod_eq_emod_of_nonneg (by omega)]; omega
        have hqw : IntKind.i64.wrap ((k : Int).tdiv 10) = ((k / 10 : Nat) : Int) := by rw [hq]; exact IntWalk.i64_in _ (by have := HN1.out; omega)
        have HST := Lib.hid (dgs_step hk0)
        have hdd : UInt8.ofNat (48 + k % 10) = digU ((k % 10 : Nat) : Int) := by unfold digU; rw [Int.toNat_natCast]
        rw [hdd] at HST
        have HDG := Lib.hid hD
        clear hdd hD
        obtain ⟨d, hd⟩ : ∃ d, k % 10 = d := ⟨_, rfl⟩
        have hd9 : d ≤ 9 := by omega
        rw [hd] at hm HST
        have hwz := dig_fact (z := (d : Int)) (by omega) (by omega)
        have hdn : ¬ (d : Int) < 0 := by omega
        have hsz := hX.size
        have hDlen : D.length ≤ 18 := by
          have h1 := HLN.out
          rw [HDG.out, List.length_append, List.length_reverse] at h1
          omega
        obtain ⟨q, hqq⟩ : ∃ q, k / 10 = q := ⟨_, rfl⟩
        have HQ := Lib.hid hqq
        rw [hqq] at hq hqw HST
        have hqk : q < k := by omega
        have HQ64 : Hid (wrap64 (q : Int) = (q : Int)) := Lib.hid (wrap_nat (Nat.le_trans (Nat.le_trans (Nat.le_of_lt hqk) hk) HN1.out))
        clear hd hqq
        go_wp2_with (at_builtin; refine wpList_append_own _ rfl _ _ 22 rfl w.heap.size 5 i0 (.int .u8 0) 1 1 Tryz.underlying22 hi hz0 hz1 hz2 rfl (by decide) _ _ _ rfl (ho.alloc _) ⟨wr.heap.size, 0, none⟩ 1 1 [.int .u8 ((digU (d : Int)).toNat : Int)] rfl rfl (fun j u hj => one_u8 j u hj) (fun u hu => by simp at hu; subst hu; rfl) (by unfold maxLen; omega) (by omega) (by simp; omega) ?_)
        intro v' w3 hown' hgrow _
        have hX3' : Ext w w3 := hX.grown (grownBy_trans (World.grownBy_alloc _ _ _) hgrow) (fun b hb => (ho.lt b hb).1)
        have R : w3.ownsRow w.heap.size 5 1 v' (D ++ [digU (d : Int)]).length (ubs (D ++ [digU (d : Int)])) := by
          rw [ubs_app, List.length_append]; exact hown'
        have HR : Hid (dgs N = dgs q ++ (D ++ [digU (d : Int)]).reverse) := by
          unfold Hid
          rw [HDG.out, HST.out]
          simp
        clear hown' hgrow ho
        go_wp2
        go_roundw
        case rel => exact ⟨q, _, by rw [HQ64.out], by omega, HR.out, hX3', R⟩
        case measure =>
          exact meas_fact q k hqk (Nat.le_trans (by omega) HN1.out)
end Go.Proofs.YtkbpchdncljlbaaGreatDoor
end
section
set_option linter.unusedSimpArgs false
set_option linter.unusedVariables false
namespace Go.Proofs.YtkbpchdncljlbaaGreatDoor
open Go Go.RowKit Go.Proofs
set_option maxHeartbeats 400000
theorem bsS_app (a b : List UInt8) : bsS a ++ bsS b = bsS (a ++ b) := by
  apply ByteArray.ext
  simp [ByteArray.data_append]
theorem bsS_of {s : ByteArray} {l : List UInt8} (h : s.data.toList = l) : s = bsS l := by
  apply ByteArray.ext
  show s.data = l.toArray
  rw [← h]
end Go.Proofs.YtkbpchdncljlbaaGreatDoor
end
section
set_option linter.unusedSimpArgs false
set_option linter.unusedVariables false
namespace Go.Proofs.YtkbpchdncljlbaaGreatDoor
open Go Go.RowKit Go.Proofs
set_option maxHeartbeats 400000
theorem itoaS_digit {z : Int} (h0 : 0 ≤ z) (h9 : z ≤ 9) : itoaS z = bsS [digU z] := by
  by_cases e : z = 0
  · subst e
    unfold itoaS
    rw [itoa_natF (by omega), Lib.decDigits]
    rfl
  · have hz : z.toNat ≠ 0 := by omega
    unfold itoaS bsS
    rw [itoa_dgs (by omega), dgs_step hz]
    have h1 : z.toNat / 10 = 0 := by omega
    have h2 : z.toNat % 10 = z.toNat := by omega
    rw [h1, h2]
    have hd : dgs 0 = [] := by unfold dgs; rfl
    rw [hd]
    rfl
/-- The letter of a move. -/
def mvU (z : Int) : UInt8 := if z = -1 then 76 else if z = 0 then 83 else 82
def mvB (zs : List Int) : List UInt8 := zs.map mvU
set_option maxRecDepth 20000 in
set_option maxHeartbeats 4000000 in
theorem l06Digits_c (v : Value) (zs : List Int) (w : World) (h : Ints w v zs) (hz : ∀ z ∈ zs, 0 ≤ z ∧ z ≤ 9) (hl : zs.length ≤ 1000) :
    Calls Tryz.prog 72 #[v] w fun e w' => e = .returned (.string (bsS (digB zs))) ∧ Ext w w' := by
  obtain ⟨A, c, rfl, _, _⟩ := id h.form
  go_enter Tryz.func72, Tryz.ntmps72
  go_wp2_with fail
  go_loopw [3, 4] (fun s i wr => ∃ k : Nat, k ≤ zs.length ∧ s = .string (bsS (digB (zs.take k))) ∧ i = .int .i64 (k : Int) ∧ Ext w wr) (fun _ i _ => zs.length - (intOf i).toNat)
  case atStart => exact ⟨0, Nat.zero_le _, rfl, rfl, Ext.refl _⟩
  case round =>
    obtain ⟨k, hk, rfl, rfl, hE⟩ := hrel
    by_cases hlt : k < zs.length
    · obtain ⟨b, off, rfl, hc⟩ := (h.ext hE).at hlt
      have c0 := hc k hlt
      have hzk := hz _ (List.getElem_mem hlt)
      have hs : (bsS (digB (zs.take k))).size ≤ 1000 := by rw [bs_size]; simp [digB]; omega
      have hnx : Hid (bsS (digB (zs.take k)) ++ itoaS zs[k] = bsS (digB (zs.take (k + 1)))) := Lib.hid (by
        rw [itoaS_digit hzk.1 hzk.2, bsS_app]
        congr 1
        unfold digB
        rw [List.take_succ_eq_append_getElem hlt, List.map_append]
        rfl)
      have hs2 : (itoaS zs[k]).size = 1 := by rw [itoaS_digit hzk.1 hzk.2, bs_size]; rfl
      have LD := l01Dec_c zs[k] wr hzk.1 (by omega)
      obtain ⟨z, hzz⟩ : ∃ z, zs[k] = z := ⟨_, rfl⟩
      rw [hzz] at c0 hnx LD hs2
      generalize itoaS z = sz at *
      generalize bsS (digB (zs.take k)) = sk at *
      have m1 : ¬ 9223372036854775807 < sk.size + sz.size := by omega
      clear hzz hc
      go_wp2_with fail
      refine LD.mono ?_
      rintro e w1 ⟨rfl, hx1⟩
      have hE1 := hE.trans hx1
      clear LD c0
      go_wp2_with fail
      go_roundw
      case rel => exact ⟨k + 1, by omega, by rw [hnx.out], by go_num, hE1⟩
      case measure => simp [intOf]; omega
    · obtain rfl : k = zs.length := by omega
      rw [List.take_length]
      go_wp2_with fail
      go_ret
      exact ⟨rfl, hE⟩
set_option maxRecDepth 20000 in
set_option maxHeartbeats 4000000 in
theorem l06Moves_c (v : Value) (zs : List Int) (w : World) (h : Ints w v zs) (hz : ∀ z ∈ zs, -1 ≤ z ∧ z ≤ 1) (hl : zs.length ≤ 1000) :
    Calls Tryz.prog 73 #[v] w fun e w' => e = .returned (.string (bsS (mvB zs))) ∧ Ext w w' := by
  obtain ⟨A, c, rfl, _, _⟩ := id h.form
  go_enter Tryz.func73, Tryz.ntmps73
  go_wp2_with fail
  go_loopw [3, 4] (fun s i wr => ∃ k : Nat, k ≤ zs.length ∧ s = .string (bsS (mvB (zs.take k))) ∧ i = .int .i64 (k : Int) ∧ Ext w wr) (fun _ i _ => zs.length - (intOf i).toNat)
  case atStart => exact ⟨0, Nat.zero_le _, rfl, rfl, Ext.refl _⟩
  case round =>
    obtain ⟨k, hk, rfl, rfl, hE⟩ := hrel
    by_cases hlt : k < zs.length
    · obtain ⟨b, off, rfl, hc⟩ := (h.ext hE).at hlt
      have c0 := hc k hlt
      have hzk := hz _ (List.getElem_mem hlt)
      have hs : (bsS (mvB (zs.take k))).size ≤ 1000 := by rw [bs_size]; simp [mvB]; omega
      have hnx : Hid (bsS (mvB (zs.take k)) ++ bsS [mvU zs[k]] = bsS (mvB (zs.take (k + 1)))) := Lib.hid (by
        rw [bsS_app]
        congr 1
        unfold mvB
        rw [List.take_succ_eq_append_getElem hlt, List.map_append]
        rfl)
      obtain ⟨z, hzz⟩ : ∃ z, zs[k] = z := ⟨_, rfl⟩
      rw [hzz] at c0 hnx hzk
      generalize bsS (mvB (zs.take k)) = sk at *
      have m1 : ¬ 9223372036854775807 < sk.size + 1 := by omega
      clear hzz hc
      have hz3 : z = -1 ∨ z = 0 ∨ z = 1 := by omega
      rcases hz3 with rfl | rfl | rfl
      all_goals
        go_wp2_with fail
        go_roundw
        case rel => exact ⟨k + 1, by omega, by rw [← hnx.out]; rfl, by go_num, hE⟩
        case measure => simp [intOf]; omega
    · obtain rfl : k = zs.length := by omega
      rw [List.take_length]
      go_wp2_with fail
      go_ret
      exact ⟨rfl, hE⟩
end Go.Proofs.YtkbpchdncljlbaaGreatDoor
end
