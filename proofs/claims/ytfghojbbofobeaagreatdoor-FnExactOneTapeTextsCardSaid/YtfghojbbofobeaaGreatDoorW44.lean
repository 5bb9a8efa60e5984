/- Contracts of the laws' comparison of machines with several tapes.
Contracts of the laws' sizes and copies of lists of numbers. Lists are short.
Contracts of the laws' sizes of machines with several tapes. -/
import Derived.Test.YtfghojbbofobeaaGreatDoorW09
import Derived.Test.YtfghojbbofobeaaGreatDoorW02
import Derived.Test.YtfghojbbofobeaaGreatDoorW03
section
set_option linter.unusedVariables false
set_option linter.unusedSimpArgs false
namespace Go.Proofs.YtfghojbbofobeaaGreatDoor
open Go Go.RowKit Go.Proofs
set_option maxHeartbeats 400000
/-- A machine with several tapes is compared with itself. -/
theorem eqMultiRule_c (u v : Value) (r : MRuleD) (w : World) (ha : MRul w u r) (hb : MRul w v r) :
    Calls Tryz.prog 80 #[u, v] w fun e w' => e = .returned (.bool true) ∧ Ext w w' := by
  obtain ⟨vr, vw, vm, rfl, i1, i2, i3⟩ := ha
  obtain ⟨ur, uw, um, rfl, j1, j2, j3⟩ := hb
  obtain ⟨g, hg⟩ : ∃ g, w.heap.size = g := ⟨_, rfl⟩
  obtain ⟨W, hW⟩ : ∃ W, W = (w.alloc (.cells #[.int .i64 r.st, vr, vw, vm, .int .i64 r.nx] 101)).alloc (.cells #[.int .i64 r.st, ur, uw, um, .int .i64 r.nx] 101) := ⟨_, rfl⟩
  have hX : Ext w W := by rw [hW]; exact (Ext.alloc _ _).trans (Ext.alloc _ _)
  have bA : Blk W g 101 #[.int .i64 r.st, vr, vw, vm, .int .i64 r.nx] := by rw [hW]; exact (Blk.new _ _ _ _ hg).alloc _
  have bB : Blk W (g + 1) 101 #[.int .i64 r.st, ur, uw, um, .int .i64 r.nx] := by rw [hW]; exact Blk.new _ _ _ _ (by simp [hg])
  have Q1 := fun w1 (h : Ext W w1) => eqInt64S_c w1 _ _ _ _ ((i1.ext hX).ext h) ((j1.ext hX).ext h)
  have Q2 := fun w1 (h : Ext W w1) => eqInt64S_c w1 _ _ _ _ ((i2.ext hX).ext h) ((j2.ext hX).ext h)
  have Q3 := fun w1 (h : Ext W w1) => eqInt64S_c w1 _ _ _ _ ((i3.ext hX).ext h) ((j3.ext hX).ext h)
  have L1 : lEq r.rd r.rd = true := lEq_true rfl
  have L2 : lEq r.wr r.wr = true := lEq_true rfl
  have L3 : lEq r.mv r.mv = true := lEq_true rfl
  rw [L1] at Q1
  rw [L2] at Q2
  rw [L3] at Q3
  have hst : (r.st != r.st) = false := by simp
  have hnx : (r.nx != r.nx) = false := by simp
  have CA := fun w1 (h : Ext W w1) => (bA.ext h).cell
  have CB := fun w1 (h : Ext W w1) => (bB.ext h).cell
  have a0 := CA W (Ext.refl _) 0
  have a1 := CA W (Ext.refl _) 1
  have b0 := CB W (Ext.refl _) 0
  have b1 := CB W (Ext.refl _) 1
  simp only [List.getElem?_toArray, List.getElem?_cons_zero, List.getElem?_cons_succ] at a0 a1 b0 b1
  have HX := Lib.hid hX
  clear hX bA bB i1 i2 i3 j1 j2 j3 L1 L2 L3
  go_enter Tryz.func80, Tryz.ntmps80
  go_wp2_with fail
  try rw [← hW]
  try rw [hg]
  clear hW
  refine (Q1 W (Ext.refl _)).mono ?_
  rintro e w1 ⟨rfl, hx1⟩
  have a2 := CA w1 hx1 2
  have b2 := CB w1 hx1 2
  simp only [List.getElem?_toArray, List.getElem?_cons_zero, List.getElem?_cons_succ] at a2 b2
  clear a0 a1 b0 b1
  go_wp2_with fail
  refine (Q2 w1 hx1).mono ?_
  rintro e w2 ⟨rfl, hx2⟩
  have hx12 := hx1.trans hx2
  have a3 := CA w2 hx12 3
  have b3 := CB w2 hx12 3
  simp only [List.getElem?_toArray, List.getElem?_cons_zero, List.getElem?_cons_succ] at a3 b3
  clear a2 b2
  go_wp2_with fail
  refine (Q3 w2 hx12).mono ?_
  rintro e w3 ⟨rfl, hx3⟩
  have hx13 := hx12.trans hx3
  have a4 := CA w3 hx13 4
  have b4 := CB w3 hx13 4
  simp only [List.getElem?_toArray, List.getElem?_cons_zero, List.getElem?_cons_succ] at a4 b4
  clear a3 b3
  go_wp2
  go_ret
  exact ⟨rfl, HX.out.trans hx13⟩
theorem eqMultiRuleS_c (u v : Value) (rs : List MRuleD) (w : World) (ha : MRules w u rs) (hb : MRules w v rs) :
    Calls Tryz.prog 39 #[u, v] w fun e w' => e = .returned (.bool true) ∧ Ext w w' := by
  obtain ⟨A, ca, rfl, h1, h1'⟩ := ha.form
  obtain ⟨B, cb, rfl, h2, h2'⟩ := hb.form
  have hl1 : ((rs.length : Int) != (rs.length : Int)) = false := by simp
  go_enter Tryz.func39, Tryz.ntmps39
  go_wp2
  go_loopw [5] (fun i wr => ∃ k : Nat, k ≤ rs.length ∧ i = .int .i64 k ∧ Ext w wr) (fun i _ => rs.length - (intOf i).toNat)
  case atStart => exact ⟨0, Nat.zero_le _, rfl, Ext.refl _⟩
  case round =>
    obtain ⟨k, hk, rfl, hx⟩ := hrel
    by_cases hlt : k < rs.length
    · obtain ⟨b, off, vr, vw, vm, rfl, c0, c1, c2, c3, c4, i1, i2, i3⟩ := ha.at hlt
      obtain ⟨b', off', ur, uw, um, rfl, d0, d1, d2, d3, d4, j1, j2, j3⟩ := hb.at hlt
      have c0 := cellR (hx.cell c0)
      have c1 := cellR (hx.cell c1)
      have c2 := cellR (hx.cell c2)
      have c3 := cellR (hx.cell c3)
      have c4 := cellR (hx.cell c4)
      have d0 := cellR (hx.cell d0)
      have d1 := cellR (hx.cell d1)
      have d2 := cellR (hx.cell d2)
      have d3 := cellR (hx.cell d3)
      have d4 := cellR (hx.cell d4)
      have EQ := fun d os => eqMultiRule_c (.agg #[.int .i64 rs[k].st, vr, vw, vm, .int .i64 rs[k].nx]) (.agg #[.int .i64 rs[k].st, ur, uw, um, .int .i64 rs[k].nx]) rs[k] (Sort.grow (redrawn wr d) os) ⟨vr, vw, vm, rfl, (i1.ext hx).ext (below_regrown _ _ _), (i2.ext hx).ext (below_regrown _ _ _), (i3.ext hx).ext (below_regrown _ _ _)⟩ ⟨ur, uw, um, rfl, (j1.ext hx).ext (below_regrown _ _ _), (j2.ext hx).ext (below_regrown _ _ _), (j3.ext hx).ext (below_regrown _ _ _)⟩
      clear ha hb i1 i2 i3 j1 j2 j3
      generalize rs[k] = y at *
      go_wp2
      refine wp_region_ext (by kernel_rfl) (by kernel_rfl) ?_
      repeat (go_big_quiet_step ((go_at_call 80; with_reducible exact Calls.extR (EQ _ _))))
      refine wpQuiet_nil ?_
      intro w2 hx2
      go_wp2
      go_roundw
      case rel => exact ⟨k + 1, by omega, by go_num, hx.trans hx2⟩
      case measure => simp [intOf]; omega
    · go_wp2
      go_ret
      exact ⟨rfl, hx⟩
theorem eqMulti_c (u v : Value) (m : MultiD) (w : World) (ha : Mult w u m) (hb : Mult w v m) :
    Calls Tryz.prog 11 #[u, v] w fun e w' => e = .returned (.bool true) ∧ Ext w w' := by
  obtain ⟨ra, rfl, ha⟩ := ha
  obtain ⟨rb, rfl, hb⟩ := hb
  have hx0 := (Ext.alloc w (.cells #[.int .i64 m.tp, .int .i64 m.sy, .int .i64 m.st, ra] 33)).trans (Ext.alloc _ (.cells #[.int .i64 m.tp, .int .i64 m.sy, .int .i64 m.st, rb] 33))
  have ES := eqMultiRuleS_c _ _ _ _ (ha.ext hx0) (hb.ext hx0)
  have h1 : (m.tp != m.tp) = false := by simp
  have h2 : (m.sy != m.sy) = false := by simp
  have h3 : (m.st != m.st) = false := by simp
  go_enter Tryz.func11, Tryz.ntmps11
  go_wp2_with fail
  refine ES.mono ?_
  rintro e w1 ⟨rfl, hx1⟩
  go_wp2
  go_ret
  exact ⟨rfl, hx0.trans hx1⟩
end Go.Proofs.YtfghojbbofobeaaGreatDoor
end
section
namespace Go.Proofs.YtfghojbbofobeaaGreatDoor
open Go Go.RowKit Go.Proofs
set_option maxHeartbeats 400000
/-- What is left of a size. -/
def szF (left : Int) (n : Nat) : Int := if left < n then -1 else left - n
theorem szF_no {left : Int} {n : Nat} (h : left < n) : szF left n = -1 := if_pos h
theorem szF_yes {left : Int} {n : Nat} (h : ¬ left < n) : szF left n = left - n := if_neg h
theorem szInt64S_c (v : Value) (zs : List Int) (left : Int) (w : World) (h : Ints w v zs) (h0 : 0 ≤ left) (h1 : left ≤ 1048576) :
    Calls Tryz.prog 18 #[v, .int .i64 left] w fun e w' => e = .returned (.int .i64 (szF left zs.length)) ∧ w = w' := by
  obtain ⟨A, c, rfl, h2, h3⟩ := h.form
  by_cases hl : left < zs.length
  · rw [szF_no hl]
    go_enter Tryz.func18, Tryz.ntmps18
    go_wp2
    go_ret
    exact ⟨by simp, rfl⟩
  · rw [szF_yes hl]
    go_enter Tryz.func18, Tryz.ntmps18
    go_wp2
    go_ret
    exact ⟨by simp, rfl⟩
theorem szInt64SS_c (v : Value) (xss : List (List Int)) (left : Int) (w : World) (h : IntRows w v xss) (h0 : 0 ≤ left) (h1 : left ≤ 1048576) :
    Calls Tryz.prog 5 #[v, .int .i64 left] w fun e w' => e = .returned (.int .i64 (szF left (xss.length + tot xss))) ∧ w = w' := by
  obtain ⟨A, c, rfl, h2, h3⟩ := h.form
  by_cases hl : left < xss.length
  · rw [szF_no (by omega)]
    go_enter Tryz.func5, Tryz.ntmps5
    go_wp2
    go_ret
    exact ⟨by simp, rfl⟩
  · go_enter Tryz.func5, Tryz.ntmps5
    go_wp2
    go_loop [1, 5] (fun l i => ∃ k : Nat, k ≤ xss.length ∧ i = .int .i64 k ∧ l = .int .i64 (left - xss.length - tot (xss.take k)) ∧ 0 ≤ left - xss.length - tot (xss.take k)) (fun _ i => xss.length - (intOf i).toNat)
    case atStart => exact ⟨0, Nat.zero_le _, rfl, by simp [tot], by simp [tot]; omega⟩
    case round =>
      obtain ⟨k, hk, rfl, rfl, hp⟩ := hrel
      by_cases hlt : k < xss.length
      · obtain ⟨b', off, rfl, hc⟩ := h.at hlt
        obtain ⟨A1, d1, c0, r0⟩ := hc k hlt
        have HT := Lib.hid (tot_take_succ xss k hlt)
        have hle := tot_take_le xss (k + 1)
        rw [HT.out] at hle
        clear hc h
        generalize xss[k] = y at *
        generalize tot (xss.take k) = t at *
        by_cases hl2 : left - xss.length - t < y.length
        · go_wp2_with fail
          refine (szInt64S_c _ y _ _ r0 hp (by omega)).mono ?_
          rintro e w' ⟨rfl, rfl⟩
          rw [szF_no (by omega)]
          go_wp2
          go_ret
          exact ⟨by rw [szF_no (by omega)]; simp, rfl⟩
        · go_wp2_with fail
          refine (szInt64S_c _ y _ _ r0 hp (by omega)).mono ?_
          rintro e w' ⟨rfl, rfl⟩
          rw [szF_yes (by omega)]
          go_wp2
          go_round
          case rel => exact ⟨k + 1, by omega, by go_num, by rw [HT.out]; congr 1; omega, by rw [HT.out]; omega⟩
          case measure => simp [intOf]; omega
      · have HK := Lib.hid (show xss.take k = xss from List.take_of_length_le (by omega))
        rw [HK.out] at hp ⊢
        go_wp2
        go_ret
        exact ⟨by rw [szF_yes (by omega)]; simp; omega, rfl⟩
theorem filled1_step {zs : List Int} {k : Nat} {xs : List Value} (h : xs.take k = ivs (zs.take k)) (hk : k < zs.length) (hx : xs.length = zs.length) : (xs.set k (.int .i64 zs[k])).take (k + 1) = ivs (zs.take (k + 1)) := by
  rw [take_set_snoc xs k _ (by omega), h, List.take_succ_eq_append_getElem hk, ivs_append]
  rfl
theorem filled1_end {zs : List Int} {k : Nat} {xs : List Value} (h : xs.take k = ivs (zs.take k)) (hk : zs.length ≤ k) (hx : xs.length = zs.length) : xs = ivs zs := by
  rwa [List.take_of_length_le (by omega), List.take_of_length_le hk] at h
def Filled1 (zs : List Int) (k : Nat) (xs : List Value) : Prop := xs.take k = ivs (zs.take k)
theorem toInt64S_c (v : Value) (zs : List Int) (w : World) (h : Ints w v zs) (hn : zs.length ≤ 1048576) :
    Calls Tryz.prog 29 #[v] w fun e w' => ∃ u, e = .returned u ∧ OwnInts w.heap.size w' u zs ∧ Ext w w' := by
  obtain ⟨A, c, rfl, h2, h3⟩ := h.form
  obtain ⟨i0, hi, hz0, hz1, hz2⟩ := info_parts intInfo
  go_enter Tryz.func29, Tryz.ntmps29
  go_wp2_with (at_make; refine wpList_make_full _ rfl _ _ 44 rfl w.heap.size 2 i0 _ 1 Tryz.underlying44 hi hz0 hz1 .i64 .i64 _ _ zs.length rfl rfl rfl rfl ?c1 ?c2 ?c3 ?_)
  case c1 => rw [hz2]; omega
  case c2 => unfold maxLen; omega
  case c3 => exact Nat.le_refl _
  intro w1 hown hgr
  have hx1 : Ext w w1 := (Ext.refl _).grown hgr (by simp)
  obtain ⟨cs, hown⟩ : ∃ cs, w1.ownsRow w.heap.size 2 1 (.slice (some ⟨w.heap.size, 0, none⟩) zs.length zs.length) zs.length cs := ⟨_, hown⟩
  clear hgr hi hz0 hz1 hz2
  have hsz : w.heap.size < w1.heap.size := (hown.lt _ rfl).2
  generalize hg : w.heap.size = g at *
  have HG := Lib.hid hg
  clear hg
  go_wp2
  go_loopw [4] (fun i wr => ∃ k : Nat, k ≤ zs.length ∧ i = .int .i64 k ∧ Ext w wr ∧ ∃ xs, wr.ownsRow g 2 1 (.slice (some ⟨g, 0, none⟩) zs.length zs.length) zs.length xs ∧ Filled1 zs k xs) (fun i _ => zs.length - (intOf i).toNat)
  case atStart => exact ⟨0, Nat.zero_le _, rfl, hx1, cs, hown, by simp [Filled1, ivs]⟩
  case round =>
    obtain ⟨k, hk, rfl, hx, xs, ho, hf⟩ := hrel
    by_cases hlt : k < zs.length
    · obtain ⟨b, off, rfl, hc⟩ := h.at hlt
      have d0 := hx.cell (hc k hlt)
      have hl := ho.1
      have q0 := ho.cellAt k (by omega)
      rw [List.getElem?_eq_getElem (by omega)] at q0
      have f0 := ho.frozenAt k
      have hb : w.heap.size ≤ g := Nat.le_of_eq HG.out
      clear hc
      go_wp2
      try (go_quiet (fail); go_wp2)
      go_roundw
      case rel => exact ⟨k + 1, by omega, by go_num, hx.setCell hb _, _, (ho.stored k _).1, filled1_step hf hlt (by omega)⟩
      case measure => simp [intOf]; omega
    · go_wp2
      go_ret
      refine ⟨_, rfl, ?_, hx⟩
      have hl := ho.1
      rw [HG.out, OwnInts, ← filled1_end hf (by omega) (by omega)]
      exact ho
end Go.Proofs.YtfghojbbofobeaaGreatDoor
end
section
set_option linter.unusedVariables false
set_option linter.unusedSimpArgs false
namespace Go.Proofs.YtfghojbbofobeaaGreatDoor
open Go Go.RowKit Go.Proofs
set_option maxHeartbeats 400000
/-- The numbers in a rule's lists. -/
def szR (r : MRuleD) : Nat := r.rd.length + r.wr.length + r.mv.length
def totM : List MRuleD → Nat
  | [] => 0
  | r :: rs => szR r + totM rs
theorem totM_append (a b : List MRuleD) : totM (a ++ b) = totM a + totM b := by
  induction a with
  | nil => simp [totM]
  | cons r rs ih => simp only [List.cons_append, totM, ih]; omega
theorem totM_take_succ (rs : List MRuleD) (k : Nat) (h : k < rs.length) : totM (rs.take (k + 1)) = totM (rs.take k) + szR rs[k] := by
  rw [List.take_succ_eq_append_getElem h, totM_append]
  simp [totM]
theorem totM_take_le (rs : List MRuleD) (k : Nat) : totM (rs.take k) ≤ totM rs := by
  have := totM_append (rs.take k) (rs.drop k)
  rw [List.take_append_drop] at this
  omega
theorem szMultiRule_c (v : Value) (r : MRuleD) (left : Int) (w : World) (h : MRul w v r) (h0 : 0 ≤ left) (h1 : left ≤ 1048576) :
    Calls Tryz.prog 44 #[v, .int .i64 left] w fun e w' => e = .returned (.int .i64 (szF left (szR r))) ∧ Ext w w' := by
  obtain ⟨vr, vw, vm, rfl, i1, i2, i3⟩ := h
  obtain ⟨g, hg⟩ : ∃ g, w.heap.size = g := ⟨_, rfl⟩
  obtain ⟨W, hW⟩ : ∃ W, W = w.alloc (.cells #[.int .i64 r.st, vr, vw, vm, .int .i64 r.nx] 98) := ⟨_, rfl⟩
  have hX : Ext w W := by rw [hW]; exact Ext.alloc _ _
  have bM : Blk W g 98 #[.int .i64 r.st, vr, vw, vm, .int .i64 r.nx] := by rw [hW]; exact Blk.new _ _ _ _ hg
  have c1 := bM.cell 1
  have c2 := bM.cell 2
  have c3 := bM.cell 3
  simp only [List.getElem?_toArray, List.getElem?_cons_zero, List.getElem?_cons_succ] at c1 c2 c3
  have S1 := szInt64S_c _ r.rd left W (i1.ext hX) h0 h1
  have S2 := fun l (a : 0 ≤ l) (b : l ≤ 1048576) => szInt64S_c _ r.wr l W (i2.ext hX) a b
  have S3 := fun l (a : 0 ≤ l) (b : l ≤ 1048576) => szInt64S_c _ r.mv l W (i3.ext hX) a b
  have HX := Lib.hid hX
  obtain ⟨n1, e1⟩ : ∃ n, r.rd.length = n := ⟨_, rfl⟩
  obtain ⟨n2, e2⟩ : ∃ n, r.wr.length = n := ⟨_, rfl⟩
  obtain ⟨n3, e3⟩ : ∃ n, r.mv.length = n := ⟨_, rfl⟩
  have hsz : szR r = n1 + n2 + n3 := by unfold szR; rw [e1, e2, e3]
  rw [hsz]
  rw [e1] at S1
  rw [e2] at S2
  rw [e3] at S3
  clear hsz e1 e2 e3 hX bM i1 i2 i3
  go_enter Tryz.func44, Tryz.ntmps44
  go_wp2_with fail
  try rw [← hW]
  try rw [hg]
  clear hW
  refine S1.mono ?_
  rintro e w' ⟨rfl, rfl⟩
  by_cases l1 : left < n1
  · rw [szF_no l1]
    go_wp2
    go_ret
    exact ⟨by rw [szF_no (by omega)]; simp, HX.out⟩
  · rw [szF_yes l1]
    go_wp2_with fail
    refine (S2 _ (by omega) (by omega)).mono ?_
    rintro e w' ⟨rfl, rfl⟩
    by_cases l2 : left - n1 < n2
    · rw [szF_no l2]
      go_wp2
      go_ret
      exact ⟨by rw [szF_no (by omega)]; simp, HX.out⟩
    · rw [szF_yes l2]
      go_wp2_with fail
      refine (S3 _ (by omega) (by omega)).mono ?_
      rintro e w' ⟨rfl, rfl⟩
      by_cases l3 : left - n1 - n2 < n3
      · rw [szF_no l3]
        go_wp2
        go_ret
        exact ⟨by rw [szF_no (by omega)]; simp, HX.out⟩
      · rw [szF_yes l3]
        go_wp2
        go_ret
        exact ⟨by rw [szF_yes (by omega)]; simp; omega, HX.out⟩
theorem szMultiRuleS_c (v : Value) (rs : List MRuleD) (left : Int) (w : World) (h : MRules w v rs) (h0 : 0 ≤ left) (h1 : left ≤ 1048576) :
    Calls Tryz.prog 17 #[v, .int .i64 left] w fun e w' => e = .returned (.int .i64 (szF left (rs.length + totM rs))) ∧ Ext w w' := by
  obtain ⟨A, c, rfl, h2, h3⟩ := h.form
  by_cases hl : left < rs.length
  · rw [szF_no (by omega)]
    go_enter Tryz.func17, Tryz.ntmps17
    go_wp2
    go_ret
    exact ⟨by simp, Ext.refl _⟩
  · go_enter Tryz.func17, Tryz.ntmps17
    go_wp2
    go_loopw [1, 5] (fun l i wr => ∃ k : Nat, k ≤ rs.length ∧ i = .int .i64 k ∧ l = .int .i64 (left - rs.length - totM (rs.take k)) ∧ 0 ≤ left - rs.length - totM (rs.take k) ∧ Ext w wr) (fun _ i _ => rs.length - (intOf i).toNat)
    case atStart => exact ⟨0, Nat.zero_le _, rfl, by simp [totM], by simp [totM]; omega, Ext.refl _⟩
    case round =>
      obtain ⟨k, hk, rfl, rfl, hp, hx⟩ := hrel
      by_cases hlt : k < rs.length
      · obtain ⟨b, off, vr, vw, vm, rfl, c0, c1, c2, c3, c4, i1, i2, i3⟩ := h.at hlt
        have d0 := hx.cell c0
        have d1 := hx.cell c1
        have d2 := hx.cell c2
        have d3 := hx.cell c3
        have d4 := hx.cell c4
        have HT := Lib.hid (totM_take_succ rs k hlt)
        have hle := totM_take_le rs (k + 1)
        rw [HT.out] at hle
        have SQ := szMultiRule_c (.agg #[.int .i64 rs[k].st, vr, vw, vm, .int .i64 rs[k].nx]) rs[k] (left - rs.length - totM (rs.take k)) wr ⟨vr, vw, vm, rfl, i1.ext hx, i2.ext hx, i3.ext hx⟩ hp (by omega)
        clear h c0 c1 c2 c3 c4 i1 i2 i3
        generalize rs[k] = y at *
        generalize totM (rs.take k) = t at *
        generalize hsy : szR y = sy at *
        clear hsy
        by_cases hl2 : left - rs.length - t < sy
        · rw [szF_no hl2] at SQ
          go_wp2_with fail
          refine SQ.mono ?_
          rintro e w' ⟨rfl, hx2⟩
          go_wp2
          go_ret
          exact ⟨by rw [szF_no (by omega)]; simp, hx.trans hx2⟩
        · rw [szF_yes hl2] at SQ
          go_wp2_with fail
          refine SQ.mono ?_
          rintro e w' ⟨rfl, hx2⟩
          go_wp2
          go_roundw
          case rel => exact ⟨k + 1, by omega, by go_num, by rw [HT.out]; congr 1; omega, by rw [HT.out]; omega, hx.trans hx2⟩
          case measure => simp [intOf]; omega
      · have HK := Lib.hid (show rs.take k = rs from List.take_of_length_le (by omega))
        rw [HK.out] at hp ⊢
        go_wp2
        go_ret
        exact ⟨by rw [szF_yes (by omega)]; simp; omega, hx⟩
theorem szMulti_c (v : Value) (m : MultiD) (left : Int) (w : World) (h : Mult w v m) (h0 : 0 ≤ left) (h1 : left ≤ 1048576) :
    Calls Tryz.prog 4 #[v, .int .i64 left] w fun e w' => e = .returned (.int .i64 (szF left (m.rules.length + totM m.rules))) ∧ Ext w w' := by
  obtain ⟨rv, rfl, hr⟩ := h
  have hx := Ext.alloc w (.cells #[.int .i64 m.tp, .int .i64 m.sy, .int .i64 m.st, rv] 24)
  have SQ := szMultiRuleS_c _ _ _ _ (hr.ext hx) h0 h1
  obtain ⟨n, hn⟩ : ∃ n, m.rules.length + totM m.rules = n := ⟨_, rfl⟩
  rw [hn] at SQ ⊢
  clear hn
  go_enter Tryz.func4, Tryz.ntmps4
  go_wp2_with fail
  refine SQ.mono ?_
  rintro e w' ⟨rfl, hx2⟩
  have hX := hx.trans hx2
  clear SQ
  by_cases hl : left < n
  · rw [szF_no hl]
    go_wp2
    go_ret
    exact ⟨by rw [szF_no hl]; simp, hX⟩
  · rw [szF_yes hl]
    go_wp2
    go_ret
    exact ⟨by rw [szF_yes (by omega)]; simp, hX⟩
end Go.Proofs.YtfghojbbofobeaaGreatDoor
end
