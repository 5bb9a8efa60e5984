/- Contracts of the laws' marks on lists of texts, and of their comparing. The marks are below a million.
The walk of the law on the texts of the run on one half of the tape. -/
import Derived.Test.YtjcfmlecfjmcgaaGreatDoorS39
import Derived.Test.YtjcfmlecfjmcgaaGreatDoorS03
import Derived.Test.YtjcfmlecfjmcgaaGreatDoorS40
import Derived.Test.YtjcfmlecfjmcgaaGreatDoorS47
import Derived.Test.YtjcfmlecfjmcgaaGreatDoorS37
import Derived.Test.YtjcfmlecfjmcgaaGreatDoorS38
import Derived.Deep.RegionHeld3
section
set_option linter.unusedSimpArgs false
set_option linter.unusedVariables false
namespace Go.Proofs.YtjcfmlecfjmcgaaGreatDoor
open Go Go.RowKit Go.Proofs
set_option maxHeartbeats 400000
theorem Ext.grow {w w' : World} (h : Ext w w') (row : Option Nat) : w.grownBy w' row := ⟨Below.os h, Below.tape h, Below.output h, Ext.size h, fun q hq _ => Below.block h q hq⟩
theorem svBs_length (L : List (List UInt8)) : (svB L).length = L.length := by simp [svB]
theorem svBs_get (L : List (List UInt8)) (k : Nat) (h : k < L.length) : (svB L)[k]? = some (.string (bsS L[k])) := by simp [svB, h]
theorem svBs_app (a b : List (List UInt8)) : svB (a ++ b) = svB a ++ svB b := by simp [svB]
/-- The mark with a number. -/
def mkB (n : Int) : List UInt8 := 109 :: dgs n.toNat
/-- The marks from a number on. -/
def mkL (k : Int) (n : Nat) : List (List UInt8) := (List.range n).map fun i => mkB (k + (i : Nat))
theorem mkL_length (k : Int) (n : Nat) : (mkL k n).length = n := by simp [mkL]
theorem mkL_succ (k : Int) (i : Nat) : mkL k (i + 1) = mkL k i ++ [mkB (k + (i : Nat))] := by simp [mkL, List.range_succ]
theorem mkL_get (k : Int) (n i : Nat) (h : i < n) : (mkL k n)[i]'(by rw [mkL_length]; exact h) = mkB (k + (i : Nat)) := by simp [mkL]
set_option maxRecDepth 20000 in
set_option maxHeartbeats 1000000 in
theorem markText_c (n : Int) (w : World) (n0 : 1 ≤ n) (n1 : n ≤ 1000000) :
    Calls Tryz.prog 39 #[.int .i64 n] w fun e w' => e = .returned (.string (bsS (mkB n))) ∧ Ext w w' := by
  obtain ⟨N, rfl⟩ : ∃ N : Nat, n = (N : Int) := ⟨n.toNat, by omega⟩
  have HLN := Lib.hid (dgs_len N (by omega))
  have HN1 : Hid (N ≤ 1000000) := by unfold Hid; omega
  have hle : ¬ (N : Int) ≤ 0 := by omega
  have HE : Hid (bsS (mkB (N : Int)) = ⟨#[109]⟩ ++ bsS (dgs N)) := by
    unfold Hid mkB
    rw [Int.toNat_natCast]
    exact (bs_app [109] (dgs N)).symm
  rw [HE.out]
  go_enter Tryz.func39, Tryz.ntmps39
  go_wp2
  go_loopw [0, 3] (fun i tv wr => ∃ (k : Nat) (D : List UInt8), i = .int .i64 (k : Int) ∧ k ≤ N ∧ tv = .string (bsS D) ∧ dgs N = dgs k ++ D ∧ Ext w wr) (fun i _ _ => (intOf i).toNat)
  case atStart => exact ⟨N, [], rfl, Nat.le_refl _, rfl, by simp, Ext.refl _⟩
  case round =>
    obtain ⟨k, D, rfl, hk, rfl, hD, hX⟩ := hrel
    have HD := Lib.hid hD
    have hDl : D.length ≤ 18 := by
      have h1 := HLN.out
      rw [HD.out, List.length_append] at h1
      omega
    clear hD
    have hsz : (bsS D).size = D.length := bs_size D
    by_cases hk0 : k = 0
    · subst hk0
      have HDD : Hid (dgs N = D) := by unfold Hid; rw [HD.out]; simp [dgs]
      have HF : Hid (bsS D = bsS (dgs N)) := by unfold Hid; rw [HDD.out]
      rw [show ((0 : Nat) : Int) = 0 from rfl]
      obtain ⟨s, hs⟩ : ∃ s, bsS D = s := ⟨_, rfl⟩
      rw [hs] at HF
      rw [hs] at hsz ⊢
      clear hs
      have n2 : ¬ 9223372036854775807 < 1 + s.size := by omega
      go_wp2
      go_ret
      exact ⟨by rw [← HF.out]; rfl, hX⟩
    · have hgt : (0 : Int) < (k : Int) := by omega
      have hq : (k : Int).tdiv 10 = ((k / 10 : Nat) : Int) := by rw [Int.tdiv_eq_ediv_of_nonneg (by omega)]; omega
      have hm : (k : Int).tmod 10 = ((k % 10 : Nat) : Int) := by rw [Int.tmod_eq_emod_of_nonneg (by omega)]; omega
      have hqw : IntKind.i64.wrap ((k : Int).tdiv 10) = ((k / 10 : Nat) : Int) := by rw [hq]; exact IntWalk.i64_in _ (by have := HN1.out; omega)
      have HST := Lib.hid (dgs_step hk0)
      have hdd : UInt8.ofNat (48 + k % 10) = digU ((k % 10 : Nat) : Int) := by unfold digU; rw [Int.toNat_natCast]
      rw [hdd] at HST
      clear hdd
      obtain ⟨d, hd⟩ : ∃ d, k % 10 = d := ⟨_, rfl⟩
      have hd9 : d ≤ 9 := by omega
      rw [hd] at hm HST
      have hwz := dig_fact (z := (d : Int)) (by omega) (by omega)
      obtain ⟨q, hqq⟩ : ∃ q, k / 10 = q := ⟨_, rfl⟩
      have HQ := Lib.hid hqq
      rw [hqq] at hq hqw HST
      have hqk : q < k := by omega
      have HQ64 : Hid (wrap64 (q : Int) = (q : Int)) := Lib.hid (wrap_nat (Nat.le_trans (Nat.le_trans (Nat.le_of_lt hqk) hk) HN1.out))
      have hro : (wr.alloc (.cells #[.int .u8 ((digU (d : Int)).toNat : Int)] 5)).ownsRow wr.heap.size 5 1 (.slice (some ⟨wr.heap.size, 0, none⟩) 1 1) 1 (ubs [digU (d : Int)]) :=
        ownsRow_blk 1 1 (Blk.new _ _ _ _ rfl) (Nat.le_refl _) rfl (by omega)
      have hcv : (convert 120 9 (.slice (some ⟨wr.heap.size, 0, none⟩) 1 1)).run Tryz.prog (wr.alloc (.cells #[.int .u8 ((digU (d : Int)).toNat : Int)] 5)) = .ok (.string (bsS [digU (d : Int)])) (wr.alloc (.cells #[.int .u8 ((digU (d : Int)).toNat : Int)] 5)) :=
        ubs_conv hro rfl (by omega)
      clear hro
      have HS : Hid (bsS [digU (d : Int)] ++ bsS D = bsS (digU (d : Int) :: D)) := bs_app [digU (d : Int)] D
      have hs1 : (bsS [digU (d : Int)]).size = 1 := bs_size _
      have HR : Hid (dgs N = dgs q ++ (digU (d : Int) :: D)) := by unfold Hid; rw [HD.out, HST.out]; simp
      clear hd hqq
      generalize (digU (d : Int)).toNat = dn at *
      generalize bsS [digU (d : Int)] = s1 at *
      generalize bsS D = s at *
      have n2 : ¬ 9223372036854775807 < s1.size + s.size := by omega
      go_wp2
      go_roundw
      case rel => exact ⟨q, _, rfl, by omega, by rw [HS.out], HR.out, hX.trans (Ext.alloc _ _)⟩
      case measure => simp only [intOf]; omega
set_option maxRecDepth 20000 in
theorem markStringS_c (base : Nat) (v : Value) (L : List (List UInt8)) (k : Int) (w : World) (h : w.ownsRow base 9 1 v L.length (svB L)) (h0 : 1 ≤ k) (h1 : k + L.length ≤ 1000000) :
    Calls Tryz.prog 15 #[v, .int .i64 k] w fun e w' => e = .returned (.int .i64 (k + L.length)) ∧ w'.ownsRow base 9 1 v L.length (svB (mkL k L.length)) ∧ w.grownBy w' v.ownBlock := by
  obtain ⟨A, c, rfl, h2, h2', _⟩ := (ownsRow_row h).form
  go_enter Tryz.func15, Tryz.ntmps15
  go_wp2
  go_loopw [1, 5] (fun q i wr => ∃ j : Nat, j ≤ L.length ∧ i = .int .i64 j ∧ q = .int .i64 (k + j) ∧ w.grownBy wr (Value.slice A L.length c).ownBlock ∧ ∃ xs, wr.ownsRow base 9 1 (.slice A L.length c) L.length xs ∧ xs.take j = svB (mkL k j)) (fun _ i _ => L.length - (intOf i).toNat)
  case atStart => exact ⟨0, Nat.zero_le _, rfl, by simp, World.grownBy.refl _ _, _, h, by simp [mkL, svB]⟩
  case round =>
    obtain ⟨j, hj, rfl, rfl, hg, xs, ho, hm⟩ := hrel
    have hl := ho.1
    have HM := Lib.hid hm
    clear hm
    by_cases hlt : j < L.length
    · obtain ⟨g, rfl, hb, hgl⟩ := own_at ho (by omega)
      have HL := Lib.hid hl
      have hl' : Hid (j < xs.length) := Lib.hid (by omega)
      clear hl
      go_wp2_with fail
      refine (markText_c (k + j) wr (by omega) (by omega)).mono ?_
      rintro e w3 ⟨rfl, hx3⟩
      have ho3 := ownsRow_ext ho hx3
      have q0 := ho3.cellAt j (by have := hl'.out; omega)
      rw [List.getElem?_eq_getElem hl'.out] at q0
      have f0 := ho3.frozenAt j
      obtain ⟨s, hs⟩ : ∃ s, bsS (mkB (k + j)) = s := ⟨_, rfl⟩
      have HS := Lib.hid hs
      rw [hs]
      clear hs
      go_wp2
      obtain ⟨s1, s2⟩ := ho3.stored j (.string s)
      go_roundw
      case rel => exact ⟨j + 1, by omega, by go_num, by simp; omega, grownBy_trans (grownBy_trans hg (Ext.grow hx3 _)) s2, _, s1, by rw [take_set_snoc _ _ _ hl'.out, HM.out, mkL_succ, svBs_app, ← HS.out]; rfl⟩
      case measure => simp [intOf]; omega
    · have hje : j = L.length := by omega
      subst hje
      go_wp2
      go_ret
      refine ⟨rfl, ?_, hg⟩
      have e : xs = svB (mkL k L.length) := by rw [← HM.out, List.take_of_length_le (by omega)]
      rw [← e]
      exact ho
set_option maxRecDepth 20000 in
theorem heldStringS_c (v : Value) (k : Int) (n : Nat) (w : World) (h : Row w 1 v n (svB (mkL k n))) (h0 : 1 ≤ k) (h1 : k + n ≤ 1000000) :
    Calls Tryz.prog 16 #[v, .int .i64 k] w fun e w' => e = .returned (.int .i64 (k + n)) ∧ Ext w w' := by
  obtain ⟨A, c, rfl, h2, h2', _⟩ := h.form
  go_enter Tryz.func16, Tryz.ntmps16
  go_wp2
  go_loopw [1, 5] (fun q i wr => ∃ j : Nat, j ≤ n ∧ i = .int .i64 j ∧ q = .int .i64 (k + j) ∧ Ext w wr) (fun _ i _ => n - (intOf i).toNat)
  case atStart => exact ⟨0, Nat.zero_le _, rfl, by simp, Ext.refl _⟩
  case round =>
    obtain ⟨j, hj, rfl, rfl, hX⟩ := hrel
    by_cases hlt : j < n
    · obtain ⟨b, off, rfl, hc⟩ := h.at hlt
      have c0 := hc j (by omega)
      rw [svBs_get _ _ (by rw [mkL_length]; exact hlt), mkL_get _ _ _ hlt] at c0
      have HT := fun W => markText_c (k + j) W (by omega) (by omega)
      generalize bsS (mkB (k + j)) = s at *
      have hne : (s.toList != s.toList) = false := by simp
      have d0 := cellR (hX.cell c0)
      clear hc c0
      go_wp2_with fail
      refine wp_region_ext (by kernel_rfl) (by kernel_rfl) ?_
      repeat (go_big_quiet_step ((go_at_call 39; exact Calls.extR (HT _))))
      refine wpQuiet_nil ?_
      intro w2 hx2
      go_wp2
      go_roundw
      case rel => exact ⟨j + 1, by omega, by go_num, by simp; omega, hX.trans hx2⟩
      case measure => simp [intOf]; omega
    · have hje : j = n := by omega
      subst hje
      go_wp2
      go_ret
      exact ⟨rfl, hX⟩
set_option maxRecDepth 20000 in
theorem eqStringS_c (w : World) (u v : Value) (L : List (List UInt8)) (ha : Row w 1 u L.length (svB L)) (hb : Row w 1 v L.length (svB L)) :
    Calls Tryz.prog 10 #[u, v] w fun e w' => e = .returned (.bool true) ∧ Ext w w' := by
  obtain ⟨A, ca, rfl, h1, h1', _⟩ := ha.form
  obtain ⟨B, cb, rfl, h2, h2', _⟩ := hb.form
  have hl1 : ((L.length : Int) != (L.length : Int)) = false := by simp
  go_enter Tryz.func10, Tryz.ntmps10
  go_wp2
  go_loopw [5] (fun i wr => ∃ k : Nat, k ≤ L.length ∧ i = .int .i64 k ∧ Ext w wr) (fun i _ => L.length - (intOf i).toNat)
  case atStart => exact ⟨0, Nat.zero_le _, rfl, Ext.refl _⟩
  case round =>
    obtain ⟨k, hk, rfl, hx⟩ := hrel
    by_cases hlt : k < L.length
    · obtain ⟨b, off, rfl, hc⟩ := ha.at hlt
      obtain ⟨b', off', rfl, hc'⟩ := hb.at (k := k) hlt
      have c0 := hx.cell ((hc k (by omega)).trans (svBs_get L k hlt))
      have c0' := hx.cell ((hc' k (by omega)).trans (svBs_get L k hlt))
      clear hc hc' ha hb
      generalize bsS L[k] = s at *
      have hne : (s.toList != s.toList) = false := by simp
      go_wp2
      go_quiet (fail)
      go_wp2
      go_roundw
      case rel => exact ⟨k + 1, by omega, by go_num, hx.trans (Ext.drewN _ _)⟩
      case measure => simp [intOf]; omega
    · go_wp2
      go_ret
      exact ⟨rfl, hx⟩
end Go.Proofs.YtjcfmlecfjmcgaaGreatDoor
end
section
set_option linter.unusedSimpArgs false
set_option linter.unusedVariables false
namespace Go.Proofs.YtjcfmlecfjmcgaaGreatDoor
open Go Go.RowKit Go.Proofs
set_option maxHeartbeats 400000
set_option maxRecDepth 20000 in
set_option maxHeartbeats 4000000 in
theorem law27_c (v u : Value) (m : MachD) (c : ConfD) (n : Int) (w : World) (h : Mach w v m) (h' : Conf w u c) (hT : Tab w) :
    Calls Tryz.prog 3 #[v, u, .int .i64 n] w fun e w' => e = .returned (.bool true) ∧ Ext w w' := by
  obtain ⟨rv, rfl, hr⟩ := h
  obtain ⟨lv, qv, rfl, hl, hq⟩ := h'
  obtain ⟨Ar, cr, rfl, _, _⟩ := hr.form
  obtain ⟨Al, cl, rfl, _, _⟩ := hl.form
  obtain ⟨Aq, cq, rfl, _, _⟩ := hq.form
  obtain ⟨W, hW⟩ : ∃ W, W = (w.alloc (.cells #[.int .i64 m.sy, .int .i64 m.st, .slice Ar m.rules.length cr] 24)).alloc (.cells #[.int .i64 c.q, .slice Al c.l.length cl, .slice Aq c.r.length cq] 27) := ⟨_, rfl⟩
  have hx0 : Ext w W := by rw [hW]; exact (Ext.alloc _ _).trans (Ext.alloc _ _)
  have bM : Blk W w.heap.size 24 #[.int .i64 m.sy, .int .i64 m.st, .slice Ar m.rules.length cr] := by rw [hW]; exact (Blk.new _ _ _ _ rfl).alloc _
  have bC : Blk W (w.heap.size + 1) 27 #[.int .i64 c.q, .slice Al c.l.length cl, .slice Aq c.r.length cq] := by rw [hW]; exact Blk.new _ _ _ _ (by simp)
  go_enter Tryz.func3, Tryz.ntmps3
  go_wp2_with fail
  rw [← hW]
  clear hW
  refine (szMachine_c _ m _ _ ⟨_, rfl, hr.ext hx0⟩ (by omega) (by omega)).mono ?_
  rintro e w1 ⟨rfl, hx1⟩
  by_cases hbig : (1048576 : Int) < m.rules.length
  · rw [if_pos hbig]
    go_wp2
    go_ret
    exact ⟨rfl, hx0.trans hx1⟩
  · rw [if_neg hbig]
    have hlen : m.rules.length ≤ 1048576 := by omega
    have hX1 := hx0.trans hx1
    have d0 := (bC.ext hx1).cell 0
    have d1 := (bC.ext hx1).cell 1
    have d2 := (bC.ext hx1).cell 2
    simp only [List.getElem?_toArray, List.getElem?_cons_zero, List.getElem?_cons_succ] at d0 d1 d2
    clear hbig
    go_wp2_with fail
    refine (szConfig_c _ c _ _ ⟨_, _, rfl, hl.ext hX1, hq.ext hX1⟩ (by omega) (by omega)).mono ?_
    rintro e w2 ⟨rfl, hx2⟩
    have hX2 := hX1.trans hx2
    clear d0 d1 d2
    by_cases hbig : (1048576 - (m.rules.length : Int)) < ((c.l.length + c.r.length : Nat) : Int)
    · rw [szF_no hbig]
      go_wp2
      go_ret
      exact ⟨rfl, hX2⟩
    · rw [szF_yes hbig]
      have hsz : c.l.length + c.r.length ≤ 1048576 := by omega
      have hpos : 0 ≤ 1048576 - (m.rules.length : Int) - ((c.l.length + c.r.length : Nat) : Int) := by omega
      generalize 1048576 - (m.rules.length : Int) - ((c.l.length + c.r.length : Nat) : Int) = lf at *
      have bM2 := (bM.ext hx1).ext hx2
      have bC2 := (bC.ext hx1).ext hx2
      clear hbig bM bC hx0
      have hXd := hX2.trans (Ext.drew _)
      have hM0 : Mach w2.drew (.agg #[.int .i64 m.sy, .int .i64 m.st, .slice Ar m.rules.length cr]) m := ⟨_, rfl, hr.ext hXd⟩
      have hC0 : Conf w2.drew (.agg #[.int .i64 c.q, .slice Al c.l.length cl, .slice Aq c.r.length cq]) c := ⟨_, _, rfl, hl.ext hXd, hq.ext hXd⟩
      have c0 := (bM2.ext (Ext.drew _)).cell 0
      have c1 := (bM2.ext (Ext.drew _)).cell 1
      have c2 := (bM2.ext (Ext.drew _)).cell 2
      have d0 := (bC2.ext (Ext.drew _)).cell 0
      have d1 := (bC2.ext (Ext.drew _)).cell 1
      have d2 := (bC2.ext (Ext.drew _)).cell 2
      simp only [List.getElem?_toArray, List.getElem?_cons_zero, List.getElem?_cons_succ] at c0 c1 c2 d0 d1 d2
      go_wp2_with fail
      refine wp_region_ordT 10 (readsT [0, 2, 4] (.stir 1 (.stir 3 (.stir 5 (readsT [6, 7, 8, 9] .done))))) (by kernel_rfl) (by kernel_rfl) (fun _ _ _ _ _ h => h) ?_
      simp only [readsT]
      iterate 3 (refine wpOrdT_read (v := ?_) (by rfl) (Or.inl ⟨by rfl, fun x hx => ?_⟩) ?_; rotate_left; (· have a0 := hx.cell c0; have a1 := hx.cell c1; have a2 := hx.cell c2; have a3 := hx.cell d0; have a4 := hx.cell d1; have a5 := hx.cell d2; go_simp; try with_reducible rfl); try simp only [Act.put, List.setIfInBounds_toArray, List.set_cons_zero, List.set_cons_succ])
      refine wpOrdT_keep (by rfl) (fun K hK => ?_)
      go_simp
      go_at_call 7
      refine (toMachine_c _ m _ hM0 hlen).mono ?_
      rintro e wA ⟨rvA, rfl, hoA, hxA⟩
      refine hK _ _ hxA ?_
      clear hK K
      refine wpOrdT_keep (by rfl) (fun K hK => ?_)
      go_simp
      go_at_call 8
      refine (toConfigM_c _ c _ (hC0.ext hxA) hsz).mono ?_
      rintro e wB ⟨uB, rfl, ⟨lvB, rvB, rfl, olB, orB, _⟩, hxB⟩
      refine hK _ _ (hxA.trans hxB) ?_
      clear hK K
      refine wpOrdT_keep (by rfl) (fun K hK => ?_)
      go_simp
      go_at_call 6
      refine (specFoldTexts_c wB m c n rvA lvB rvB (hoA.rules.ext hxB) olB.ints orB.ints).mono ?_
      rintro e wS ⟨L, kk, tvS, rfl, oS, hSS, hxC⟩
      refine hK _ _ ((hxA.trans hxB).trans hxC) ?_
      clear hK K
      obtain ⟨AL, CL, rfl, _, _, _⟩ := (ownsRow_row oS).form
      have hxS : Ext w2 wS := ((Ext.drew _).trans hxA).trans (hxB.trans hxC)
      clear hxA hxB hxC hoA olB orB hM0 hC0 hXd c0 c1 c2 d0 d1 d2
      iterate 4 (refine wpOrdT_read (v := ?_) (by rfl) (Or.inl ⟨by rfl, fun x hx => ?_⟩) ?_; rotate_left; (· go_simp; try with_reducible rfl); try simp only [Act.put, List.setIfInBounds_toArray, List.set_cons_zero, List.set_cons_succ])
      refine wpOrdT_done ?_
      try simp only [List.drop_succ_cons, List.drop_zero]
      have HSS := Lib.hid hSS
      have HLE := Lib.hid (FTxt.len hSS)
      clear hSS
      have iS := ownsRow_row oS
      have hXC := hX2.trans hxS
      have bMC := bM2.ext hxS
      have bCC := bC2.ext hxS
      clear oS
      have c0 := bMC.cell 0
      have c1 := bMC.cell 1
      have c2 := bMC.cell 2
      simp only [List.getElem?_toArray, List.getElem?_cons_zero, List.getElem?_cons_succ] at c0 c1 c2
      -- region 9
      go_wp2_with fail
      refine (toMachine_c _ m _ ⟨_, rfl, hr.ext hXC⟩ hlen).mono ?_
      rintro e w5 ⟨rv5, rfl, ho5, hx5⟩
      obtain ⟨A5, c5, rfl, _, _⟩ := ho5.rules.form
      obtain ⟨W5, hW5⟩ : ∃ W, W = w5.alloc (.cells #[.int .i64 m.sy, .int .i64 m.st, .slice A5 m.rules.length c5] 35) := ⟨_, rfl⟩
      have hxW5 : Ext w5 W5 := by rw [hW5]; exact Ext.alloc _ _
      have bX : Blk W5 w5.heap.size 35 #[.int .i64 m.sy, .int .i64 m.st, .slice A5 m.rules.length c5] := by rw [hW5]; exact Blk.new _ _ _ _ rfl
      have hE5 := hx5.trans hxW5
      have hX5 := hXC.trans hE5
      have oX := ho5.ext hxW5
      have bC5 := bCC.ext hE5
      clear c0 c1 c2
      have d0 := bC5.cell 0
      have d1 := bC5.cell 1
      have d2 := bC5.cell 2
      simp only [List.getElem?_toArray, List.getElem?_cons_zero, List.getElem?_cons_succ] at d0 d1 d2
      rw [hW5] at d0 d1 d2
      -- region 10
      go_wp2_with fail
      rw [← hW5]
      clear hW5 d0 d1 d2
      refine (toConfig_c _ c _ ⟨_, _, rfl, hl.ext hX5, hq.ext hX5⟩ hsz).mono ?_
      rintro e w6 ⟨lv6, rv6, rfl, ol6, or6, ap6, hx6⟩
      obtain ⟨A6, c6, rfl, _, _⟩ := ol6.ints.form
      obtain ⟨B6, e6, rfl, _, _⟩ := or6.ints.form
      obtain ⟨V, hV⟩ : ∃ W, W = w6.alloc (.cells #[.int .i64 c.q, .slice A6 c.l.length c6, .slice B6 c.r.length e6] 37) := ⟨_, rfl⟩
      have hxV : Ext w6 V := by rw [hV]; exact Ext.alloc _ _
      have bY : Blk V w6.heap.size 37 #[.int .i64 c.q, .slice A6 c.l.length c6, .slice B6 c.r.length e6] := by rw [hV]; exact Blk.new _ _ _ _ rfl
      have hE6 := hE5.trans (hx6.trans hxV)
      have bX6 := bX.ext (hx6.trans hxV)
      have oX6 := oX.ext (hx6.trans hxV)
      have oL6 := ol6.ext hxV
      have oR6 := or6.ext hxV
      have c0 := bX6.cell 0
      have c1 := bX6.cell 1
      have c2 := bX6.cell 2
      simp only [List.getElem?_toArray, List.getElem?_cons_zero, List.getElem?_cons_succ] at c0 c1 c2
      rw [hV] at c0 c1 c2
      -- region 11
      go_wp2_with fail
      rw [← hV]
      clear hV c0 c1 c2
      refine (FoldTexts_c V m c n _ _ _ oX6.rules oL6.ints oR6.ints (hT.ext (hXC.trans hE6))).mono ?_
      rintro e w7 ⟨L7, k7, tv7, rfl, o7, h7, hx7⟩
      obtain ⟨hL, hK⟩ := FTxt.unique HSS.out h7
      subst hL hK
      clear h7
      obtain ⟨A7, c7, rfl, _, _, _⟩ := (ownsRow_row o7).form
      have hE7 := hE6.trans hx7
      have bX7 := bX6.ext hx7
      have bY7 := bY.ext hx7
      have oX7 := oX6.ext hx7
      have oY1 := oL6.ext hx7
      have oY2 := oR6.ext hx7
      have hcc : (kk != kk) = false := by simp
      -- region 12
      go_wp2_with fail
      refine (eqStringS_c _ _ _ L (ownsRow_row o7) (iS.ext hE7)).mono ?_
      rintro e w8 ⟨rfl, hx8⟩
      have hE8 := hE7.trans hx8
      have hXw8 := hXC.trans hE8
      have o8 := ownsRow_ext o7 hx8
      have c0 := (bX7.ext hx8).cell 0
      have c1 := (bX7.ext hx8).cell 1
      have c2 := (bX7.ext hx8).cell 2
      have d0 := (bMC.ext hE8).cell 0
      have d1 := (bMC.ext hE8).cell 1
      have d2 := (bMC.ext hE8).cell 2
      simp only [List.getElem?_toArray, List.getElem?_cons_zero, List.getElem?_cons_succ] at c0 c1 c2 d0 d1 d2
      have hMr : Mach w8.drew (.agg #[.int .i64 m.sy, .int .i64 m.st, .slice Ar m.rules.length cr]) m := ⟨_, rfl, (hr.ext hXw8).ext (Ext.drew _)⟩
      have hMx : Mach w8 (.agg #[.int .i64 m.sy, .int .i64 m.st, .slice A5 m.rules.length c5]) m := ⟨_, rfl, oX7.rules.ext hx8⟩
      have hdm : decide (m = m) = true := by simp
      have hdc : decide (c = c) = true := by simp
      -- region 14
      go_wp2_with fail
      go_region_held3 (fun w' => w'.cell? ⟨w5.heap.size, 0, none⟩ = some (.int .i64 m.sy) ∧ w'.cell? ⟨w5.heap.size, 1, none⟩ = some (.int .i64 m.st) ∧ w'.cell? ⟨w5.heap.size, 2, none⟩ = some (.slice A5 m.rules.length c5) ∧ w'.cell? ⟨w.heap.size, 0, none⟩ = some (.int .i64 m.sy) ∧ w'.cell? ⟨w.heap.size, 1, none⟩ = some (.int .i64 m.st) ∧ w'.cell? ⟨w.heap.size, 2, none⟩ = some (.slice Ar m.rules.length cr))
        (first | go_keep | exact ⟨hx9.cell c0, hx9.cell c1, hx9.cell c2, hx9.cell d0, hx9.cell d1, hx9.cell d2⟩ | exact ⟨hx10.cell c0, hx10.cell c1, hx10.cell c2, hx10.cell d0, hx10.cell d1, hx10.cell d2⟩)
        (first
          | (go_at_call 7; ((with_reducible refine (toMachine_c _ m _ hMr hlen).mono ?_)); rintro e w9 ⟨rv9, rfl, ho9, hx9'⟩; have hx9 := (Ext.drew w8).trans hx9'; have hM9 : Mach w9 (.agg #[.int .i64 m.sy, .int .i64 m.st, rv9]) m := ⟨_, rfl, ho9.rules⟩; have hM9x := hMx.ext hx9)
          | (go_at_call 11; ((with_reducible refine (eqMachine_c _ _ _ m m hM9x hM9).mono ?_)); rintro e w10 ⟨rfl, hx10'⟩; have hx10 := hx9.trans hx10'))
      have hxA := hx8.trans hx10
      have hE10 := hE7.trans hxA
      have hXw10 := hXC.trans hE10
      have oX10 := oX7.ext hxA
      have o10 := ownsRow_ext o7 hxA
      have oY10 := oY1.ext hxA
      have oY20 := oY2.ext hxA
      have bY10 := bY7.ext hxA
      have bX10 := bX7.ext hxA
      clear c0 c1 c2 d0 d1 d2
      have c0 := bY10.cell 0
      have c1 := bY10.cell 1
      have c2 := bY10.cell 2
      have d0 := (bCC.ext hE10).cell 0
      have d1 := (bCC.ext hE10).cell 1
      have d2 := (bCC.ext hE10).cell 2
      simp only [List.getElem?_toArray, List.getElem?_cons_zero, List.getElem?_cons_succ] at c0 c1 c2 d0 d1 d2
      have hCr : Conf w10.drew (.agg #[.int .i64 c.q, .slice Al c.l.length cl, .slice Aq c.r.length cq]) c := ⟨_, _, rfl, (hl.ext hXw10).ext (Ext.drew _), (hq.ext hXw10).ext (Ext.drew _)⟩
      have hCx : Conf w10 (.agg #[.int .i64 c.q, .slice A6 c.l.length c6, .slice B6 c.r.length e6]) c := ⟨_, _, rfl, oY10.ints, oY20.ints⟩
      -- region 16
      go_wp2_with fail
      go_region_held3 (fun w' => w'.cell? ⟨w6.heap.size, 0, none⟩ = some (.int .i64 c.q) ∧ w'.cell? ⟨w6.heap.size, 1, none⟩ = some (.slice A6 c.l.length c6) ∧ w'.cell? ⟨w6.heap.size, 2, none⟩ = some (.slice B6 c.r.length e6) ∧ w'.cell? ⟨w.heap.size + 1, 0, none⟩ = some (.int .i64 c.q) ∧ w'.cell? ⟨w.heap.size + 1, 1, none⟩ = some (.slice Al c.l.length cl) ∧ w'.cell? ⟨w.heap.size + 1, 2, none⟩ = some (.slice Aq c.r.length cq))
        (first | go_keep | exact ⟨hx11.cell c0, hx11.cell c1, hx11.cell c2, hx11.cell d0, hx11.cell d1, hx11.cell d2⟩ | exact ⟨hx12.cell c0, hx12.cell c1, hx12.cell c2, hx12.cell d0, hx12.cell d1, hx12.cell d2⟩)
        (first
          | (go_at_call 8; ((with_reducible refine (toConfigM_c _ c _ hCr hsz).mono ?_)); rintro e w11 ⟨u11, rfl, hC11, hx11'⟩; have hx11 := (Ext.drew w10).trans hx11'; have hC11x := hCx.ext hx11)
          | (go_at_call 12; ((with_reducible refine (eqConfig_c _ _ _ c c hC11x hC11.conf).mono ?_)); rintro e w12 ⟨rfl, hx12'⟩; have hx12 := hx11.trans hx12'))
      have hE12 := hE10.trans hx12
      have oX12 := oX10.ext hx12
      have o12 := ownsRow_ext o10 hx12
      have oY12 := oY10.ext hx12
      have oY22 := oY20.ext hx12
      have bY12 := bY10.ext hx12
      have bX12 := bX10.ext hx12
      clear c0 c1 c2 d0 d1 d2
      have c0 := bX12.cell 0
      have c1 := bX12.cell 1
      have c2 := bX12.cell 2
      simp only [List.getElem?_toArray, List.getElem?_cons_zero, List.getElem?_cons_succ] at c0 c1 c2
      -- region 19
      go_wp2_with fail
      refine (markMachine_c wS.heap.size m.sy m.st _ m.rules 1 _ oX12 hE12.size (by omega) (by omega)).mono ?_
      rintro e w13 ⟨rfl, hb13, hg13⟩
      have hE13 : Ext wS w13 := Below.trans hE12 hb13
      have o13 := World.ownsRow.kept o12 hg13 (own_ne o12 oX12 (by decide))
      have oY13 := World.ownsRow.kept oY12 hg13 (own_ne oY12 oX12 (by decide))
      have oY23 := World.ownsRow.kept oY22 hg13 (own_ne oY22 oX12 (by decide))
      have bY13 := Blk.apart bY12 oX12 (by decide) hg13
      have hsz13 : W5.heap.size ≤ w13.heap.size := by have a1 := (hx6.trans hxV).size; have a2 := hx7.size; have a3 := hxA.size; have a4 := hx12.size; have a5 := hg13.size; omega
      clear c0 c1 c2
      have c0 := bY13.cell 0
      have c1 := bY13.cell 1
      have c2 := bY13.cell 2
      simp only [List.getElem?_toArray, List.getElem?_cons_zero, List.getElem?_cons_succ] at c0 c1 c2
      -- region 20
      go_wp2_with fail
      refine (markConfig_c W5.heap.size c.q _ _ c.l c.r _ _ oY13 oY23 ap6 hsz13 (by omega) (by omega)).mono ?_
      rintro e w14 ⟨rfl, _, _, hb14, ht14⟩
      have hE14 : Ext wS w14 := Below.trans hE13 (Below.mono hb14 hE5.size)
      have o14 := ht14.own o13 (fun g hg => ⟨ownrow_ne o13 oY13 (by decide) g hg, ownrow_ne o13 oY23 (by decide) g hg⟩)
      have hVw : wS.heap.size ≤ V.heap.size := hE6.size
      have hk1 : decide ((1 : Int) + 3 * (m.rules.length : Int) + (c.l.length : Int) + (c.r.length : Int) < 0) = false := by simp; omega
      clear c0 c1 c2
      -- region 21
      go_wp2_with fail
      refine (eqStringS_c _ _ _ L (ownsRow_row o14) (iS.ext hE14)).mono ?_
      rintro e w15 ⟨rfl, hx15⟩
      have hE15 := hE14.trans hx15
      have o15 := ownsRow_ext o14 hx15
      -- region 24
      go_wp2_with fail
      refine (markStringS_c V.heap.size _ L 1 _ o15 (by omega) (by have := HLE.out; omega)).mono ?_
      rintro e w16' ⟨rfl, oN, hg16⟩
      have hE16' : Ext wS w16' := hE15.grown hg16 (fun g hg => Nat.le_trans hVw (o15.lt g hg).1)
      have hNL := Lib.hid (mkL_length 1 L.length)
      have iN := ownsRow_row oN
      -- region 26
      go_wp2_with fail
      refine (heldStringS_c _ 1 L.length _ iN (by omega) (by have := HLE.out; omega)).mono ?_
      rintro e w16 ⟨rfl, hx16⟩
      have hE16 := hE16'.trans hx16
      have hXw16 := hXC.trans hE16
      have bM16 := bMC.ext hE16
      have bC16 := bCC.ext hE16
      have hk2 : decide ((1 : Int) + (L.length : Int) < 0) = false := by simp; omega
      -- region 31
      have hXd := hXw16.trans (Ext.drew _)
      have hM0 : Mach w16.drew (.agg #[.int .i64 m.sy, .int .i64 m.st, .slice Ar m.rules.length cr]) m := ⟨_, rfl, hr.ext hXd⟩
      have hC0 : Conf w16.drew (.agg #[.int .i64 c.q, .slice Al c.l.length cl, .slice Aq c.r.length cq]) c := ⟨_, _, rfl, hl.ext hXd, hq.ext hXd⟩
      have c0 := (bM16.ext (Ext.drew _)).cell 0
      have c1 := (bM16.ext (Ext.drew _)).cell 1
      have c2 := (bM16.ext (Ext.drew _)).cell 2
      have d0 := (bC16.ext (Ext.drew _)).cell 0
      have d1 := (bC16.ext (Ext.drew _)).cell 1
      have d2 := (bC16.ext (Ext.drew _)).cell 2
      simp only [List.getElem?_toArray, List.getElem?_cons_zero, List.getElem?_cons_succ] at c0 c1 c2 d0 d1 d2
      go_wp2_with fail
      refine wp_region_ordT 10 (readsT [0, 2, 4] (.stir 1 (.stir 3 (.stir 5 (readsT [6, 7, 8, 9] .done))))) (by kernel_rfl) (by kernel_rfl) (fun _ _ _ _ _ h => h) ?_
      simp only [readsT]
      iterate 3 (refine wpOrdT_read (v := ?_) (by rfl) (Or.inl ⟨by rfl, fun x hx => ?_⟩) ?_; rotate_left; (· have a0 := hx.cell c0; have a1 := hx.cell c1; have a2 := hx.cell c2; have a3 := hx.cell d0; have a4 := hx.cell d1; have a5 := hx.cell d2; go_simp; try with_reducible rfl); try simp only [Act.put, List.setIfInBounds_toArray, List.set_cons_zero, List.set_cons_succ])
      refine wpOrdT_keep (by rfl) (fun K hK => ?_)
      go_simp
      go_at_call 7
      refine (toMachine_c _ m _ hM0 hlen).mono ?_
      rintro e wA ⟨rvA, rfl, hoA, hxA⟩
      refine hK _ _ hxA ?_
      clear hK K
      refine wpOrdT_keep (by rfl) (fun K hK => ?_)
      go_simp
      go_at_call 8
      refine (toConfigM_c _ c _ (hC0.ext hxA) hsz).mono ?_
      rintro e wB ⟨uB, rfl, ⟨lvB, rvB, rfl, olB, orB, _⟩, hxB⟩
      refine hK _ _ (hxA.trans hxB) ?_
      clear hK K
      refine wpOrdT_keep (by rfl) (fun K hK => ?_)
      go_simp
      go_at_call 9
      refine (FoldTexts_c wB m c n rvA lvB rvB (hoA.rules.ext hxB) olB.ints orB.ints (hT.ext (hXd.trans (hxA.trans hxB)))).mono ?_
      rintro e wh ⟨L2, k2, tvH, rfl, oH, hHH, hxC⟩
      refine hK _ _ ((hxA.trans hxB).trans hxC) ?_
      clear hK K
      obtain ⟨AL2, CL2, rfl, _, _, _⟩ := (ownsRow_row oH).form
      have hxH : Ext w16 wh := ((Ext.drew _).trans hxA).trans (hxB.trans hxC)
      clear hxA hxB hxC hoA olB orB hM0 hC0 hXd c0 c1 c2 d0 d1 d2
      iterate 4 (refine wpOrdT_read (v := ?_) (by rfl) (Or.inl ⟨by rfl, fun x hx => ?_⟩) ?_; rotate_left; (· go_simp; try with_reducible rfl); try simp only [Act.put, List.setIfInBounds_toArray, List.set_cons_zero, List.set_cons_succ])
      refine wpOrdT_done ?_
      try simp only [List.drop_succ_cons, List.drop_zero]
      obtain ⟨hL, hK⟩ := FTxt.unique HSS.out hHH
      subst hL hK
      clear hHH
      have hEH := hE16.trans hxH
      -- region 32
      go_wp2_with fail
      refine (eqStringS_c _ _ _ L (ownsRow_row oH) (iS.ext hEH)).mono ?_
      rintro e w17 ⟨rfl, hx17⟩
      have hLast := (hx16.trans hxH).trans hx17
      -- region 35
      go_wp2_with fail
      refine (heldStringS_c _ 1 L.length _ (iN.ext hLast) (by omega) (by have := HLE.out; omega)).mono ?_
      rintro e w18 ⟨rfl, hx18⟩
      go_wp2
      go_ret
      exact ⟨rfl, ((hXC.trans hE16').trans hLast).trans hx18⟩
end Go.Proofs.YtjcfmlecfjmcgaaGreatDoor
end
