/- Contracts of the laws' marks on lists of texts, and of their comparing. The marks are below a million.
The law FnExactMultiTexts: the program's and the reference's texts of a run on words are one.
The arguments of the laws of this seat, opened, continued: lists of lists, a proof. No condition. -/
import Derived.Test.YtkbpchdncljlbaaDoorR38
import Derived.Test.YtkbpchdncljlbaaDoorR02
import Derived.Test.YtkbpchdncljlbaaDoorR17
import Derived.Test.YtkbpchdncljlbaaDoorR40
import Derived.Test.YtkbpchdncljlbaaDoorR39
import Derived.Test.YtkbpchdncljlbaaDoorR42
import Derived.Deep.RegionHeld3
section
set_option linter.unusedSimpArgs false
set_option linter.unusedVariables false
namespace Go.Proofs.YtkbpchdncljlbaaDoor
open Go Go.RowKit Go.Proofs
set_option maxHeartbeats 400000
theorem Ext.grow {w w' : World} (h : Ext w w') (row : Option Nat) : w.grownBy w' row := ⟨Below.os h, Below.tape h, Below.output h, Ext.size h, fun q hq _ => Below.block h q hq⟩
theorem svBs_length (L : List (List UInt8)) : (svB L).length = L.length := by simp [svB]
theorem svBs_get (L : List (List UInt8)) (k : Nat) (h : k < L.length) : (svB L)[k]? = some (.string (bsS L[k])) := by simp [svB, h]
theorem svBs_app (a b : List (List UInt8)) : svB (a ++ b) = svB a ++ svB b := by simp [svB]
/-- The mark with a number. -/
def mkB (n : Int) : List UInt8 := 109 :: dgs n.toNat
/-- The marks from a number on. -/
def mkL (k : Int) (n : Nat) : List (List UInt8) := (List.range n).map fun i => mkB (k + (i : Nat))
theorem mkL_length (k : Int) (n : Nat) : (mkL k n).length = n := by simp [mkL]
theorem mkL_succ (k : Int) (i : Nat) : mkL k (i + 1) = mkL k i ++ [mkB (k + (i : Nat))] := by simp [mkL, List.range_succ]
theorem mkL_get (k : Int) (n i : Nat) (h : i < n) : (mkL k n)[i]'(by rw [mkL_length]; exact h) = mkB (k + (i : Nat)) := by simp [mkL]
set_option maxRecDepth 20000 in
set_option maxHeartbeats 1000000 in
theorem markText_c (n : Int) (w : World) (n0 : 1 ≤ n) (n1 : n ≤ 1000000) :
    Calls Tryd.prog 37 #[.int .i64 n] w fun e w' => e = .returned (.string (bsS (mkB n))) ∧ Ext w w' := by
  obtain ⟨N, rfl⟩ : ∃ N : Nat, n = (N : Int) := ⟨n.toNat, by omega⟩
  have HLN := Lib.hid (dgs_len N (by omega))
  have HN1 : Hid (N ≤ 1000000) := by unfold Hid; omega
  have hle : ¬ (N : Int) ≤ 0 := by omega
  have HE : Hid (bsS (mkB (N : Int)) = ⟨#[109]⟩ ++ bsS (dgs N)) := by
    unfold Hid mkB
    rw [Int.toNat_natCast]
    exact (bs_app [109] (dgs N)).symm
  rw [HE.out]
  go_enter Tryd.func37, Tryd.ntmps37
  go_wp2
  go_loopw [0, 3] (fun i tv wr => ∃ (k : Nat) (D : List UInt8), i = .int .i64 (k : Int) ∧ k ≤ N ∧ tv = .string (bsS D) ∧ dgs N = dgs k ++ D ∧ Ext w wr) (fun i _ _ => (intOf i).toNat)
  case atStart => exact ⟨N, [], rfl, Nat.le_refl _, rfl, by simp, Ext.refl _⟩
  case round =>
    obtain ⟨k, D, rfl, hk, rfl, hD, hX⟩ := hrel
    have HD := Lib.hid hD
    have hDl : D.length ≤ 18 := by
      have h1 := HLN.out
      rw [HD.out, List.length_append] at h1
      omega
    clear hD
    have hsz : (bsS D).size = D.length := bs_size D
    by_cases hk0 : k = 0
    · subst hk0
      have HDD : Hid (dgs N = D) := by unfold Hid; rw [HD.out]; simp [dgs]
      have HF : Hid (bsS D = bsS (dgs N)) := by unfold Hid; rw [HDD.out]
      rw [show ((0 : Nat) : Int) = 0 from rfl]
      obtain ⟨s, hs⟩ : ∃ s, bsS D = s := ⟨_, rfl⟩
      rw [hs] at HF
      rw [hs] at hsz ⊢
      clear hs
      have n2 : ¬ 9223372036854775807 < 1 + s.size := by omega
      go_wp2
      go_ret
      exact ⟨by rw [← HF.out]; rfl, hX⟩
    · have hgt : (0 : Int) < (k : Int) := by omega
      have hq : (k : Int).tdiv 10 = ((k / 10 : Nat) : Int) := by rw [Int.tdiv_eq_ediv_of_nonneg (by omega)]; omega
      have hm : (k : Int).tmod 10 = ((k % 10 : Nat) : Int) := by rw [Int.tmod_eq_emod_of_nonneg (by omega)]; omega
      have hqw : IntKind.i64.wrap ((k : Int).tdiv 10) = ((k / 10 : Nat) : Int) := by rw [hq]; exact IntWalk.i64_in _ (by have := HN1.out; omega)
      have HST := Lib.hid (dgs_step hk0)
      have hdd : UInt8.ofNat (48 + k % 10) = digU ((k % 10 : Nat) : Int) := by unfold digU; rw [Int.toNat_natCast]
      rw [hdd] at HST
      clear hdd
      obtain ⟨d, hd⟩ : ∃ d, k % 10 = d := ⟨_, rfl⟩
      have hd9 : d ≤ 9 := by omega
      rw [hd] at hm HST
      have hwz := dig_fact (z := (d : Int)) (by omega) (by omega)
      obtain ⟨q, hqq⟩ : ∃ q, k / 10 = q := ⟨_, rfl⟩
      have HQ := Lib.hid hqq
      rw [hqq] at hq hqw HST
      have hqk : q < k := by omega
      have HQ64 : Hid (wrap64 (q : Int) = (q : Int)) := Lib.hid (wrap_nat (Nat.le_trans (Nat.le_trans (Nat.le_of_lt hqk) hk) HN1.out))
      have hro : (wr.alloc (.cells #[.int .u8 ((digU (d : Int)).toNat : Int)] 5)).ownsRow wr.heap.size 5 1 (.slice (some ⟨wr.heap.size, 0, none⟩) 1 1) 1 (ubs [digU (d : Int)]) :=
        ownsRow_blk 1 1 (Blk.new _ _ _ _ rfl) (Nat.le_refl _) rfl (by omega)
      have hcv : (convert 100 9 (.slice (some ⟨wr.heap.size, 0, none⟩) 1 1)).run Tryd.prog (wr.alloc (.cells #[.int .u8 ((digU (d : Int)).toNat : Int)] 5)) = .ok (.string (bsS [digU (d : Int)])) (wr.alloc (.cells #[.int .u8 ((digU (d : Int)).toNat : Int)] 5)) :=
        ubs_conv hro rfl (by omega)
      clear hro
      have HS : Hid (bsS [digU (d : Int)] ++ bsS D = bsS (digU (d : Int) :: D)) := bs_app [digU (d : Int)] D
      have hs1 : (bsS [digU (d : Int)]).size = 1 := bs_size _
      have HR : Hid (dgs N = dgs q ++ (digU (d : Int) :: D)) := by unfold Hid; rw [HD.out, HST.out]; simp
      clear hd hqq
      generalize (digU (d : Int)).toNat = dn at *
      generalize bsS [digU (d : Int)] = s1 at *
      generalize bsS D = s at *
      have n2 : ¬ 9223372036854775807 < s1.size + s.size := by omega
      go_wp2
      go_roundw
      case rel => exact ⟨q, _, rfl, by omega, by rw [HS.out], HR.out, hX.trans (Ext.alloc _ _)⟩
      case measure => simp only [intOf]; omega
set_option maxRecDepth 20000 in
theorem markStringS_c (base : Nat) (v : Value) (L : List (List UInt8)) (k : Int) (w : World) (h : w.ownsRow base 9 1 v L.length (svB L)) (h0 : 1 ≤ k) (h1 : k + L.length ≤ 1000000) :
    Calls Tryd.prog 15 #[v, .int .i64 k] w fun e w' => e = .returned (.int .i64 (k + L.length)) ∧ w'.ownsRow base 9 1 v L.length (svB (mkL k L.length)) ∧ w.grownBy w' v.ownBlock := by
  obtain ⟨A, c, rfl, h2, h2', _⟩ := (ownsRow_row h).form
  go_enter Tryd.func15, Tryd.ntmps15
  go_wp2
  go_loopw [1, 5] (fun q i wr => ∃ j : Nat, j ≤ L.length ∧ i = .int .i64 j ∧ q = .int .i64 (k + j) ∧ w.grownBy wr (Value.slice A L.length c).ownBlock ∧ ∃ xs, wr.ownsRow base 9 1 (.slice A L.length c) L.length xs ∧ xs.take j = svB (mkL k j)) (fun _ i _ => L.length - (intOf i).toNat)
  case atStart => exact ⟨0, Nat.zero_le _, rfl, by simp, World.grownBy.refl _ _, _, h, by simp [mkL, svB]⟩
  case round =>
    obtain ⟨j, hj, rfl, rfl, hg, xs, ho, hm⟩ := hrel
    have hl := ho.1
    have HM := Lib.hid hm
    clear hm
    by_cases hlt : j < L.length
    · obtain ⟨g, rfl, hb, hgl⟩ := own_at ho (by omega)
      have HL := Lib.hid hl
      have hl' : Hid (j < xs.length) := Lib.hid (by omega)
      clear hl
      go_wp2_with fail
      refine (markText_c (k + j) wr (by omega) (by omega)).mono ?_
      rintro e w3 ⟨rfl, hx3⟩
      have ho3 := ownsRow_ext ho hx3
      have q0 := ho3.cellAt j (by have := hl'.out; omega)
      rw [List.getElem?_eq_getElem hl'.out] at q0
      have f0 := ho3.frozenAt j
      obtain ⟨s, hs⟩ : ∃ s, bsS (mkB (k + j)) = s := ⟨_, rfl⟩
      have HS := Lib.hid hs
      rw [hs]
      clear hs
      go_wp2
      obtain ⟨s1, s2⟩ := ho3.stored j (.string s)
      go_roundw
      case rel => exact ⟨j + 1, by omega, by go_num, by simp; omega, grownBy_trans (grownBy_trans hg (Ext.grow hx3 _)) s2, _, s1, by rw [take_set_snoc _ _ _ hl'.out, HM.out, mkL_succ, svBs_app, ← HS.out]; rfl⟩
      case measure => simp [intOf]; omega
    · have hje : j = L.length := by omega
      subst hje
      go_wp2
      go_ret
      refine ⟨rfl, ?_, hg⟩
      have e : xs = svB (mkL k L.length) := by rw [← HM.out, List.take_of_length_le (by omega)]
      rw [← e]
      exact ho
set_option maxRecDepth 20000 in
theorem heldStringS_c (v : Value) (k : Int) (n : Nat) (w : World) (h : Row w 1 v n (svB (mkL k n))) (h0 : 1 ≤ k) (h1 : k + n ≤ 1000000) :
    Calls Tryd.prog 16 #[v, .int .i64 k] w fun e w' => e = .returned (.int .i64 (k + n)) ∧ Ext w w' := by
  obtain ⟨A, c, rfl, h2, h2', _⟩ := h.form
  go_enter Tryd.func16, Tryd.ntmps16
  go_wp2
  go_loopw [1, 5] (fun q i wr => ∃ j : Nat, j ≤ n ∧ i = .int .i64 j ∧ q = .int .i64 (k + j) ∧ Ext w wr) (fun _ i _ => n - (intOf i).toNat)
  case atStart => exact ⟨0, Nat.zero_le _, rfl, by simp, Ext.refl _⟩
  case round =>
    obtain ⟨j, hj, rfl, rfl, hX⟩ := hrel
    by_cases hlt : j < n
    · obtain ⟨b, off, rfl, hc⟩ := h.at hlt
      have c0 := hc j (by omega)
      rw [svBs_get _ _ (by rw [mkL_length]; exact hlt), mkL_get _ _ _ hlt] at c0
      have HT := fun W => markText_c (k + j) W (by omega) (by omega)
      generalize bsS (mkB (k + j)) = s at *
      have hne : (s.toList != s.toList) = false := by simp
      have d0 := cellR (hX.cell c0)
      clear hc c0
      go_wp2_with fail
      refine wp_region_ext (by kernel_rfl) (by kernel_rfl) ?_
      repeat (go_big_quiet_step ((go_at_call 37; exact Calls.extR (HT _))))
      refine wpQuiet_nil ?_
      intro w2 hx2
      go_wp2
      go_roundw
      case rel => exact ⟨j + 1, by omega, by go_num, by simp; omega, hX.trans hx2⟩
      case measure => simp [intOf]; omega
    · have hje : j = n := by omega
      subst hje
      go_wp2
      go_ret
      exact ⟨rfl, hX⟩
set_option maxRecDepth 20000 in
theorem eqStringS_c (w : World) (u v : Value) (L : List (List UInt8)) (ha : Row w 1 u L.length (svB L)) (hb : Row w 1 v L.length (svB L)) :
    Calls Tryd.prog 10 #[u, v] w fun e w' => e = .returned (.bool true) ∧ Ext w w' := by
  obtain ⟨A, ca, rfl, h1, h1', _⟩ := ha.form
  obtain ⟨B, cb, rfl, h2, h2', _⟩ := hb.form
  have hl1 : ((L.length : Int) != (L.length : Int)) = false := by simp
  go_enter Tryd.func10, Tryd.ntmps10
  go_wp2
  go_loopw [5] (fun i wr => ∃ k : Nat, k ≤ L.length ∧ i = .int .i64 k ∧ Ext w wr) (fun i _ => L.length - (intOf i).toNat)
  case atStart => exact ⟨0, Nat.zero_le _, rfl, Ext.refl _⟩
  case round =>
    obtain ⟨k, hk, rfl, hx⟩ := hrel
    by_cases hlt : k < L.length
    · obtain ⟨b, off, rfl, hc⟩ := ha.at hlt
      obtain ⟨b', off', rfl, hc'⟩ := hb.at (k := k) hlt
      have c0 := hx.cell ((hc k (by omega)).trans (svBs_get L k hlt))
      have c0' := hx.cell ((hc' k (by omega)).trans (svBs_get L k hlt))
      clear hc hc' ha hb
      generalize bsS L[k] = s at *
      have hne : (s.toList != s.toList) = false := by simp
      go_wp2
      go_quiet (fail)
      go_wp2
      go_roundw
      case rel => exact ⟨k + 1, by omega, by go_num, hx.trans (Ext.drewN _ _)⟩
      case measure => simp [intOf]; omega
    · go_wp2
      go_ret
      exact ⟨rfl, hx⟩
end Go.Proofs.YtkbpchdncljlbaaDoor
end
section
set_option linter.unusedSimpArgs false
set_option linter.unusedVariables false
namespace Go.Proofs.YtkbpchdncljlbaaDoor
open Go Go.RowKit Go.Proofs
set_option maxHeartbeats 400000
theorem MTR.len {m : MultiD} {ws : List (List Int)} {n : Int} {L : List (List UInt8)} {k : Int} (h : MTR m ws n L k) : L.length ≤ 601 := by
  rcases h with ⟨_, rfl, _⟩ | ⟨_, _, rfl, _⟩ | ⟨_, ⟨hb, _⟩, ⟨i, hE, rfl, _⟩ | ⟨i, _, rfl, _⟩⟩
  · simp
  · simp
  · have a := hE.le
    have b := inB_iff.1 hb
    simp only [List.length_map, List.length_range]
    omega
  · simp
/-- A list of words of one's own as the texts of a run ask for it. -/
theorem words_own {base : Nat} {w : World} {v : Value} {ws : List (List Int)} (h : OwnIntRows base w v ws) (hn : ws.length + tot ws ≤ 1048576) : ∃ vs, Row w 1 v ws.length vs ∧ ∀ i, (h : i < ws.length) → ∃ u, vs[i]? = some u ∧ Ints w u ws[i] ∧ Flat u ∧ ws[i].length ≤ 1048576 := by
  obtain ⟨vs, h1, h2, _⟩ := h
  refine ⟨vs, ownsRow_row h1, fun i hi => ?_⟩
  obtain ⟨u, e, o⟩ := h2 i hi
  have a := tot_take_succ ws i hi
  have b := tot_take_le ws (i + 1)
  exact ⟨u, e, o.ints, o.flat, by omega⟩
set_option maxRecDepth 20000 in
set_option maxHeartbeats 4000000 in
theorem law16_c (v wv : Value) (m : MultiD) (ws : List (List Int)) (n : Int) (w : World) (h : Mult w v m) (h' : IntRows w wv ws) (hTb : Tab w) :
    Calls Tryd.prog 3 #[v, wv, .int .i64 n] w fun e w' => e = .returned (.bool true) ∧ Ext w w' := by
  obtain ⟨rv, rfl, hr⟩ := h
  obtain ⟨Ar, cr, rfl, _, _⟩ := hr.form
  obtain ⟨Aw, cw, rfl, _, _⟩ := h'.form
  obtain ⟨g, hg⟩ : ∃ g, w.heap.size = g := ⟨_, rfl⟩
  obtain ⟨W, hW⟩ : ∃ W, W = w.alloc (.cells #[.int .i64 m.tp, .int .i64 m.sy, .int .i64 m.st, .slice Ar m.rules.length cr] 24) := ⟨_, rfl⟩
  have hx0 : Ext w W := by rw [hW]; exact Ext.alloc _ _
  have bM : Blk W g 24 #[.int .i64 m.tp, .int .i64 m.sy, .int .i64 m.st, .slice Ar m.rules.length cr] := by rw [hW]; exact Blk.new _ _ _ _ hg
  have SZ := szMulti_c (.agg #[.int .i64 m.tp, .int .i64 m.sy, .int .i64 m.st, .slice Ar m.rules.length cr]) m 1048576 W ⟨_, rfl, hr.ext hx0⟩ (by omega) (by omega)
  go_enter Tryd.func3, Tryd.ntmps3
  go_wp2_with fail
  try rw [← hW]
  try rw [hg]
  clear hW
  refine SZ.mono ?_
  rintro e w1 ⟨rfl, hx1⟩
  have hX1 := hx0.trans hx1
  by_cases hbig : (1048576 : Int) < ((m.rules.length + totM m.rules : Nat) : Int)
  · rw [szF_no hbig]
    go_wp2
    go_ret
    exact ⟨rfl, hX1⟩
  · rw [szF_yes hbig]
    have hlen : m.rules.length + totM m.rules ≤ 1048576 := by omega
    obtain ⟨lf, hlf⟩ : ∃ l, (1048576 : Int) - ((m.rules.length + totM m.rules : Nat) : Int) = l := ⟨_, rfl⟩
    rw [hlf]
    have hlf0 : 0 ≤ lf := by omega
    have hlf1 : lf ≤ 1048576 := by omega
    have SW := szInt64SS_c _ ws lf w1 (h'.ext hX1) hlf0 hlf1
    clear hlf hbig SZ
    go_wp2_with fail
    refine SW.mono ?_
    rintro e _ ⟨rfl, rfl⟩
    by_cases hbig : lf < ((ws.length + tot ws : Nat) : Int)
    · rw [szF_no hbig]
      go_wp2
      go_ret
      exact ⟨rfl, hX1⟩
    · rw [szF_yes hbig]
      have hwl : ws.length + tot ws ≤ 1048576 := by omega
      obtain ⟨l2, hl2⟩ : ∃ l, lf - ((ws.length + tot ws : Nat) : Int) = l := ⟨_, rfl⟩
      rw [hl2]
      have hl20 : 0 ≤ l2 := by omega
      have bM1 := bM.ext hx1
      clear hl2 hbig SW
      have m0 := bM1.cell 0
      have m1 := bM1.cell 1
      have m2 := bM1.cell 2
      have m3 := bM1.cell 3
      simp only [List.getElem?_toArray, List.getElem?_cons_zero, List.getElem?_cons_succ] at m0 m1 m2 m3
      have TM := toMulti_c (.agg #[.int .i64 m.tp, .int .i64 m.sy, .int .i64 m.st, .slice Ar m.rules.length cr]) m w1 ⟨_, rfl, hr.ext hX1⟩ hlen
      -- region 8
      go_wp2_with fail
      refine TM.mono ?_
      rintro e wA ⟨rA, rfl, oA, hxA⟩
      obtain ⟨AA, cA, rfl, _, _⟩ := oA.form
      have hXA := hX1.trans hxA
      have TW := toInt64SS_c _ ws wA (h'.ext hXA) hwl
      clear TM
      go_wp2_with fail
      refine TW.mono ?_
      rintro e wB ⟨uB, rfl, oB, hxB⟩
      obtain ⟨vsB, rB, iB⟩ := words_own oB hwl
      obtain ⟨AB, cB, rfl, _, _, _⟩ := rB.form
      have hXB := hXA.trans hxB
      have MS := MultiTextsS_c m (.agg #[.int .i64 m.tp, .int .i64 m.sy, .int .i64 m.st, .slice AA m.rules.length cA]) _ ws vsB n wB ⟨_, rfl, (oA.ext hxB).own.rules⟩ rB (fun i hi => by
        obtain ⟨u, e, iu, _, hl⟩ := iB i hi
        exact ⟨u, e, iu, hl⟩)
      clear TW
      go_wp2_with fail
      refine MS.mono ?_
      rintro e wS ⟨⟨L, kk, tvS, rfl, hSS, oS⟩, hxS⟩
      obtain ⟨AS, cS, rfl, _, _, _⟩ := (ownsRow_row oS).form
      have hXC := hXB.trans hxS
      have HSS := Lib.hid hSS
      have iS := ownsRow_row oS
      have bMC := (bM1.ext hxA).ext (hxB.trans hxS)
      have m0 := bMC.cell 0
      have m1 := bMC.cell 1
      have m2 := bMC.cell 2
      have m3 := bMC.cell 3
      simp only [List.getElem?_toArray, List.getElem?_cons_zero, List.getElem?_cons_succ] at m0 m1 m2 m3
      have T5 := toMulti_c (.agg #[.int .i64 m.tp, .int .i64 m.sy, .int .i64 m.st, .slice Ar m.rules.length cr]) m wS ⟨_, rfl, hr.ext hXC⟩ hlen
      clear MS hSS oS oA oB rB iB
      -- region 9
      go_wp2_with fail
      refine T5.mono ?_
      rintro e w5 ⟨rv5, rfl, o5, hx5⟩
      obtain ⟨A5, c5, rfl, _, _⟩ := o5.form
      obtain ⟨W5, hW5⟩ : ∃ W, W = w5.alloc (.cells #[.int .i64 m.tp, .int .i64 m.sy, .int .i64 m.st, .slice A5 m.rules.length c5] 33) := ⟨_, rfl⟩
      have hxW5 : Ext w5 W5 := by rw [hW5]; exact Ext.alloc _ _
      have bX : Blk W5 w5.heap.size 33 #[.int .i64 m.tp, .int .i64 m.sy, .int .i64 m.st, .slice A5 m.rules.length c5] := by rw [hW5]; exact Blk.new _ _ _ _ rfl
      have hE5 := hx5.trans hxW5
      have oX := o5.ext hxW5
      have T6 := toInt64SS_c _ ws W5 (h'.ext (hXC.trans hE5)) hwl
      clear T5 m0 m1 m2 m3
      -- region 10
      go_wp2_with fail
      try rw [← hW5]
      clear hW5
      refine T6.mono ?_
      rintro e w6 ⟨u6, rfl, o6, hx6⟩
      obtain ⟨vs6, r6, i6⟩ := words_own o6 hwl
      obtain ⟨A6, c6, rfl, _, _, _⟩ := r6.form
      have hE6 := hE5.trans hx6
      have oX6 := oX.ext hx6
      have bX6 := bX.ext hx6
      have m0 := bX6.cell 0
      have m1 := bX6.cell 1
      have m2 := bX6.cell 2
      have m3 := bX6.cell 3
      simp only [List.getElem?_toArray, List.getElem?_cons_zero, List.getElem?_cons_succ] at m0 m1 m2 m3
      have MT := MultiTexts_c m (.agg #[.int .i64 m.tp, .int .i64 m.sy, .int .i64 m.st, .slice A5 m.rules.length c5]) _ ws vs6 n w6 ⟨_, rfl, oX6.own.rules⟩ r6 (fun i hi => by
        obtain ⟨u, e, iu, hf, _⟩ := i6 i hi
        exact ⟨u, e, iu, hf⟩) (hTb.ext (hXC.trans hE6))
      clear T6
      -- region 11
      go_wp2_with fail
      refine MT.mono ?_
      rintro e w7 ⟨⟨L7, k7, tv7, rfl, h7, o7⟩, hx7⟩
      obtain ⟨hL, hK⟩ := MTR.unique HSS.out h7
      subst hL hK
      clear h7 MT m0 m1 m2 m3
      obtain ⟨A7, c7, rfl, _, _, _⟩ := (ownsRow_row o7).form
      have hE7 := hE6.trans hx7
      have hcc : (kk != kk) = false := by simp
      have EQ := eqStringS_c _ _ _ L (ownsRow_row o7) (iS.ext hE7)
      -- region 12
      go_wp2_with fail
      refine EQ.mono ?_
      rintro e w8 ⟨rfl, hx8⟩
      have hE8 := hE7.trans hx8
      have o8 := ownsRow_ext o7 hx8
      have hXd := hE8.trans (Ext.drew w8)
      have bX8 := (bX6.ext (hx7.trans hx8)).ext (Ext.drew w8)
      have bM8 := bMC.ext hXd
      have c0 := bX8.cell 0
      have c1 := bX8.cell 1
      have c2 := bX8.cell 2
      have c3 := bX8.cell 3
      have d0 := bM8.cell 0
      have d1 := bM8.cell 1
      have d2 := bM8.cell 2
      have d3 := bM8.cell 3
      simp only [List.getElem?_toArray, List.getElem?_cons_zero, List.getElem?_cons_succ] at c0 c1 c2 c3 d0 d1 d2 d3
      have T9 := toMulti_c (.agg #[.int .i64 m.tp, .int .i64 m.sy, .int .i64 m.st, .slice Ar m.rules.length cr]) m w8.drew ⟨_, rfl, hr.ext (hXC.trans hXd)⟩ hlen
      have oX8 := (oX6.ext (hx7.trans hx8)).ext (Ext.drew w8)
      clear EQ
      -- region 14
      go_wp2_with fail
      refine wp_region_ordT 4 (readsT [0, 1] (.stir 2 (.stir 3 .done))) (by kernel_rfl) (by kernel_rfl) (fun _ _ _ _ _ h => h) ?_
      simp only [readsT]
      iterate 2 (refine wpOrdT_read (v := ?_) (by rfl) (Or.inl ⟨by rfl, fun x hx => ?_⟩) ?_; rotate_left; (· have a0 := hx.cell c0; have a1 := hx.cell c1; have a2 := hx.cell c2; have a3 := hx.cell c3; have b0 := hx.cell d0; have b1 := hx.cell d1; have b2 := hx.cell d2; have b3 := hx.cell d3; go_simp; try with_reducible rfl); try simp only [Act.put, List.setIfInBounds_toArray, List.set_cons_zero, List.set_cons_succ])
      refine wpOrdT_keep (by rfl) (fun K hK => ?_)
      go_simp
      refine T9.mono ?_
      rintro e w9 ⟨rv9, rfl, o9, hx9⟩
      obtain ⟨A9, c9, rfl, _, _⟩ := o9.form
      refine hK _ _ hx9 ?_
      clear hK K
      refine wpOrdT_keep (by rfl) (fun K hK => ?_)
      go_simp
      refine (eqMulti_c _ _ m w9 ⟨_, rfl, (oX8.ext hx9).own.rules⟩ ⟨_, rfl, o9.own.rules⟩).mono ?_
      rintro e w10 ⟨rfl, hx10⟩
      refine hK _ _ (hx9.trans hx10) ?_
      clear hK K
      refine wpOrdT_done ?_
      try simp only [List.drop_succ_cons, List.drop_zero]
      have hx810 : Ext w8 w10 := (Ext.drew w8).trans (hx9.trans hx10)
      have hE10 := hE8.trans hx810
      have T11 := toInt64SS_c _ ws w10 (h'.ext (hXC.trans hE10)) hwl
      clear T9 c0 c1 c2 c3 d0 d1 d2 d3
      -- region 16
      go_wp2_with fail
      refine T11.mono ?_
      rintro e w11 ⟨u11, rfl, o11, hx11⟩
      have hE11 := hE10.trans hx11
      obtain ⟨A11, c11, rfl, _, _⟩ := o11.rows.form
      have EQ := eqInt64SS_c w11 _ _ ws ws ((o6.ext (hx7.trans (hx8.trans (hx810.trans hx11)))).rows) o11.rows
      rw [lEq_true rfl] at EQ
      clear T11
      go_wp2_with fail
      refine EQ.mono ?_
      rintro e w12 ⟨rfl, hx12⟩
      have hE12 := hE11.trans hx12
      have hx5t : Ext w5 w12 := hxW5.trans (hx6.trans (hx7.trans (hx8.trans (hx810.trans (hx11.trans hx12)))))
      have bX12 := bX6.ext (hx7.trans (hx8.trans (hx810.trans (hx11.trans hx12))))
      have m0 := bX12.cell 0
      have m1 := bX12.cell 1
      have m2 := bX12.cell 2
      have m3 := bX12.cell 3
      simp only [List.getElem?_toArray, List.getElem?_cons_zero, List.getElem?_cons_succ] at m0 m1 m2 m3
      have MK := markMulti_c wS.heap.size m.tp m.sy m.st _ m.rules 1 w5 w12 o5 hx5t hE12.size (by omega) (by omega)
      clear EQ
      -- region 19
      go_wp2_with fail
      refine MK.mono ?_
      rintro e w13 ⟨rfl, hb13, ht13⟩
      have hE13 : Ext wS w13 := Below.trans hE12 hb13
      have hx6t : Ext w6 w12 := hx7.trans (hx8.trans (hx810.trans (hx11.trans hx12)))
      have hs65 : w5.heap.size ≤ W5.heap.size := hxW5.size
      have hs66 : W5.heap.size ≤ w6.heap.size := hx6.size
      have o12 := ownsRow_ext o8 (hx810.trans (hx11.trans hx12))
      have o13 := own_same (w' := w13) o12 (fun q hq => ht13 q (by have := (o8.lt q hq).1; omega) (o12.lt q hq).2)
      have hs13 : W5.heap.size ≤ w13.heap.size := by have a := hx6t.size; have b := hb13.size; omega
      have MW := markInt64SST_c W5.heap.size _ ws (1 + ((2 * m.rules.length + totM m.rules : Nat) : Int)) w6 w13 o6 (fun q h1 h2 => (ht13 q (by omega) (Nat.lt_of_lt_of_le h2 hx6t.size)).trans (Below.block hx6t q h2)) hs13 (by omega) (by omega)
      clear MK m0 m1 m2 m3
      -- region 20
      go_wp2_with fail
      refine MW.mono ?_
      rintro e w14 ⟨rfl, hb14, ht14⟩
      have hE14 : Ext wS w14 := Below.trans hE13 (Below.mono hb14 hE5.size)
      have o14 := own_same (w' := w14) o13 (fun q hq => ht14 q (o8.lt q hq).1 (o13.lt q hq).2)
      have hk1 : decide ((1 : Int) + ((2 * m.rules.length + totM m.rules : Nat) : Int) + (tot ws : Int) < 0) = false := decide_eq_false (by omega)
      have EQ := eqStringS_c _ _ _ L (ownsRow_row o14) (iS.ext hE14)
      have HLE : Hid (L.length ≤ 601) := Lib.hid HSS.out.len
      clear MW
      -- region 21
      go_wp2_with fail
      refine EQ.mono ?_
      rintro e w15 ⟨rfl, hx15⟩
      have hE15 := hE14.trans hx15
      have o15 := ownsRow_ext o14 hx15
      have MSt := markStringS_c w6.heap.size _ L 1 w15 o15 (by omega) (by have := HLE.out; omega)
      clear EQ
      -- region 24
      go_wp2_with fail
      refine MSt.mono ?_
      rintro e w16' ⟨rfl, oN, hg16⟩
      have hS6 : wS.heap.size ≤ w6.heap.size := hE6.size
      have hE16' : Ext wS w16' := hE15.grown hg16 (fun g hg => Nat.le_trans hS6 (o15.lt g hg).1)
      have hNL := Lib.hid (mkL_length 1 L.length)
      have iN := ownsRow_row oN
      have HS := heldStringS_c _ 1 L.length w16' iN (by omega) (by have := HLE.out; omega)
      clear MSt
      -- region 26
      go_wp2_with fail
      refine HS.mono ?_
      rintro e w16 ⟨rfl, hx16⟩
      have hE16 := hE16'.trans hx16
      have hXw16 := hXC.trans hE16
      have bM16 := bMC.ext hE16
      have m0 := bM16.cell 0
      have m1 := bM16.cell 1
      have m2 := bM16.cell 2
      have m3 := bM16.cell 3
      simp only [List.getElem?_toArray, List.getElem?_cons_zero, List.getElem?_cons_succ] at m0 m1 m2 m3
      have hk2 : decide ((1 : Int) + (L.length : Int) < 0) = false := decide_eq_false (by omega)
      have TM := toMulti_c (.agg #[.int .i64 m.tp, .int .i64 m.sy, .int .i64 m.st, .slice Ar m.rules.length cr]) m w16 ⟨_, rfl, hr.ext hXw16⟩ hlen
      clear HS
      -- region 31
      go_wp2_with fail
      refine TM.mono ?_
      rintro e wa ⟨ra, rfl, oa, hxa⟩
      obtain ⟨Aa, ca, rfl, _, _⟩ := oa.form
      have TW := toInt64SS_c _ ws wa (h'.ext (hXw16.trans hxa)) hwl
      clear TM m0 m1 m2 m3
      go_wp2_with fail
      refine TW.mono ?_
      rintro e wb ⟨ub, rfl, ob, hxb⟩
      obtain ⟨vsb, rb, ib⟩ := words_own ob hwl
      obtain ⟨Ab, cb, rfl, _, _, _⟩ := rb.form
      have MT := MultiTexts_c m (.agg #[.int .i64 m.tp, .int .i64 m.sy, .int .i64 m.st, .slice Aa m.rules.length ca]) _ ws vsb n wb ⟨_, rfl, (oa.ext hxb).own.rules⟩ rb (fun i hi => by
        obtain ⟨u, e, iu, hf, _⟩ := ib i hi
        exact ⟨u, e, iu, hf⟩) (hTb.ext (hXw16.trans (hxa.trans hxb)))
      clear TW
      go_wp2_with fail
      refine MT.mono ?_
      rintro e wh ⟨⟨L2, k2, tvH, rfl, hHH, oH⟩, hxH⟩
      obtain ⟨hL, hK⟩ := MTR.unique HSS.out hHH
      subst hL hK
      clear hHH MT
      obtain ⟨AH, cH, rfl, _, _, _⟩ := (ownsRow_row oH).form
      have hxh := hxa.trans (hxb.trans hxH)
      have hEH := hE16.trans hxh
      have EQ := eqStringS_c _ _ _ L (ownsRow_row oH) (iS.ext hEH)
      -- region 32
      go_wp2_with fail
      refine EQ.mono ?_
      rintro e w17 ⟨rfl, hx17⟩
      have hLast := (hx16.trans hxh).trans hx17
      have HS := heldStringS_c _ 1 L.length w17 (iN.ext hLast) (by omega) (by have := HLE.out; omega)
      clear EQ
      -- region 35
      go_wp2_with fail
      refine HS.mono ?_
      rintro e w18 ⟨rfl, hx18⟩
      go_wp2
      go_ret
      exact ⟨rfl, ((hXC.trans hE16').trans hLast).trans hx18⟩
end Go.Proofs.YtkbpchdncljlbaaDoor
end
section
namespace Go.Proofs.YtkbpchdncljlbaaDoor
open Go Go.RowKit Go.ChangeShapes Go.WideShapes Go.Deep Go.Joins
section
variable {H : Type} {enc : TypeId × Value → H} {w : World}
theorem open_introws {t : TypeId} {fuel : Nat} {v : Value} {x : DataW H × List MemPlace} (ht : Tryd.prog.underlying t = some (.slice 44)) (h : DataW.trod enc Tryd.prog w 0 (fun _ => true) true fuel t [v] = some x) : ∃ xss, IntRows w v xss := by
  obtain ⟨ls, xs, h1, h2⟩ := open_rows (size := 1) (fun cs (a : List Int) => ∃ u, cs = [u] ∧ Ints w u a) ht (by kernel_rfl) (by omega) (fun n cs y hy => by
    rcases DataW.trod_slice Tryd.underlying44 hy with ⟨rfl, _⟩ | ⟨a, len, cap, _, _, _, _, rfl, _⟩
    · obtain ⟨zs, hz⟩ := open_ints Tryd.underlying44 hy
      exact ⟨zs, _, rfl, hz⟩
    · obtain ⟨zs, hz⟩ := open_ints Tryd.underlying44 hy
      exact ⟨zs, _, rfl, hz⟩) h
  have hl : xs.length = ls.length := by obtain ⟨_, _, _, _, _, q⟩ := h1.form; omega
  refine ⟨ls, xs, h1, fun i hi => ?_⟩
  obtain ⟨u, e, hu⟩ := h2 i hi
  refine ⟨u, ?_, hu⟩
  have hi' : i < xs.length := by omega
  rw [Nat.mul_one, List.drop_eq_getElem_cons hi'] at e
  simp only [List.take_succ_cons, List.take_zero, List.cons.injEq, and_true] at e
  rw [List.getElem?_eq_getElem hi', e]
end
end Go.Proofs.YtkbpchdncljlbaaDoor
end
