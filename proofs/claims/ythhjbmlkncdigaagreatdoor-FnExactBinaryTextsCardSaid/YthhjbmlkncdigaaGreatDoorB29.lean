/- Contract of the program's BinaryTexts. The library's table is as its text lays it.
Words and contracts: the reference's bits, and what a move of the machine with two symbols comes to.
Contract of the reference's moves of the machine with two symbols where a bit is read. -/
import Derived.Test.YthhjbmlkncdigaaGreatDoorB27
import Derived.Test.YthhjbmlkncdigaaGreatDoorB28
import Derived.Test.YthhjbmlkncdigaaGreatDoorB05
import Derived.Test.YthhjbmlkncdigaaGreatDoorB23
import Derived.Test.YthhjbmlkncdigaaGreatDoorB25
import Derived.Test.YthhjbmlkncdigaaGreatDoorB03
import Derived.Test.YthhjbmlkncdigaaGreatDoorB15
import Derived.Test.YthhjbmlkncdigaaGreatDoorB01
section
set_option linter.unusedSimpArgs false
set_option linter.unusedVariables false
namespace Go.Proofs.YthhjbmlkncdigaaGreatDoor
open Go Go.RowKit Go.Proofs
set_option maxHeartbeats 400000
theorem startBi_some {m : MachD} {c : ConfD} (h : (startBi m c).2 = 0) : ∃ s, binB m = some s ∧ confB (binM s) (startBi m c).1 = true := by
  unfold startBi at h ⊢
  cases hf : binB m with
  | none => rw [hf] at h; simp at h
  | some s =>
    rw [hf] at h
    refine ⟨s, rfl, ?_⟩
    simp only at h ⊢
    split at h
    · rename_i h1
      rw [if_pos h1]
      split at h
      · rename_i h2
        rw [if_pos h2]
        exact h2
      · simp at h
    · simp at h
set_option maxRecDepth 20000 in
set_option maxHeartbeats 4000000 in
theorem BinaryTexts_c (w : World) (m : MachD) (c : ConfD) (n : Int) (mv lv rv : Value) (hr : Rules w mv m.rules) (hl : Ints w lv c.l) (hq : Ints w rv c.r) (fl : Flat lv) (fr : Flat rv) (hT : Tab w) :
    Calls Tryz.prog 9 #[.agg #[.int .i64 m.sy, .int .i64 m.st, mv], .agg #[.int .i64 c.q, lv, rv], .int .i64 n] w (TxRes w (BTxt m c n)) := by
  obtain ⟨Am, cm, rfl, _, _⟩ := hr.form
  obtain ⟨Al, cl, rfl, _, _⟩ := hl.form
  obtain ⟨Aq, cq, rfl, _, _⟩ := hq.form
  obtain ⟨k, hk⟩ : ∃ k, w.heap.size = k := ⟨_, rfl⟩
  obtain ⟨W, hW⟩ : ∃ W, W = (w.alloc (.cells #[.int .i64 m.sy, .int .i64 m.st, .slice Am m.rules.length cm] 35)).alloc (.cells #[.int .i64 c.q, .slice Al c.l.length cl, .slice Aq c.r.length cq] 37) := ⟨_, rfl⟩
  have hX : Ext w W := by rw [hW]; exact (Ext.alloc _ _).trans (Ext.alloc _ _)
  have bM : Blk W k 35 #[.int .i64 m.sy, .int .i64 m.st, .slice Am m.rules.length cm] := by rw [hW]; exact (Blk.new _ _ _ _ hk).alloc _
  have bC : Blk W (k + 1) 37 #[.int .i64 c.q, .slice Al c.l.length cl, .slice Aq c.r.length cq] := by rw [hW]; exact Blk.new _ _ _ _ (by simp [hk])
  have hV := ValidConfig_c _ _ m c W ⟨_, rfl, hr.ext hX⟩ ⟨_, _, rfl, hl.ext hX, hq.ext hX⟩
  obtain ⟨v, hv⟩ : ∃ v, (machOk m && confB m c) = v := ⟨_, rfl⟩
  obtain ⟨d, hd⟩ : ∃ d, inB n 0 599 = d := ⟨_, rfl⟩
  have hTC := fun w => textsCode_c v n w
  rw [hv] at hV
  rw [hd] at hTC
  have HV := Lib.hid hv
  have HD := Lib.hid hd
  clear hv hd
  go_enter Tryz.func9, Tryz.ntmps9
  go_wp2_with fail
  try rw [← hW]
  try rw [hk]
  clear hW
  refine hV.mono ?_
  rintro e w1 ⟨rfl, hx1⟩
  go_wp2_with fail
  refine (hTC w1).mono ?_
  rintro e w' ⟨rfl, rfl⟩
  have hX1 := hX.trans hx1
  have bM1 := bM.ext hx1
  have bC1 := bC.ext hx1
  have m0 := bM1.cell 0
  have m1 := bM1.cell 1
  have m2 := bM1.cell 2
  have c0 := bC1.cell 0
  have c1 := bC1.cell 1
  have c2 := bC1.cell 2
  simp only [List.getElem?_toArray, List.getElem?_cons_zero, List.getElem?_cons_succ] at m0 m1 m2 c0 c1 c2
  cases v with
  | false =>
    have HF : Hid (BTxt m c n [] 1) := by
      unfold Hid BTxt
      rw [HV.out]
      exact ⟨rfl, rfl⟩
    rw [show codeT false d = 1 from rfl]
    go_wp2
    go_ret2
    exact TxRes.none HF.out hX1
  | true =>
    cases d with
    | false =>
      have HF : Hid (BTxt m c n [] 2) := by
        unfold Hid BTxt
        rw [HV.out, HD.out]
        exact ⟨rfl, rfl⟩
      rw [show codeT true false = 2 from rfl]
      go_wp2
      go_ret2
      exact TxRes.none HF.out hX1
    | true =>
      rw [show codeT true true = 0 from rfl]
      have hmc : machOk m = true ∧ confB m c = true := by
        have := HV.out
        simpa [Bool.and_eq_true] using this
      have hn := inB_iff.1 HD.out
      have HM := Lib.hid hmc.1
      have HC := Lib.hid hmc.2
      clear hmc
      have HF0 : Hid (∀ L kk, (if (startBi m c).2 = 0 then ∃ s, binB m = some s ∧ TRun (binM s) (startBi m c).1 n.toNat (txtB m s) L kk else L = [] ∧ kk = (startBi m c).2) → BTxt m c n L kk) := by
        unfold Hid
        intro L kk h
        unfold BTxt
        rw [HV.out, HD.out]
        exact h
      obtain ⟨⟨⟨sq, sl, sr⟩, sc⟩, hst⟩ : ∃ R, startBi m c = R := ⟨_, rfl⟩
      have HST := Lib.hid hst
      have hFC := BinaryConfig_c m c _ _ _ w1 HM.out HC.out (hr.ext hX1) (hl.ext hX1) (hq.ext hX1) fl fr
      rw [hst] at hFC HF0
      simp only at HF0
      clear hst hTC hV
      go_wp2_with fail
      refine hFC.mono ?_
      rintro e w2 ⟨lv2, rv2, rfl, ol2, or2, ap2, hx2⟩
      simp only at ol2 or2
      obtain ⟨A2, k2, rfl, _, _⟩ := ol2.ints.form
      obtain ⟨B2, j2, rfl, _, _⟩ := or2.ints.form
      by_cases hs0 : sc = 0
      · subst hs0
        obtain ⟨W2, hW2⟩ : ∃ W2, W2 = w2.alloc (.cells #[.int .i64 sq, .slice A2 sl.length k2, .slice B2 sr.length j2] 37) := ⟨_, rfl⟩
        have hX2 : Ext w2 W2 := by rw [hW2]; exact Ext.alloc _ _
        have bS : Blk W2 w2.heap.size 37 #[.int .i64 sq, .slice A2 sl.length k2, .slice B2 sr.length j2] := by rw [hW2]; exact Blk.new _ _ _ _ rfl
        obtain ⟨s, hs, hcf⟩ := startBi_some (show (startBi m c).2 = 0 by rw [HST.out])
        rw [HST.out] at hcf
        have hE2 := hx2.trans hX2
        have hX3 := hX1.trans hE2
        have hFo := binary_c (.agg #[.int .i64 m.sy, .int .i64 m.st, .slice Am m.rules.length cm]) m W2 ⟨_, rfl, hr.ext hX3⟩ HM.out
        have m0 := hE2.cell m0
        have m1 := hE2.cell m1
        have m2 := hE2.cell m2
        rw [hW2] at m0 m1 m2
        clear c0 c1 c2
        go_wp2_with fail
        try rw [← hW2]
        clear hW2 m0 m1 m2
        refine hFo.mono ?_
        rintro e w3 ⟨hres, hx3⟩
        rcases hres with ⟨hn0, _⟩ | ⟨s', bx, bm, rv3, pv3, hs', rfl, hpl, hok, l1, l2⟩
        · rw [hs] at hn0; cases hn0
        · rw [hs] at hs'
          injection hs' with hs'
          subst hs'
          obtain ⟨Ar, cr, rfl, _, _⟩ := hpl.rules.rules.form
          obtain ⟨W3, hW3⟩ : ∃ W3, W3 = w3.alloc (.cells #[.pointer (some ⟨bx, 0, none⟩)] 71) := ⟨_, rfl⟩
          have hXa : Ext w3 W3 := by rw [hW3]; exact Ext.alloc _ _
          have hXd := hXa.trans (Ext.drew W3)
          have bP : Blk W3.drew w3.heap.size 71 #[.pointer (some ⟨bx, 0, none⟩)] := by rw [hW3]; exact Blk.new _ _ _ _ rfl
          have HPL := hpl.ext hXd
          have hE4 := hE2.trans (hx3.trans hXd)
          have hX4 := hX1.trans hE4
          have bS4 := bS.ext (hx3.trans hXd)
          have bM4 := bM1.ext hE4
          have hok1 := (bin_ok HM.out hs).1
          have hok2 := (bin_ok HM.out hs).2
          have hHM := HM.out
          have hT4 := hT.ext hX4
          have hENV : BiEnv W3.drew w3.heap.size k m s := ⟨⟨bx, _, _, _, _, bP, HPL⟩, _, _, bM4, hr.ext hX4⟩
          have hRT : Calls Tryz.prog 32 #[.agg #[.int .i64 2, .int .i64 s.1.length, .slice Ar s.2.length cr], .agg #[.int .i64 sq, .slice A2 sl.length k2, .slice B2 sr.length j2], .int .i64 (n.toNat : Int), fnBi w3.heap.size k] W3.drew (TxtOut W3.drew (binM s) ⟨sq, sl, sr⟩ n.toNat (txtB m s)) :=
            runTextsBi_c W3.drew (binM s) ⟨sq, sl, sr⟩ _ _ _ n.toNat w3.heap.size k (txtB m s) (by omega) hok1 hcf HPL.rules.rules (ol2.ext (hX2.trans (hx3.trans hXd))).ints (or2.ext (hX2.trans (hx3.trans hXd))).ints ol2.flat or2.flat
              (fun i v1 v2 X hrun hx h1 h2 f1 f2 => binText_c w3.heap.size k m s _ v1 v2 X hHM hok2 (hENV.ext hx) (run_confM hok1 hcf hrun) h1 h2 f1 f2 (hT4.ext hx))
          rw [Int.toNat_of_nonneg hn.1] at hRT
          have HS := Lib.hid hs
          have p0 := bP.cell 0
          have t0 := HPL.blk.cell 0
          have t1 := HPL.blk.cell 1
          have t2 := HPL.blk.cell 2
          have g0 := bS4.cell 0
          have g1 := bS4.cell 1
          have g2 := bS4.cell 2
          simp only [List.getElem?_toArray, List.getElem?_cons_zero, List.getElem?_cons_succ] at p0 t0 t1 t2 g0 g1 g2
          have hXs : w.heap.size ≤ W3.drew.heap.size := hX4.size
          clear hs hok1 hENV hFo hFC hcf
          go_wp2_with fail
          try rw [← hW3]
          clear hW3
          refine wp_region_ordT 10 (readsT [0, 1, 2, 3, 4, 5] (.stir 6 (.stir 7 (readsT [8, 9] .done)))) (by kernel_rfl) (by kernel_rfl) (fun _ _ _ _ _ h => h) ?_
          simp only [readsT]
          iterate 6 (refine wpOrdT_read (v := ?_) (by rfl) (Or.inl ⟨by rfl, fun x hx => ?_⟩) ?_; rotate_left; (· have a0 := hx.cell p0; have a1 := hx.cell t0; have a2 := hx.cell t1; have a3 := hx.cell t2; have a4 := hx.cell g0; have a5 := hx.cell g1; have a6 := hx.cell g2; go_simp; try with_reducible rfl); try simp only [Act.put, List.setIfInBounds_toArray, List.set_cons_zero, List.set_cons_succ])
          refine wpOrdT_keep (by rfl) (fun K hK => ?_)
          go_simp
          refine hK _ _ (Ext.refl _) ?_
          clear hK K
          refine wpOrdT_keep (by rfl) (fun K hK => ?_)
          go_simp
          go_at_call 32
          refine hRT.mono ?_
          rintro e w5 ⟨L, kk, tv, rfl, ho5, hTR, hx5⟩
          have HTR := Lib.hid hTR
          clear hTR
          obtain ⟨A5, c5, rfl, _, _, _⟩ := (ownsRow_row ho5).form
          refine hK _ _ hx5 ?_
          clear hK K
          iterate 2 (refine wpOrdT_read (v := ?_) (by rfl) (Or.inl ⟨by rfl, fun x hx => ?_⟩) ?_; rotate_left; (· go_simp; try with_reducible rfl); try simp only [Act.put, List.setIfInBounds_toArray, List.set_cons_zero, List.set_cons_succ])
          refine wpOrdT_done ?_
          try simp only [List.drop_succ_cons, List.drop_zero]
          have HFin : Hid (TxRes w (BTxt m c n) (.returned (.tuple #[.slice A5 L.length c5, .int .i64 kk])) w5) := ⟨L, kk, _, rfl, ownsRow_base ho5 hXs, HF0.out L kk (by (first | rw [if_pos trivial] | rw [if_pos rfl]); exact ⟨s, HS.out, HTR.out⟩), hX4.trans hx5⟩
          clear ho5
          go_wp2
          go_ret2
          exact HFin.out
      · have HF : Hid (BTxt m c n [] sc) := Lib.hid (HF0.out [] sc (by rw [if_neg hs0]; exact ⟨rfl, rfl⟩))
        have hne : (sc != 0) = true := by simpa using hs0
        have hX3 := (hX1.trans hx2).trans (Ext.alloc w2 (.cells #[.int .i64 sq, .slice A2 sl.length k2, .slice B2 sr.length j2] 37))
        clear HF0 hs0
        go_wp2
        go_ret2
        exact TxRes.none HF.out hX3
end Go.Proofs.YthhjbmlkncdigaaGreatDoor
end
section
set_option linter.unusedSimpArgs false
set_option linter.unusedVariables false
namespace Go.Proofs.YthhjbmlkncdigaaGreatDoor
open Go Go.RowKit Go.Proofs
set_option maxHeartbeats 400000
def encB (p : BP) : List Int := if p.k = 0 then [0, p.a, p.b, p.c] else [p.k, p.a, p.b]
theorem encB_inj {m : MachD} {x y : BP} (hx : BiOk m x) (hy : BiOk m y) (h : encB x = encB y) : x = y := by
  have kx : x.k = 0 ∨ x.c = 0 := by
    rcases hx with ⟨e, _⟩ | ⟨_, _, _, _, e⟩ | ⟨_, _, _, _, e⟩
    · exact .inl e
    · exact .inr e
    · exact .inr e
  have ky : y.k = 0 ∨ y.c = 0 := by
    rcases hy with ⟨e, _⟩ | ⟨_, _, _, _, e⟩ | ⟨_, _, _, _, e⟩
    · exact .inl e
    · exact .inr e
    · exact .inr e
  clear hx hy
  obtain ⟨k, a, b, c⟩ := x
  obtain ⟨k2, a2, b2, c2⟩ := y
  simp only [encB] at h kx ky
  split at h <;> split at h <;> simp at h
  · rename_i h1 h2
    obtain ⟨e1, e2, e3⟩ := h
    rw [h1, h2, e1, e2, e3]
  · rename_i h1 h2
    obtain ⟨e1, e2, e3⟩ := h
    rw [e1, e2, e3, kx.resolve_left h1, ky.resolve_left h2]
/-- What a move comes to. -/
def MoveResB (w : World) (a : ActG BP) (e : Ending) (w' : World) : Prop :=
  ((a.no = true ∧ e = .returned (.agg #[.bool false, .int .i64 0, .int .i64 0, .slice none 0 0])) ∨
    (a.no = false ∧ ∃ A c, e = .returned (.agg #[.bool true, .int .i64 a.w, .int .i64 a.m, .slice A (encB a.p).length c]) ∧ OwnInts w.heap.size w' (.slice A (encB a.p).length c) (encB a.p))) ∧ Ext w w'
theorem own_of_blk {w : World} {g base : Nat} {zs : List Int} (h : Blk w g 2 (ivs zs).toArray) (hb : base ≤ g) (hn : zs.length ≤ 1000) : OwnInts base w (.slice (some ⟨g, 0, none⟩) zs.length zs.length) zs := by
  refine ⟨by simp, .inr ⟨g, zs.length, (ivs zs).toArray, rfl, hb, h, Nat.le_refl _, by unfold maxLen; omega, by simp, by simp only [Nat.mul_one]; exact List.take_of_length_le (by simp)⟩⟩
theorem l13Go_c (a m : Int) (A : Option Addr) (n c : Nat) (w : World) :
    Calls Tryz.prog 122 #[.int .i64 a, .int .i64 m, .slice A n c] w fun e w' => e = .returned (.agg #[.bool true, .int .i64 a, .int .i64 m, .slice A n c]) ∧ Ext w w' := by
  go_enter Tryz.func122, Tryz.ntmps122
  go_wp2
  refine bodyPost_ret (v := .agg #[.bool true, .int .i64 a, .int .i64 m, .slice A n c]) (by simp [results, Tryz.results122, go_sem]) rfl ?_
  exact ⟨rfl, Ext.alloc _ _⟩
theorem moveB_done {w V w1 : World} {a m : Int} {g n : Nat} {zs : List Int} (hv : Ext w V) (hx : Ext V w1) (hg : Blk V g 2 (ivs zs).toArray) (hlt : w.heap.size < g) (hn : zs.length = n) (hn2 : n ≤ 1000) (p : BP) (hp : encB p = zs) :
    MoveResB w ⟨a, m, p, false⟩ (.returned (.agg #[.bool true, .int .i64 a, .int .i64 m, .slice (some ⟨g, 0, none⟩) n n])) ((((w1.setCell ⟨w.heap.size, 0, none⟩ (.bool true)).setCell ⟨w.heap.size, 1, none⟩ (.int .i64 a)).setCell ⟨w.heap.size, 2, none⟩ (.int .i64 m)).setCell ⟨w.heap.size, 3, none⟩ (.slice (some ⟨g, 0, none⟩) n n)) := by
  subst hp hn
  have o1 := own_of_blk (base := w.heap.size) (hg.ext hx) (by omega) hn2
  have hne : ∀ k, (Value.slice (some ⟨g, 0, none⟩) (encB p).length (encB p).length).ownBlock = some k → k ≠ w.heap.size := fun k hk => by simp [Value.ownBlock] at hk; omega
  exact ⟨.inr ⟨rfl, _, _, rfl, ownsRow_far (ownsRow_far (ownsRow_far (ownsRow_far o1 hne _) hne _) hne _) hne _⟩, (((Ext.setCell (Ext.trans hv hx) (Nat.le_refl _) _).setCell (Nat.le_refl _) _).setCell (Nat.le_refl _) _).setCell (Nat.le_refl _) _⟩
theorem moveB_none {w w1 : World} (hx : Ext w w1) : MoveResB w noB (.returned (.agg #[.bool false, .int .i64 0, .int .i64 0, .slice none 0 0])) ((((w1.setCell ⟨w.heap.size, 0, none⟩ (.bool false)).setCell ⟨w.heap.size, 1, none⟩ (.int .i64 0)).setCell ⟨w.heap.size, 2, none⟩ (.int .i64 0)).setCell ⟨w.heap.size, 3, none⟩ (.slice none 0 0)) :=
  ⟨.inl ⟨rfl, rfl⟩, (((Ext.setCell hx (Nat.le_refl _) _).setCell (Nat.le_refl _) _).setCell (Nat.le_refl _) _).setCell (Nat.le_refl _) _⟩
theorem l13Bit_c (s b i : Int) (w : World) (b1 : 1 ≤ b) (b3 : b ≤ 3) (i0 : 0 ≤ i) (i1 : i < b) (s0 : 0 ≤ s) (s7 : s ≤ 7) :
    Calls Tryz.prog 80 #[.int .i64 s, .int .i64 b, .int .i64 i] w fun e w' => e = .returned (.int .i64 (bitD s b i)) ∧ w = w' := by
  have a0 := and_bit s0 s7
  have a1 := and_bit (d := s / 2) (by omega) (by omega)
  have a2 := and_bit (d := s / 4) (by omega) (by omega)
  have hc : (b = 1 ∧ i = 0) ∨ (b = 2 ∧ i = 0) ∨ (b = 2 ∧ i = 1) ∨ (b = 3 ∧ i = 0) ∨ (b = 3 ∧ i = 1) ∨ (b = 3 ∧ i = 2) := by omega
  rcases hc with ⟨rfl, rfl⟩ | ⟨rfl, rfl⟩ | ⟨rfl, rfl⟩ | ⟨rfl, rfl⟩ | ⟨rfl, rfl⟩ | ⟨rfl, rfl⟩
  all_goals
    go_enter Tryz.func80, Tryz.ntmps80
    go_wp2
    go_ret
    refine ⟨?_, rfl⟩
    simp [bitD, a0, a1, a2]
theorem l13Bits_c (sy : Int) (w : World) (s6 : sy ≤ 6) :
    Calls Tryz.prog 23 #[.int .i64 sy] w fun e w' => e = .returned (.int .i64 (bitsD sy)) ∧ w = w' := by
  go_enter Tryz.func23, Tryz.ntmps23
  go_wp2_with fail
  go_loopw [3] (fun i wr => wr = w ∧ (i = .int .i64 1 ∨ (i = .int .i64 2 ∧ 2 < sy) ∨ (i = .int .i64 3 ∧ 4 < sy))) (fun i _ => 4 - (intOf i).toNat)
  case atStart => exact ⟨rfl, .inl rfl⟩
  case round =>
    obtain ⟨rfl, hi⟩ := hrel
    rcases hi with rfl | ⟨rfl, h2⟩ | ⟨rfl, h2⟩
    · by_cases hs : sy ≤ 2
      · have HE : Hid (bitsD sy = 1) := by unfold Hid bitsD; rw [if_pos hs]
        go_wp2
        go_ret
        exact ⟨by rw [HE.out]; rfl, rfl⟩
      · go_wp2
        go_roundw
        case rel => exact ⟨by trivial, .inr (.inl ⟨by go_num, by omega⟩)⟩
        case measure => simp [intOf]
    · by_cases hs : sy ≤ 4
      · have HE : Hid (bitsD sy = 2) := by unfold Hid bitsD; rw [if_neg (by omega), if_pos hs]
        go_wp2
        go_ret
        exact ⟨by rw [HE.out]; rfl, rfl⟩
      · go_wp2
        go_roundw
        case rel => exact ⟨by trivial, .inr (.inr ⟨by go_num, by omega⟩)⟩
        case measure => simp [intOf]
    · have HE : Hid (bitsD sy = 3) := by unfold Hid bitsD; rw [if_neg (by omega), if_neg (by omega)]
      go_wp2
      go_ret
      exact ⟨by rw [HE.out]; rfl, rfl⟩
end Go.Proofs.YthhjbmlkncdigaaGreatDoor
end
section
set_option linter.unusedSimpArgs false
set_option linter.unusedVariables false
namespace Go.Proofs.YthhjbmlkncdigaaGreatDoor
open Go Go.RowKit Go.Proofs
set_option maxHeartbeats 400000
set_option maxRecDepth 40000 in
set_option maxHeartbeats 4000000 in
theorem l13Binary0_c (b : Nat) (m : MachD) (a b' c v : Int) (pv : Value) (w : World) (hM : MachAt w b m) (hm : machOk m = true) (hp : BiOk m ⟨0, a, b', c⟩) (v0 : 0 ≤ v) (v1 : v < 2) (hpv : Ints w pv [0, a, b', c]) :
    Calls Tryz.prog 108 #[.pointer (some ⟨b, 0, none⟩), pv, .int .i64 v] w (MoveResB w (readB m ⟨0, a, b', c⟩ v)) := by
  obtain ⟨rv, p0, p1, p2, hr⟩ := hM
  obtain ⟨A, cap, rfl, h2, h2'⟩ := hr.form
  obtain ⟨s1, s2, s3, s4, hl⟩ := machOk_all hm
  have hl6 : m.rules.length ≤ 6000 := by have := (mul_bounds s1 s2 s3 s4).2; omega
  obtain ⟨Ap, cp, rfl, _, _⟩ := hpv.form
  obtain ⟨bp, op, rfl, hc⟩ := hpv.at (k := 0) (by simp)
  obtain ⟨W, hW⟩ : ∃ W, W = w.alloc (.cells #[.bool false, .int .i64 0, .int .i64 0, .slice none 0 0] 125) := ⟨_, rfl⟩
  have hXW : Ext w W := by rw [hW]; exact Ext.alloc _ _
  have bZ : Blk W w.heap.size 125 #[.bool false, .int .i64 0, .int .i64 0, .slice none 0 0] := by rw [hW]; exact Blk.new _ _ _ _ rfl
  have hpl : 0 ≤ a ∧ a < m.st ∧ 0 ≤ b' ∧ b' < bitsD m.sy ∧ 0 ≤ c ∧ c ≤ 3 := by
    rcases hp with ⟨_, a0, a1, b0, b1, c0, c1, _, _⟩ | ⟨h, _⟩ | ⟨h, _⟩
    · exact ⟨a0, a1, b0, b1, c0, c1⟩
    · cases h
    · cases h
  obtain ⟨a0, a1, b0, b1, cc0, cc1⟩ := hpl
  clear hp
  have hBr := bitsD_range m.sy
  have LB := l13Bits_c m.sy W s2
  obtain ⟨y, hy⟩ : ∃ y, 2 * c + v = y := ⟨_, rfl⟩
  obtain ⟨r, hrd⟩ : ∃ r, r = readB m ⟨0, a, b', c⟩ v := ⟨_, rfl⟩
  rw [← hrd]
  have HR : Hid (r = if b' < bitsD m.sy - 1 then ⟨v, 1, ⟨0, a, b' + 1, y⟩, false⟩ else if y < m.sy then
    if ruleB m (a * m.sy + y) = noR then noB
    else if bitsD m.sy = 1 then ⟨(ruleB m (a * m.sy + y)).w, (ruleB m (a * m.sy + y)).m, ⟨0, (ruleB m (a * m.sy + y)).n, 0, 0⟩, false⟩
    else ⟨bitD (ruleB m (a * m.sy + y)).w (bitsD m.sy) (bitsD m.sy - 1), -1, ⟨1, a * m.sy + y, bitsD m.sy - 2, 0⟩, false⟩
  else noB) := by unfold Hid; rw [hrd]; unfold readB; rw [← hy]
  clear hrd
  generalize hB : bitsD m.sy = B at *
  clear hB
  have hq : 0 ≤ a * m.sy ∧ a * m.sy ≤ 6000 := ⟨Int.mul_nonneg a0 (by omega), by have := Int.mul_le_mul (by omega : a ≤ 1000) s2 (by omega) (by omega); omega⟩
  have P0 := hXW.cell (hc 0 (by simp))
  have P1 := hXW.cell (hc 1 (by simp))
  have P2 := hXW.cell (hc 2 (by simp))
  have P3 := hXW.cell (hc 3 (by simp))
  have M0 := hXW.cell p0
  have M2 := hXW.cell p2
  simp only [List.getElem_cons_zero, List.getElem_cons_succ, Nat.add_zero] at P0 P1 P2 P3
  have M0' := M0
  rw [hW] at M0'
  clear hc
  have y0 : 0 ≤ y := by omega
  have y7 : y ≤ 7 := by omega
  have hw3 : IntKind.i64.wrap (b' + 1) = b' + 1 := IntWalk.i64_in _ (by omega)
  by_cases h1 : b' < B - 1
  · have HE : Hid (r = ⟨v, 1, ⟨0, a, b' + 1, y⟩, false⟩) := by unfold Hid; rw [HR.out, if_pos h1]
    clear HR
    go_enter Tryz.func108, Tryz.ntmps108
    go_wp2_with fail
    try rw [← hW]
    clear hW M0'
    refine LB.mono ?_
    rintro e w' ⟨rfl, rfl⟩
    clear LB
    have zD := Ext.drew W
    have Q1 := zD.cell P1
    have Q2 := zD.cell P2
    have bZD := bZ.ext zD
    have hXD := hXW.trans zD
    go_wp2_with fail
    refine wp_region_ordT 11 (readsT [0, 1, 2, 3, 4, 5, 6, 7, 8] (.stir 9 (.stir 10 .done))) (by kernel_rfl) (by kernel_rfl) (fun _ _ _ _ _ h => h) ?_
    simp only [readsT]
    generalize W.drew = X at *
    iterate 9 (refine wpOrdT_read (v := ?_) (by rfl) (Or.inl ⟨by rfl, fun x hx => ?_⟩) ?_; rotate_left; (· have a_Q1 := hx.cell Q1; have a_Q2 := hx.cell Q2; go_simp; try with_reducible rfl); try simp only [Act.put, List.setIfInBounds_toArray, List.set_cons_zero, List.set_cons_succ])
    obtain ⟨gL, hgL⟩ : ∃ k, X.heap.size = k := ⟨_, rfl⟩
    obtain ⟨V, hV⟩ : ∃ V, V = X.alloc (.cells #[.int .i64 (0), .int .i64 (a), .int .i64 (b' + 1), .int .i64 (y)] 2) := ⟨_, rfl⟩
    have hXV0 : Ext X V := by rw [hV]; exact Ext.alloc _ _
    have hXV : Ext w V := hXD.trans hXV0
    have bL : Blk V gL 2 (ivs [0, a, b' + 1, y]).toArray := by rw [hV]; exact Blk.new _ _ _ _ hgL
    have bZV := bZD.ext hXV0
    have hlt : w.heap.size < gL := by have := bZD.lt; omega
    refine wpOrdT_keep (by rfl) (fun K hK => ?_)
    go_simp
    refine hK _ _ (Ext.alloc _ _) ?_
    clear hK K
    try rw [hw3]
    rw [← hV]; try rw [hgL]
    clear hV
    refine wpOrdT_keep (by rfl) (fun K hK => ?_)
    go_simp
    go_at_call 122
    refine (l13Go_c _ _ _ _ _ _).mono ?_
    rintro e w9 ⟨rfl, hx9⟩
    refine hK _ _ (hXV0.trans hx9) ?_
    clear hK K
    refine wpOrdT_done ?_
    try simp only [List.drop_succ_cons, List.drop_zero]
    have z0 := (bZV.ext hx9).cell
    have z1 := (bZV.ext hx9).frozen
    go_wp2
    refine bodyPost_ret (v := .agg #[.bool true, .int .i64 (v), .int .i64 (1), .slice (some ⟨gL, 0, none⟩) 4 4]) (by simp [results, Tryz.results108, go_sem, z0]) rfl ?_
    rw [HE.out]
    exact moveB_done (zs := [0, a, b' + 1, y]) hXV hx9 bL hlt rfl (by simp) ⟨0, a, b' + 1, y⟩ (by simp [encB])
  have HR1 := Lib.hid (HR.out.trans (if_neg h1))
  clear HR
  by_cases h2 : y < m.sy
  · have hgd : decide (m.sy ≤ y) = false := by simp; omega
    obtain ⟨j, hj1, hj2⟩ := ruleIx s1 s2 hl a0 a1 y0 h2
    have e0 : ruleB m (a * m.sy + y) = m.rules[j] := by
      unfold ruleB
      rw [hj1, List.getD_eq_getElem?_getD, Int.toNat_natCast, List.getElem?_eq_getElem hj2]; rfl
    have hR : Hid (m.rules[j] ≠ noR → 0 ≤ m.rules[j].w ∧ m.rules[j].w ≤ 5) := by
      unfold Hid
      intro hne
      have := (RuB.ok hm (a := (j : Int)) ⟨by omega, by omega, by unfold ruleB; rw [List.getD_eq_getElem?_getD, Int.toNat_natCast, List.getElem?_eq_getElem hj2]; exact hne⟩).1
      have e1 : ruleB m (j : Int) = m.rules[j] := by unfold ruleB; rw [List.getD_eq_getElem?_getD, Int.toNat_natCast, List.getElem?_eq_getElem hj2]; rfl
      rw [e1] at this
      omega
    obtain ⟨g, off, rfl, hcr⟩ := hr.at hj2
    obtain ⟨c0, c1, c2⟩ := hcr j hj2
    rw [if_pos h2, e0, hj1] at HR1
    generalize hrk : m.rules[j] = rr at *
    obtain ⟨rw_, rm, rn⟩ := rr
    simp only at c0 c1 c2 HR1 hR
    clear hrk e0 hcr
    have C0 := hXW.cell c0
    have C1 := hXW.cell c1
    have C2 := hXW.cell c2
    have g0 := cellR C0
    have g1 := cellR C1
    have g2 := cellR C2
    have d0 := cellR M0
    have d2 := cellR M2
    have d3 := cellR P1
    have rn_ := ruleEql_run
    have hw1 : IntKind.i64.wrap (a * m.sy) = a * m.sy := IntWalk.i64_in _ (by omega)
    have hw2 : IntKind.i64.wrap (j : Int) = (j : Int) := IntWalk.i64_in _ (by omega)
    have i1 : (0 : Int) ≤ (j : Int) := by omega
    have i2 : (j : Int) < (m.rules.length : Int) := by omega
    clear hl
    have heb : ∀ z, rEq ⟨rw_, rm, rn⟩ noR = z → rEq ⟨rw_, rm, rn⟩ ⟨0, 0, -1⟩ = z := fun _ h => h
    by_cases hn : (⟨rw_, rm, rn⟩ : RuleD) = noR
    · have hE := heb true (by simp [rEq, hn])
      have HE : Hid (r = noB) := by unfold Hid; rw [HR1.out, if_pos hn]
      clear hn HR1 heb
      go_enter Tryz.func108, Tryz.ntmps108
      go_wp2_with fail
      try rw [← hW]
      clear hW M0'
      refine LB.mono ?_
      rintro e w' ⟨rfl, rfl⟩
      clear LB
      go_wp2_with fail
      refine wp_region_ext (by kernel_rfl) (by kernel_rfl) ?_
      repeat (go_big_quiet_step ((go_at_call 82; exact Calls.extR (l05None_c _))))
      refine wpQuiet_nil ?_
      intro w2 hx2
      have z0 := (bZ.ext hx2).cell
      have z1 := (bZ.ext hx2).frozen
      go_wp2
      refine bodyPost_ret (v := .agg #[.bool false, .int .i64 0, .int .i64 0, .slice none 0 0]) (by simp [results, Tryz.results108, go_sem, z0]) rfl ?_
      rw [HE.out]
      exact moveB_none (hXW.trans hx2)
    · have hE := heb false (by simp [rEq, hn])
      have hr5 := hR.out hn
      have HR2 := Lib.hid (HR1.out.trans (if_neg hn))
      clear hn HR1 heb
      go_enter Tryz.func108, Tryz.ntmps108
      go_wp2_with fail
      try rw [← hW]
      clear hW M0'
      refine LB.mono ?_
      rintro e w' ⟨rfl, rfl⟩
      clear LB
      go_wp2_with fail
      refine wp_region_ext (by kernel_rfl) (by kernel_rfl) ?_
      repeat (go_big_quiet_step ((go_at_call 82; exact Calls.extR (l05None_c _))))
      refine wpQuiet_nil ?_
      intro w2 hx2
      have P1 := hx2.cell P1
      have M0 := hx2.cell M0
      have M2 := hx2.cell M2
      have C0 := hx2.cell C0
      have C1 := hx2.cell C1
      have C2 := hx2.cell C2
      have bZ2 := bZ.ext hx2
      have hX2 := hXW.trans hx2
      clear d0 d2 d3 g0 g1 g2 hE
      have d0 := cellR M0
      have d3 := cellR P1
      go_wp2_with fail
      refine wp_region_ext (by kernel_rfl) (by kernel_rfl) ?_
      repeat (go_big_quiet_step (fail))
      refine wpQuiet_nil ?_
      intro w3 hx3
      have M2 := hx3.cell M2
      have C0 := hx3.cell C0
      have C1 := hx3.cell C1
      have C2 := hx3.cell C2
      have bZ3 := bZ2.ext hx3
      have hX3 := hX2.trans hx3
      clear d0 d3
      obtain ⟨U, hU⟩ : ∃ U, U = w3.alloc (.cells #[.int .i64 rw_, .int .i64 rm, .int .i64 rn] 98) := ⟨_, rfl⟩
      have hXU0 : Ext w3 U := by rw [hU]; exact Ext.alloc _ _
      have hXU := hX3.trans hXU0
      have bZU := bZ3.ext hXU0
      have bR : Blk U w3.heap.size 98 #[.int .i64 rw_, .int .i64 rm, .int .i64 rn] := by rw [hU]; exact Blk.new _ _ _ _ rfl
      have r0 := bR.cell 0
      have r1 := bR.cell 1
      have r2 := bR.cell 2
      simp only [List.getElem?_toArray, List.getElem?_cons_zero, List.getElem?_cons_succ] at r0 r1 r2
      by_cases h3 : B = 1
      · subst h3
        have HE : Hid (r = ⟨rw_, rm, ⟨0, rn, 0, 0⟩, false⟩) := by unfold Hid; rw [HR2.out, if_pos rfl]
        obtain ⟨gL, hgL⟩ : ∃ k, U.heap.size = k := ⟨_, rfl⟩
        obtain ⟨V, hV⟩ : ∃ V, V = U.alloc (.cells #[.int .i64 (0), .int .i64 (rn), .int .i64 (0), .int .i64 (0)] 2) := ⟨_, rfl⟩
        have hXV0 : Ext U V := by rw [hV]; exact Ext.alloc _ _
        have hXV : Ext w V := hXU.trans hXV0
        have bL : Blk V gL 2 (ivs [0, rn, 0, 0]).toArray := by rw [hV]; exact Blk.new _ _ _ _ hgL
        have bZV := bZU.ext hXV0
        have hlt : w.heap.size < gL := by have := bZU.lt; omega
        rw [hU] at r0 r1 r2
        rw [hU] at hV hgL
        go_wp2_with fail
        rw [← hV]; try rw [hgL]
        clear hV
        refine (l13Go_c _ _ _ _ _ _).mono ?_
        rintro e w9 ⟨rfl, hx9⟩
        have z0 := (bZV.ext hx9).cell
        have z1 := (bZV.ext hx9).frozen
        go_wp2
        refine bodyPost_ret (v := .agg #[.bool true, .int .i64 (rw_), .int .i64 (rm), .slice (some ⟨gL, 0, none⟩) 4 4]) (by simp [results, Tryz.results108, go_sem, z0]) rfl ?_
        rw [HE.out]
        exact moveB_done (zs := [0, rn, 0, 0]) hXV hx9 bL hlt rfl (by simp) ⟨0, rn, 0, 0⟩ (by simp [encB])
      · have HE : Hid (r = ⟨bitD rw_ B (B - 1), -1, ⟨1, j, B - 2, 0⟩, false⟩) := by unfold Hid; rw [HR2.out, if_neg h3]
        have BA := fun w => l13Bit_c rw_ B (B - 1) w (by omega) (by omega) (by omega) (by omega) hr5.1 (by omega)
        obtain ⟨gL, hgL⟩ : ∃ k, U.heap.size = k := ⟨_, rfl⟩
        obtain ⟨V, hV⟩ : ∃ V, V = U.alloc (.cells #[.int .i64 (1), .int .i64 ((j : Int)), .int .i64 (B - 2)] 2) := ⟨_, rfl⟩
        have hXV0 : Ext U V := by rw [hV]; exact Ext.alloc _ _
        have hXV : Ext w V := hXU.trans hXV0
        have bL : Blk V gL 2 (ivs [1, (j : Int), B - 2]).toArray := by rw [hV]; exact Blk.new _ _ _ _ hgL
        have bZV := bZU.ext hXV0
        have hlt : w.heap.size < gL := by have := bZU.lt; omega
        rw [hU] at r0 r1 r2
        rw [hU] at hV hgL
        go_wp2_with fail
        refine (BA _).mono ?_
        rintro e w' ⟨rfl, rfl⟩
        clear BA
        generalize bitD rw_ B (B - 1) = bb at *
        go_wp2_with fail
        rw [← hV]; try rw [hgL]
        clear hV
        refine (l13Go_c _ _ _ _ _ _).mono ?_
        rintro e w9 ⟨rfl, hx9⟩
        have z0 := (bZV.ext hx9).cell
        have z1 := (bZV.ext hx9).frozen
        go_wp2
        refine bodyPost_ret (v := .agg #[.bool true, .int .i64 (bb), .int .i64 (-1), .slice (some ⟨gL, 0, none⟩) 3 3]) (by simp [results, Tryz.results108, go_sem, z0]) rfl ?_
        rw [HE.out]
        exact moveB_done (zs := [1, (j : Int), B - 2]) hXV hx9 bL hlt rfl (by simp) ⟨1, (j : Int), B - 2, 0⟩ (by simp [encB])
  · have hgd : decide (m.sy ≤ y) = true := by simp; omega
    have HE : Hid (r = noB) := by unfold Hid; rw [HR1.out, if_neg h2]
    have d0 := cellR M0
    clear HR1
    go_enter Tryz.func108, Tryz.ntmps108
    go_wp2_with fail
    try rw [← hW]
    clear hW M0'
    refine LB.mono ?_
    rintro e w' ⟨rfl, rfl⟩
    clear LB
    go_wp2_with fail
    refine wp_region_ext (by kernel_rfl) (by kernel_rfl) ?_
    repeat (go_big_quiet_step ((go_at_call 82; exact Calls.extR (l05None_c _))))
    refine wpQuiet_nil ?_
    intro w2 hx2
    have z0 := (bZ.ext hx2).cell
    have z1 := (bZ.ext hx2).frozen
    go_wp2
    refine bodyPost_ret (v := .agg #[.bool false, .int .i64 0, .int .i64 0, .slice none 0 0]) (by simp [results, Tryz.results108, go_sem, z0]) rfl ?_
    rw [HE.out]
    exact moveB_none (hXW.trans hx2)
end Go.Proofs.YthhjbmlkncdigaaGreatDoor
end
