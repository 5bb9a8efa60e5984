/- Contracts of the laws' comparison of machines with several tapes.
Contract of the laws' marks in lists of lists, with what stays as it was.
The law FnExactRunOneTape: the program's and the reference's run of the machine with one tape for several are one. -/
import Derived.Test.YtfghojbbofobeaaGreatQ08
import Derived.Test.YtfghojbbofobeaaGreatQ02
import Derived.Test.YtfghojbbofobeaaGreatQ42
import Derived.Test.YtfghojbbofobeaaGreatQ35
import Derived.Test.YtfghojbbofobeaaGreatQ40
import Derived.Test.YtfghojbbofobeaaGreatQ43
import Derived.Test.YtfghojbbofobeaaGreatQ04
import Derived.Deep.RegionHeld3
section
set_option linter.unusedVariables false
set_option linter.unusedSimpArgs false
namespace Go.Proofs.YtfghojbbofobeaaGreat
open Go Go.RowKit Go.Proofs
set_option maxHeartbeats 400000
/-- A machine with several tapes is compared with itself. -/
theorem eqMultiRule_c (u v : Value) (r : MRuleD) (w : World) (ha : MRul w u r) (hb : MRul w v r) :
    Calls Tryz.prog 75 #[u, v] w fun e w' => e = .returned (.bool true) ∧ Ext w w' := by
  obtain ⟨vr, vw, vm, rfl, i1, i2, i3⟩ := ha
  obtain ⟨ur, uw, um, rfl, j1, j2, j3⟩ := hb
  obtain ⟨g, hg⟩ : ∃ g, w.heap.size = g := ⟨_, rfl⟩
  obtain ⟨W, hW⟩ : ∃ W, W = (w.alloc (.cells #[.int .i64 r.st, vr, vw, vm, .int .i64 r.nx] 94)).alloc (.cells #[.int .i64 r.st, ur, uw, um, .int .i64 r.nx] 94) := ⟨_, rfl⟩
  have hX : Ext w W := by rw [hW]; exact (Ext.alloc _ _).trans (Ext.alloc _ _)
  have bA : Blk W g 94 #[.int .i64 r.st, vr, vw, vm, .int .i64 r.nx] := by rw [hW]; exact (Blk.new _ _ _ _ hg).alloc _
  have bB : Blk W (g + 1) 94 #[.int .i64 r.st, ur, uw, um, .int .i64 r.nx] := by rw [hW]; exact Blk.new _ _ _ _ (by simp [hg])
  have Q1 := fun w1 (h : Ext W w1) => eqInt64S_c w1 _ _ _ _ ((i1.ext hX).ext h) ((j1.ext hX).ext h)
  have Q2 := fun w1 (h : Ext W w1) => eqInt64S_c w1 _ _ _ _ ((i2.ext hX).ext h) ((j2.ext hX).ext h)
  have Q3 := fun w1 (h : Ext W w1) => eqInt64S_c w1 _ _ _ _ ((i3.ext hX).ext h) ((j3.ext hX).ext h)
  have L1 : lEq r.rd r.rd = true := lEq_true rfl
  have L2 : lEq r.wr r.wr = true := lEq_true rfl
  have L3 : lEq r.mv r.mv = true := lEq_true rfl
  rw [L1] at Q1
  rw [L2] at Q2
  rw [L3] at Q3
  have hst : (r.st != r.st) = false := by simp
  have hnx : (r.nx != r.nx) = false := by simp
  have CA := fun w1 (h : Ext W w1) => (bA.ext h).cell
  have CB := fun w1 (h : Ext W w1) => (bB.ext h).cell
  have a0 := CA W (Ext.refl _) 0
  have a1 := CA W (Ext.refl _) 1
  have b0 := CB W (Ext.refl _) 0
  have b1 := CB W (Ext.refl _) 1
  simp only [List.getElem?_toArray, List.getElem?_cons_zero, List.getElem?_cons_succ] at a0 a1 b0 b1
  have HX := Lib.hid hX
  clear hX bA bB i1 i2 i3 j1 j2 j3 L1 L2 L3
  go_enter Tryz.func75, Tryz.ntmps75
  go_wp2_with fail
  try rw [← hW]
  try rw [hg]
  clear hW
  refine (Q1 W (Ext.refl _)).mono ?_
  rintro e w1 ⟨rfl, hx1⟩
  have a2 := CA w1 hx1 2
  have b2 := CB w1 hx1 2
  simp only [List.getElem?_toArray, List.getElem?_cons_zero, List.getElem?_cons_succ] at a2 b2
  clear a0 a1 b0 b1
  go_wp2_with fail
  refine (Q2 w1 hx1).mono ?_
  rintro e w2 ⟨rfl, hx2⟩
  have hx12 := hx1.trans hx2
  have a3 := CA w2 hx12 3
  have b3 := CB w2 hx12 3
  simp only [List.getElem?_toArray, List.getElem?_cons_zero, List.getElem?_cons_succ] at a3 b3
  clear a2 b2
  go_wp2_with fail
  refine (Q3 w2 hx12).mono ?_
  rintro e w3 ⟨rfl, hx3⟩
  have hx13 := hx12.trans hx3
  have a4 := CA w3 hx13 4
  have b4 := CB w3 hx13 4
  simp only [List.getElem?_toArray, List.getElem?_cons_zero, List.getElem?_cons_succ] at a4 b4
  clear a3 b3
  go_wp2
  go_ret
  exact ⟨rfl, HX.out.trans hx13⟩
theorem eqMultiRuleS_c (u v : Value) (rs : List MRuleD) (w : World) (ha : MRules w u rs) (hb : MRules w v rs) :
    Calls Tryz.prog 36 #[u, v] w fun e w' => e = .returned (.bool true) ∧ Ext w w' := by
  obtain ⟨A, ca, rfl, h1, h1'⟩ := ha.form
  obtain ⟨B, cb, rfl, h2, h2'⟩ := hb.form
  have hl1 : ((rs.length : Int) != (rs.length : Int)) = false := by simp
  go_enter Tryz.func36, Tryz.ntmps36
  go_wp2
  go_loopw [5] (fun i wr => ∃ k : Nat, k ≤ rs.length ∧ i = .int .i64 k ∧ Ext w wr) (fun i _ => rs.length - (intOf i).toNat)
  case atStart => exact ⟨0, Nat.zero_le _, rfl, Ext.refl _⟩
  case round =>
    obtain ⟨k, hk, rfl, hx⟩ := hrel
    by_cases hlt : k < rs.length
    · obtain ⟨b, off, vr, vw, vm, rfl, c0, c1, c2, c3, c4, i1, i2, i3⟩ := ha.at hlt
      obtain ⟨b', off', ur, uw, um, rfl, d0, d1, d2, d3, d4, j1, j2, j3⟩ := hb.at hlt
      have c0 := cellR (hx.cell c0)
      have c1 := cellR (hx.cell c1)
      have c2 := cellR (hx.cell c2)
      have c3 := cellR (hx.cell c3)
      have c4 := cellR (hx.cell c4)
      have d0 := cellR (hx.cell d0)
      have d1 := cellR (hx.cell d1)
      have d2 := cellR (hx.cell d2)
      have d3 := cellR (hx.cell d3)
      have d4 := cellR (hx.cell d4)
      have EQ := fun d os => eqMultiRule_c (.agg #[.int .i64 rs[k].st, vr, vw, vm, .int .i64 rs[k].nx]) (.agg #[.int .i64 rs[k].st, ur, uw, um, .int .i64 rs[k].nx]) rs[k] (Sort.grow (redrawn wr d) os) ⟨vr, vw, vm, rfl, (i1.ext hx).ext (below_regrown _ _ _), (i2.ext hx).ext (below_regrown _ _ _), (i3.ext hx).ext (below_regrown _ _ _)⟩ ⟨ur, uw, um, rfl, (j1.ext hx).ext (below_regrown _ _ _), (j2.ext hx).ext (below_regrown _ _ _), (j3.ext hx).ext (below_regrown _ _ _)⟩
      clear ha hb i1 i2 i3 j1 j2 j3
      generalize rs[k] = y at *
      go_wp2
      refine wp_region_ext (by kernel_rfl) (by kernel_rfl) ?_
      repeat (go_big_quiet_step ((go_at_call 75; with_reducible exact Calls.extR (EQ _ _))))
      refine wpQuiet_nil ?_
      intro w2 hx2
      go_wp2
      go_roundw
      case rel => exact ⟨k + 1, by omega, by go_num, hx.trans hx2⟩
      case measure => simp [intOf]; omega
    · go_wp2
      go_ret
      exact ⟨rfl, hx⟩
theorem eqMulti_c (u v : Value) (m : MultiD) (w : World) (ha : Mult w u m) (hb : Mult w v m) :
    Calls Tryz.prog 11 #[u, v] w fun e w' => e = .returned (.bool true) ∧ Ext w w' := by
  obtain ⟨ra, rfl, ha⟩ := ha
  obtain ⟨rb, rfl, hb⟩ := hb
  have hx0 := (Ext.alloc w (.cells #[.int .i64 m.tp, .int .i64 m.sy, .int .i64 m.st, ra] 35)).trans (Ext.alloc _ (.cells #[.int .i64 m.tp, .int .i64 m.sy, .int .i64 m.st, rb] 35))
  have ES := eqMultiRuleS_c _ _ _ _ (ha.ext hx0) (hb.ext hx0)
  have h1 : (m.tp != m.tp) = false := by simp
  have h2 : (m.sy != m.sy) = false := by simp
  have h3 : (m.st != m.st) = false := by simp
  go_enter Tryz.func11, Tryz.ntmps11
  go_wp2_with fail
  refine ES.mono ?_
  rintro e w1 ⟨rfl, hx1⟩
  go_wp2
  go_ret
  exact ⟨rfl, hx0.trans hx1⟩
end Go.Proofs.YtfghojbbofobeaaGreat
end
section
set_option linter.unusedVariables false
set_option linter.unusedSimpArgs false
namespace Go.Proofs.YtfghojbbofobeaaGreat
open Go Go.RowKit Go.Proofs
set_option maxHeartbeats 400000
set_option maxRecDepth 20000 in
set_option maxHeartbeats 2000000 in
theorem markInt64SST_c (base : Nat) (v : Value) (xss : List (List Int)) (k : Int) (w0 w : World) (h : OwnIntRows base w0 v xss) (hk : ∀ g, base ≤ g → g < w0.heap.size → w.heap[g]? = w0.heap[g]?) (hb : base ≤ w.heap.size) (h0 : 0 ≤ k) (h1 : k + tot xss ≤ 4611686018427387904) :
    Calls Tryz.prog 14 #[v, .int .i64 k] w fun e w' => e = .returned (.int .i64 (k + tot xss)) ∧ Below base w w' ∧ TopF w0.heap.size w w' := by
  obtain ⟨vs, o1, o2, o3⟩ := h
  have hlo : ∀ (i : Nat) (u : Value) (g : Nat), i < xss.length → vs[i]? = some u → u.ownBlock = some g → g < w0.heap.size := fun i u g hi hu hg => by
    obtain ⟨u', e, o⟩ := o2 i hi
    rw [hu] at e
    injection e with e
    subst e
    exact (o.lt g hg).2
  have oM : ∀ i, (h : i < xss.length) → ∃ u zs, vs[i]? = some u ∧ OwnInts base w u zs ∧ zs.length = xss[i].length := fun i hi => by
    obtain ⟨u, e, o⟩ := o2 i hi
    exact ⟨u, _, e, own_same o (fun g hg => hk g (o.lt g hg).1 (o.lt g hg).2), rfl⟩
  have o1 := own_same o1 (fun g hg => hk g (o1.lt g hg).1 (o1.lt g hg).2)
  clear o2 hk
  generalize w0.heap.size = T at *
  obtain ⟨A, c, rfl, _, _, _⟩ := (ownsRow_row o1).form
  go_enter Tryz.func14, Tryz.ntmps14
  go_wp2
  go_loopw [1, 5] (fun q i wr => ∃ j : Nat, j ≤ xss.length ∧ i = .int .i64 j ∧ q = .int .i64 (k + (tot (xss.take j) : Nat)) ∧ Below base w wr ∧ TopF T w wr ∧ wr.ownsRow base 46 1 (.slice A xss.length c) xss.length vs ∧ Hid (∀ i, (h : i < xss.length) → ∃ u zs, vs[i]? = some u ∧ OwnInts base wr u zs ∧ zs.length = xss[i].length)) (fun _ i _ => xss.length - (intOf i).toNat)
  case atStart => exact ⟨0, Nat.zero_le _, rfl, by simp [tot], Below.refl _ _, TopF.refl _ _, o1, oM⟩
  case round =>
    clear o1 oM
    obtain ⟨j, hj, rfl, rfl, hB, hT, ho, hM⟩ := hrel
    by_cases hlt : j < xss.length
    · have HT := Lib.hid (tot_take_succ xss j hlt)
      have ht1 := tot_take_le xss (j + 1)
      rw [HT.out] at ht1
      have hbs : base ≤ wr.heap.size := Nat.le_trans hb hB.size
      obtain ⟨g, rfl, hbg, hgl⟩ := own_at ho (by omega)
      obtain ⟨u, zs, hu, hru, hzl⟩ := hM.out j hlt
      have q0 := (ho.cellAt j (by have := ho.1; omega)).trans hu
      obtain ⟨A1, c1, rfl, _, _⟩ := hru.ints.form
      have MK := markInt64S_c base _ zs (k + (tot (xss.take j) : Nat)) wr hru (by omega) (by omega)
      have HZL := Lib.hid hzl
      clear hzl
      go_wp2_with fail
      refine MK.mono ?_
      rintro e w2 ⟨rfl, hr2, hg2⟩
      have b2 := Lib.hid (hB.grown hg2 hbs (fun q hq => (hru.lt q hq).1))
      have t2 := Lib.hid (hT.grown hB.size hg2 (fun q hq => hlo j _ q hlt hu hq))
      have s2 := Lib.hid (World.ownsRow.kept ho hg2 (own_ne ho hru (by decide)))
      have m2 : Hid (∀ i, (h : i < xss.length) → ∃ u zs, vs[i]? = some u ∧ OwnInts base w2 u zs ∧ zs.length = xss[i].length) := Lib.hid fun i hi => by
        by_cases e : i = j
        · subst e
          exact ⟨_, _, hu, hr2, by simp [HZL.out]⟩
        · obtain ⟨u', zs', e', o', l'⟩ := hM.out i hi
          refine ⟨u', zs', e', World.ownsRow.kept o' hg2 ?_, l'⟩
          cases hb : u'.ownBlock with
          | none => exact .inl rfl
          | some q => exact .inr fun he => e (o3 i j u' _ q e' hu hb he.symm)
      clear q0 MK hB hT ho hM hru hr2 hg2
      go_wp2_with fail
      go_roundw
      case rel => exact ⟨j + 1, by omega, by go_num, by rw [HT.out, HZL.out]; congr 1; omega, b2.out, t2.out, s2.out, m2.out⟩
      case measure => simp [intOf]; omega
    · have hje : j = xss.length := by omega
      subst hje
      go_wp2
      go_ret
      exact ⟨by simp [List.take_of_length_le (Nat.le_refl _)], hB, hT⟩
end Go.Proofs.YtfghojbbofobeaaGreat
end
section
set_option linter.unusedSimpArgs false
set_option linter.unusedVariables false
namespace Go.Proofs.YtfghojbbofobeaaGreat
open Go Go.RowKit Go.Proofs
set_option maxHeartbeats 400000
theorem RunOT.tot {m : MultiD} {ws : List (List Int)} {b : Int} {R : ROut} (h : RunOT m ws b R) : totT R.c.tapes ≤ 1203 := by
  have h0 : ∀ k, totT (rNo k).c.tapes ≤ 1203 := fun k => by simp [rNo, totT]
  unfold RunOT at h
  split at h
  · rename_i hm
    obtain ⟨⟨tp1, tp2⟩, _⟩ := multi_all hm
    split at h
    · split at h
      · rw [h]; exact h0 _
      · split at h
        · rcases h with ⟨T, hE, rfl⟩ | ⟨_, rfl⟩
          · unfold endRO
            split
            · show totT (decOne m _ _).1.tapes ≤ 1203
              have hf := fit_both (hE.runs.fit T (Nat.le_refl _))
              rcases decOne_tot hm _ _ with e | ⟨ts, e, hd⟩
              · rw [e]; simp [totT]
              · rw [e]
                refine Nat.le_trans (decTapes_tot hd) ?_
                have h3 : m.tp.toNat ≤ 3 := by omega
                exact Nat.le_trans (Nat.mul_le_mul h3 (Nat.add_le_add_right (Nat.add_le_add hf.1 hf.2) 1)) (by omega)
            · exact h0 _
          · exact h0 _
        · rw [h]; exact h0 _
    · rw [h]; exact h0 _
  · rw [h]; exact h0 _
/-- A list of words of one's own as the texts of a run ask for it. -/
theorem words_own {base : Nat} {w : World} {v : Value} {ws : List (List Int)} (h : OwnIntRows base w v ws) (hn : ws.length + tot ws ≤ 1048576) : ∃ vs, Row w 1 v ws.length vs ∧ ∀ i, (h : i < ws.length) → ∃ u, vs[i]? = some u ∧ Ints w u ws[i] ∧ Flat u ∧ ws[i].length ≤ 1048576 := by
  obtain ⟨vs, h1, h2, _⟩ := h
  refine ⟨vs, ownsRow_row h1, fun i hi => ?_⟩
  obtain ⟨u, e, o⟩ := h2 i hi
  have a := tot_take_succ ws i hi
  have b := tot_take_le ws (i + 1)
  exact ⟨u, e, o.ints, o.flat, by omega⟩
set_option maxRecDepth 20000 in
set_option maxHeartbeats 4000000 in
theorem law25_c (v wv : Value) (m : MultiD) (ws : List (List Int)) (n : Int) (w : World) (h : Mult w v m) (h' : IntRows w wv ws) :
    Calls Tryz.prog 3 #[v, wv, .int .i64 n] w fun e w' => e = .returned (.bool true) ∧ Ext w w' := by
  obtain ⟨rv, rfl, hr⟩ := h
  obtain ⟨Ar, cr, rfl, _, _⟩ := hr.form
  obtain ⟨Aw, cw, rfl, _, _⟩ := h'.form
  obtain ⟨g, hg⟩ : ∃ g, w.heap.size = g := ⟨_, rfl⟩
  obtain ⟨W, hW⟩ : ∃ W, W = w.alloc (.cells #[.int .i64 m.tp, .int .i64 m.sy, .int .i64 m.st, .slice Ar m.rules.length cr] 24) := ⟨_, rfl⟩
  have hx0 : Ext w W := by rw [hW]; exact Ext.alloc _ _
  have bM : Blk W g 24 #[.int .i64 m.tp, .int .i64 m.sy, .int .i64 m.st, .slice Ar m.rules.length cr] := by rw [hW]; exact Blk.new _ _ _ _ hg
  have SZ := szMulti_c (.agg #[.int .i64 m.tp, .int .i64 m.sy, .int .i64 m.st, .slice Ar m.rules.length cr]) m 1048576 W ⟨_, rfl, hr.ext hx0⟩ (by omega) (by omega)
  go_enter Tryz.func3, Tryz.ntmps3
  go_wp2_with fail
  try rw [← hW]
  try rw [hg]
  clear hW
  refine SZ.mono ?_
  rintro e w1 ⟨rfl, hx1⟩
  have hX1 := hx0.trans hx1
  by_cases hbig : (1048576 : Int) < ((m.rules.length + totM m.rules : Nat) : Int)
  · rw [szF_no hbig]
    go_wp2
    go_ret
    exact ⟨rfl, hX1⟩
  · rw [szF_yes hbig]
    have hlen : m.rules.length + totM m.rules ≤ 1048576 := by omega
    obtain ⟨lf, hlf⟩ : ∃ l, (1048576 : Int) - ((m.rules.length + totM m.rules : Nat) : Int) = l := ⟨_, rfl⟩
    rw [hlf]
    have hlf0 : 0 ≤ lf := by omega
    have hlf1 : lf ≤ 1048576 := by omega
    have SW := szInt64SS_c _ ws lf w1 (h'.ext hX1) hlf0 hlf1
    clear hlf hbig SZ
    go_wp2_with fail
    refine SW.mono ?_
    rintro e _ ⟨rfl, rfl⟩
    by_cases hbig : lf < ((ws.length + tot ws : Nat) : Int)
    · rw [szF_no hbig]
      go_wp2
      go_ret
      exact ⟨rfl, hX1⟩
    · rw [szF_yes hbig]
      have hwl : ws.length + tot ws ≤ 1048576 := by omega
      obtain ⟨l2, hl2⟩ : ∃ l, lf - ((ws.length + tot ws : Nat) : Int) = l := ⟨_, rfl⟩
      rw [hl2]
      have hl20 : 0 ≤ l2 := by omega
      have bM1 := bM.ext hx1
      clear hl2 hbig SW
      have m0 := bM1.cell 0
      have m1 := bM1.cell 1
      have m2 := bM1.cell 2
      have m3 := bM1.cell 3
      simp only [List.getElem?_toArray, List.getElem?_cons_zero, List.getElem?_cons_succ] at m0 m1 m2 m3
      have TM := toMulti_c (.agg #[.int .i64 m.tp, .int .i64 m.sy, .int .i64 m.st, .slice Ar m.rules.length cr]) m w1 ⟨_, rfl, hr.ext hX1⟩ hlen
      -- region 8
      go_wp2_with fail
      refine TM.mono ?_
      rintro e wA ⟨rA, rfl, oA, hxA⟩
      obtain ⟨AA, cA, rfl, _, _⟩ := oA.form
      have hXA := hX1.trans hxA
      have TW := toInt64SS_c _ ws wA (h'.ext hXA) hwl
      clear TM
      go_wp2_with fail
      refine TW.mono ?_
      rintro e wB ⟨uB, rfl, oB, hxB⟩
      obtain ⟨vsB, rB, iB⟩ := words_own oB hwl
      obtain ⟨AB, cB, rfl, _, _, _⟩ := rB.form
      have hXB := hXA.trans hxB
      have MS := specRunOneTape_c m (.agg #[.int .i64 m.tp, .int .i64 m.sy, .int .i64 m.st, .slice AA m.rules.length cA]) _ ws vsB n wB ⟨_, rfl, (oA.ext hxB).own.rules⟩ rB (fun i hi => by
        obtain ⟨u, e, iu, _, hl⟩ := iB i hi
        exact ⟨u, e, iu, hl⟩)
      clear TW
      go_wp2_with fail
      refine MS.mono ?_
      rintro e w4 ⟨⟨⟨rq, rts⟩, rn, rh, rk⟩, hSS, vS, rfl, oS, hxS'⟩
      simp only at oS ⊢
      obtain ⟨AS, cS, rfl, _, _⟩ := id oS.form
      obtain ⟨wS, hwS⟩ : ∃ W, W = w4.alloc (.cells #[.int .i64 rq, .slice AS rts.length cS] 30) := ⟨_, rfl⟩
      have hxwS : Ext w4 wS := by rw [hwS]; exact Ext.alloc _ _
      have bS : Blk wS w4.heap.size 30 #[.int .i64 rq, .slice AS rts.length cS] := by rw [hwS]; exact Blk.new _ _ _ _ rfl
      obtain ⟨gS, hgS⟩ : ∃ k, w4.heap.size = k := ⟨_, rfl⟩
      rw [hgS] at bS
      have hxS := hxS'.trans hxwS
      have hXC := hXB.trans hxS
      have HSS := Lib.hid hSS
      have HRL : Hid (totT rts ≤ 1203) := Lib.hid hSS.tot
      have iS := (oS.ext hxwS).tapes
      have bMC := (bM1.ext hxA).ext (hxB.trans hxS)
      have m0 := bMC.cell 0
      have m1 := bMC.cell 1
      have m2 := bMC.cell 2
      have m3 := bMC.cell 3
      simp only [List.getElem?_toArray, List.getElem?_cons_zero, List.getElem?_cons_succ] at m0 m1 m2 m3
      have T5 := toMulti_c (.agg #[.int .i64 m.tp, .int .i64 m.sy, .int .i64 m.st, .slice Ar m.rules.length cr]) m wS ⟨_, rfl, hr.ext hXC⟩ hlen
      clear MS hSS oS oA oB rB iB
      rw [hwS] at m0 m1 m2 m3
      -- region 9
      go_wp2_with fail
      try rw [← hwS]
      try rw [hgS]
      clear hwS
      refine T5.mono ?_
      rintro e w5 ⟨rv5, rfl, o5, hx5⟩
      obtain ⟨A5, c5, rfl, _, _⟩ := o5.form
      obtain ⟨W5, hW5⟩ : ∃ W, W = w5.alloc (.cells #[.int .i64 m.tp, .int .i64 m.sy, .int .i64 m.st, .slice A5 m.rules.length c5] 35) := ⟨_, rfl⟩
      have hxW5 : Ext w5 W5 := by rw [hW5]; exact Ext.alloc _ _
      have bX : Blk W5 w5.heap.size 35 #[.int .i64 m.tp, .int .i64 m.sy, .int .i64 m.st, .slice A5 m.rules.length c5] := by rw [hW5]; exact Blk.new _ _ _ _ rfl
      have hE5 := hx5.trans hxW5
      have oX := o5.ext hxW5
      have T6 := toInt64SS_c _ ws W5 (h'.ext (hXC.trans hE5)) hwl
      clear T5 m0 m1 m2 m3
      -- region 10
      go_wp2_with fail
      try rw [← hW5]
      clear hW5
      refine T6.mono ?_
      rintro e w6 ⟨u6, rfl, o6, hx6⟩
      obtain ⟨vs6, r6, i6⟩ := words_own o6 hwl
      obtain ⟨A6, c6, rfl, _, _, _⟩ := r6.form
      have hE6 := hE5.trans hx6
      have oX6 := oX.ext hx6
      have bX6 := bX.ext hx6
      have m0 := bX6.cell 0
      have m1 := bX6.cell 1
      have m2 := bX6.cell 2
      have m3 := bX6.cell 3
      simp only [List.getElem?_toArray, List.getElem?_cons_zero, List.getElem?_cons_succ] at m0 m1 m2 m3
      have MT := RunOneTape_c m (.agg #[.int .i64 m.tp, .int .i64 m.sy, .int .i64 m.st, .slice A5 m.rules.length c5]) _ ws vs6 n w6 ⟨_, rfl, oX6.own.rules⟩ r6 (fun i hi => by
        obtain ⟨u, e, iu, hf, _⟩ := i6 i hi
        exact ⟨u, e, iu, hf⟩)
      clear T6
      -- region 11
      go_wp2_with fail
      refine MT.mono ?_
      rintro e w7 ⟨R7, h7, v7, cl7, rfl, o7, hx7⟩
      obtain rfl := RunOT.unique HSS.out h7
      simp only at o7 ⊢
      clear h7 MT m0 m1 m2 m3
      obtain ⟨A7, c7, rfl, _, _⟩ := id o7.ownT.form
      obtain ⟨W7, hW7⟩ : ∃ W, W = w7.alloc (.cells #[.int .i64 rq, .slice A7 rts.length c7] 30) := ⟨_, rfl⟩
      have hxW7 : Ext w7 W7 := by rw [hW7]; exact Ext.alloc _ _
      have bG : Blk W7 w7.heap.size 30 #[.int .i64 rq, .slice A7 rts.length c7] := by rw [hW7]; exact Blk.new _ _ _ _ rfl
      obtain ⟨gG, hgG⟩ : ∃ k, w7.heap.size = k := ⟨_, rfl⟩
      rw [hgG] at bG
      have hs67 : w6.heap.size ≤ gG := by rw [← hgG]; exact hx7.size
      have hx7 := hx7.trans hxW7
      have o7 := o7.ext hxW7
      have hE7 := hE6.trans hx7
      have bS7 := bS.ext hE7
      have hcc : (rn != rn) = false := by simp
      have hcd : (rk != rk) = false := by simp
      have hch : (rh != rh) = false := by simp
      have EQ := eqMultiConfig_c _ _ rq rts W7 o7.tapes (iS.ext hE7)
      have s0 := bS7.cell 0
      have s1 := bS7.cell 1
      simp only [List.getElem?_toArray, List.getElem?_cons_zero, List.getElem?_cons_succ] at s0 s1
      rw [hW7] at s0 s1
      -- region 12
      go_wp2_with fail
      try rw [← hW7]
      try rw [hgG]
      clear hW7 s0 s1
      refine EQ.mono ?_
      rintro e w8 ⟨rfl, hx8⟩
      have hE8 := hE7.trans hx8
      have o8 := o7.ext hx8
      have hXd := hE8.trans (Ext.drew w8)
      have bX8 := (bX6.ext (hx7.trans hx8)).ext (Ext.drew w8)
      have bM8 := bMC.ext hXd
      have c0 := bX8.cell 0
      have c1 := bX8.cell 1
      have c2 := bX8.cell 2
      have c3 := bX8.cell 3
      have d0 := bM8.cell 0
      have d1 := bM8.cell 1
      have d2 := bM8.cell 2
      have d3 := bM8.cell 3
      simp only [List.getElem?_toArray, List.getElem?_cons_zero, List.getElem?_cons_succ] at c0 c1 c2 c3 d0 d1 d2 d3
      have T9 := toMulti_c (.agg #[.int .i64 m.tp, .int .i64 m.sy, .int .i64 m.st, .slice Ar m.rules.length cr]) m w8.drew ⟨_, rfl, hr.ext (hXC.trans hXd)⟩ hlen
      have oX8 := (oX6.ext (hx7.trans hx8)).ext (Ext.drew w8)
      clear EQ
      -- region 14
      go_wp2_with fail
      refine wp_region_ordT 4 (readsT [0, 1] (.stir 2 (.stir 3 .done))) (by kernel_rfl) (by kernel_rfl) (fun _ _ _ _ _ h => h) ?_
      simp only [readsT]
      iterate 2 (refine wpOrdT_read (v := ?_) (by rfl) (Or.inl ⟨by rfl, fun x hx => ?_⟩) ?_; rotate_left; (· have a0 := hx.cell c0; have a1 := hx.cell c1; have a2 := hx.cell c2; have a3 := hx.cell c3; have b0 := hx.cell d0; have b1 := hx.cell d1; have b2 := hx.cell d2; have b3 := hx.cell d3; go_simp; try with_reducible rfl); try simp only [Act.put, List.setIfInBounds_toArray, List.set_cons_zero, List.set_cons_succ])
      refine wpOrdT_keep (by rfl) (fun K hK => ?_)
      go_simp
      refine T9.mono ?_
      rintro e w9 ⟨rv9, rfl, o9, hx9⟩
      obtain ⟨A9, c9, rfl, _, _⟩ := o9.form
      refine hK _ _ hx9 ?_
      clear hK K
      refine wpOrdT_keep (by rfl) (fun K hK => ?_)
      go_simp
      refine (eqMulti_c _ _ m w9 ⟨_, rfl, (oX8.ext hx9).own.rules⟩ ⟨_, rfl, o9.own.rules⟩).mono ?_
      rintro e w10 ⟨rfl, hx10⟩
      refine hK _ _ (hx9.trans hx10) ?_
      clear hK K
      refine wpOrdT_done ?_
      try simp only [List.drop_succ_cons, List.drop_zero]
      have hx810 : Ext w8 w10 := (Ext.drew w8).trans (hx9.trans hx10)
      have hE10 := hE8.trans hx810
      have T11 := toInt64SS_c _ ws w10 (h'.ext (hXC.trans hE10)) hwl
      clear T9 c0 c1 c2 c3 d0 d1 d2 d3
      -- region 16
      go_wp2_with fail
      refine T11.mono ?_
      rintro e w11 ⟨u11, rfl, o11, hx11⟩
      have hE11 := hE10.trans hx11
      obtain ⟨A11, c11, rfl, _, _⟩ := o11.rows.form
      have EQ := eqInt64SS_c w11 _ _ ws ws ((o6.ext (hx7.trans (hx8.trans (hx810.trans hx11)))).rows) o11.rows
      rw [lEq_true rfl] at EQ
      clear T11
      go_wp2_with fail
      refine EQ.mono ?_
      rintro e w12 ⟨rfl, hx12⟩
      have hE12 := hE11.trans hx12
      have hx5t : Ext w5 w12 := hxW5.trans (hx6.trans (hx7.trans (hx8.trans (hx810.trans (hx11.trans hx12)))))
      have bX12 := bX6.ext (hx7.trans (hx8.trans (hx810.trans (hx11.trans hx12))))
      have m0 := bX12.cell 0
      have m1 := bX12.cell 1
      have m2 := bX12.cell 2
      have m3 := bX12.cell 3
      simp only [List.getElem?_toArray, List.getElem?_cons_zero, List.getElem?_cons_succ] at m0 m1 m2 m3
      have MK := markMulti_c wS.heap.size m.tp m.sy m.st _ m.rules 1 w5 w12 o5 hx5t hE12.size (by omega) (by omega)
      clear EQ
      -- region 19
      go_wp2_with fail
      refine MK.mono ?_
      rintro e w13 ⟨rfl, hb13, ht13⟩
      have hE13 : Ext wS w13 := Below.trans hE12 hb13
      have hx6t : Ext w6 w12 := hx7.trans (hx8.trans (hx810.trans (hx11.trans hx12)))
      have hs65 : w5.heap.size ≤ W5.heap.size := hxW5.size
      have hs66 : W5.heap.size ≤ w6.heap.size := hx6.size
      have o12 := o8.ext (hx810.trans (hx11.trans hx12))
      have bG12 := bG.ext (hx8.trans (hx810.trans (hx11.trans hx12)))
      have hk13 : KeepB w6.heap.size w12 w13 := ht13.keepB (by omega) hb13.size
      have o13 := o12.keepB hk13
      have bG13 := bG12.keepB hk13 hs67
      have hs13 : W5.heap.size ≤ w13.heap.size := by have a := hx6t.size; have b := hb13.size; omega
      have MW := markInt64SST_c W5.heap.size _ ws (1 + ((2 * m.rules.length + totM m.rules : Nat) : Int)) w6 w13 o6 (fun q h1 h2 => (ht13 q (by omega) (Nat.lt_of_lt_of_le h2 hx6t.size)).trans (Below.block hx6t q h2)) hs13 (by omega) (by omega)
      clear MK m0 m1 m2 m3
      -- region 20
      go_wp2_with fail
      refine MW.mono ?_
      rintro e w14 ⟨rfl, hb14, ht14⟩
      have hE14 : Ext wS w14 := Below.trans hE13 (Below.mono hb14 hE5.size)
      have hk14 : KeepB w6.heap.size w13 w14 := TopF.keepB ht14 (by first | omega | exact Nat.le_refl _) hb14.size
      have o14 := o13.keepB hk14
      have bG14 := bG13.keepB hk14 hs67
      have bS14 := bS.ext hE14
      have hk1 : decide ((1 : Int) + ((2 * m.rules.length + totM m.rules : Nat) : Int) + (tot ws : Int) < 0) = false := decide_eq_false (by omega)
      have EQ := eqMultiConfig_c _ _ rq rts w14 o14.tapes (iS.ext hE14)
      have hV14 : w6.heap.size ≤ w14.heap.size := by have := hk13.1; have := hk14.1; have := hx6t.size; omega
      have g0 := bG14.cell 0
      have g1 := bG14.cell 1
      have s0 := bS14.cell 0
      have s1 := bS14.cell 1
      simp only [List.getElem?_toArray, List.getElem?_cons_zero, List.getElem?_cons_succ] at g0 g1 s0 s1
      clear MW
      -- region 21
      go_wp2_with fail
      refine EQ.mono ?_
      rintro e w15 ⟨rfl, hx15⟩
      have hE15 := hE14.trans hx15
      have o15 := o14.ext hx15
      have bG15 := bG14.ext hx15
      have hsz15 : w6.heap.size ≤ w15.heap.size := by have a2 := hx15.size; omega
      have MSt := markMultiConfig_c w6 rq _ cl7 rts 1 w15 o15 hsz15 (by omega) (by have := HRL.out; omega)
      clear EQ g0 g1 s0 s1
      have g0 := bG15.cell 0
      have g1 := bG15.cell 1
      simp only [List.getElem?_toArray, List.getElem?_cons_zero, List.getElem?_cons_succ] at g0 g1
      -- region 24
      go_wp2_with fail
      refine MSt.mono ?_
      rintro e w16' ⟨rfl, ⟨ts', hMk, oN⟩, hb16, hNI⟩
      have hS6 : wS.heap.size ≤ w6.heap.size := hE6.size
      have hE16' : Ext wS w16' := Below.trans hE15 (Below.mono hb16 hS6)
      have bG16 := hNI _ _ bG15
      have iN := oN.tapes
      have HMk := Lib.hid hMk
      have hk2 : decide ((1 : Int) + ((totT rts : Nat) : Int) < 0) = false := decide_eq_false (by omega)
      have HS := heldMultiConfig_c rq _ rts ts' 1 w16' iN hMk (by omega) (by have := HRL.out; omega)
      clear MSt g0 g1 hMk
      have g0 := bG16.cell 0
      have g1 := bG16.cell 1
      simp only [List.getElem?_toArray, List.getElem?_cons_zero, List.getElem?_cons_succ] at g0 g1
      -- region 26
      go_wp2_with fail
      refine HS.mono ?_
      rintro e w16 ⟨rfl, hx16⟩
      have hE16 := hE16'.trans hx16
      have hXw16 := hXC.trans hE16
      have bM16 := bMC.ext hE16
      have m0 := bM16.cell 0
      have m1 := bM16.cell 1
      have m2 := bM16.cell 2
      have m3 := bM16.cell 3
      simp only [List.getElem?_toArray, List.getElem?_cons_zero, List.getElem?_cons_succ] at m0 m1 m2 m3
      have TM := toMulti_c (.agg #[.int .i64 m.tp, .int .i64 m.sy, .int .i64 m.st, .slice Ar m.rules.length cr]) m w16 ⟨_, rfl, hr.ext hXw16⟩ hlen
      clear HS g0 g1
      -- region 31
      go_wp2_with fail
      refine TM.mono ?_
      rintro e wa ⟨ra, rfl, oa, hxa⟩
      obtain ⟨Aa, ca, rfl, _, _⟩ := oa.form
      have TW := toInt64SS_c _ ws wa (h'.ext (hXw16.trans hxa)) hwl
      clear TM m0 m1 m2 m3
      go_wp2_with fail
      refine TW.mono ?_
      rintro e wb ⟨ub, rfl, ob, hxb⟩
      obtain ⟨vsb, rb, ib⟩ := words_own ob hwl
      obtain ⟨Ab, cb, rfl, _, _, _⟩ := rb.form
      have MT := RunOneTape_c m (.agg #[.int .i64 m.tp, .int .i64 m.sy, .int .i64 m.st, .slice Aa m.rules.length ca]) _ ws vsb n wb ⟨_, rfl, (oa.ext hxb).own.rules⟩ rb (fun i hi => by
        obtain ⟨u, e, iu, hf, _⟩ := ib i hi
        exact ⟨u, e, iu, hf⟩)
      clear TW
      go_wp2_with fail
      refine MT.mono ?_
      rintro e wh ⟨RH, hHH, vH, clH, rfl, oH, hxH⟩
      obtain rfl := RunOT.unique HSS.out hHH
      simp only at oH ⊢
      clear hHH MT
      obtain ⟨AH, cH, rfl, _, _⟩ := id oH.ownT.form
      obtain ⟨WH, hWH⟩ : ∃ W, W = wh.alloc (.cells #[.int .i64 rq, .slice AH rts.length cH] 30) := ⟨_, rfl⟩
      have hxWH : Ext wh WH := by rw [hWH]; exact Ext.alloc _ _
      have hxh := hxa.trans (hxb.trans (hxH.trans hxWH))
      have hEH := hE16.trans hxh
      have bSH := bS.ext hEH
      have EQ := eqMultiConfig_c _ _ rq rts WH (oH.ext hxWH).tapes (iS.ext hEH)
      have s0 := bSH.cell 0
      have s1 := bSH.cell 1
      simp only [List.getElem?_toArray, List.getElem?_cons_zero, List.getElem?_cons_succ] at s0 s1
      rw [hWH] at s0 s1
      -- region 32
      go_wp2_with fail
      try rw [← hWH]
      clear hWH s0 s1
      refine EQ.mono ?_
      rintro e w17 ⟨rfl, hx17⟩
      have hLast := (hx16.trans hxh).trans hx17
      have bG17 := bG16.ext hLast
      have HS := heldMultiConfig_c rq _ rts ts' 1 w17 (iN.ext hLast) HMk.out (by omega) (by have := HRL.out; omega)
      have g0 := bG17.cell 0
      have g1 := bG17.cell 1
      simp only [List.getElem?_toArray, List.getElem?_cons_zero, List.getElem?_cons_succ] at g0 g1
      clear EQ
      -- region 35
      go_wp2_with fail
      refine HS.mono ?_
      rintro e w18 ⟨rfl, hx18⟩
      go_wp2
      go_ret
      exact ⟨rfl, ((hXC.trans hE16').trans hLast).trans hx18⟩
end Go.Proofs.YtfghojbbofobeaaGreat
end
