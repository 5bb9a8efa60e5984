/- Contract of the program's decoding of a configuration of the machine with one tape for several.
Contract: the program's text of the configuration for which one of the machine with one tape stands. The library's tables are as their text lays them.
Contract of the program's run of a machine by its runner. The machine is valid and the configuration is one of its. -/
import Derived.Test.YtgeckhjkahnonaaGreatDoorO39
import Derived.Test.YtgeckhjkahnonaaGreatDoorO07
import Derived.Test.YtgeckhjkahnonaaGreatDoorO14
import Derived.Test.YtgeckhjkahnonaaGreatDoorO33
import Derived.Test.YtgeckhjkahnonaaGreatDoorO29
import Derived.Test.YtgeckhjkahnonaaGreatDoorO05
import Derived.DeepKeys4
import Derived.Test.YtgeckhjkahnonaaGreatDoorO27
import Derived.Test.YtgeckhjkahnonaaGreatDoorO13
section
set_option linter.unusedSimpArgs false
set_option linter.unusedVariables false
namespace Go.Proofs.YtgeckhjkahnonaaGreatDoor
open Go Go.RowKit Go.Proofs Go.Maps
set_option maxHeartbeats 400000
theorem side_allM {xs : List Int} {sy : Int} (h : sideOk xs sy 200 = true) : xs.length ≤ 200 ∧ ∀ z ∈ xs, 0 ≤ z ∧ z ≤ sy - 1 := by
  unfold sideOk at h
  simp only [Bool.and_eq_true, decide_eq_true_eq, List.all_eq_true] at h
  refine ⟨by omega, fun z hz => ?_⟩
  have := h.1.2 z hz
  simpa [inB] using this
theorem conf_allM {sy st : Int} {rs : List RuleD} {c : ConfD} (h : confB ⟨sy, st, rs⟩ c = true) : (0 ≤ c.q ∧ c.q < st) ∧ (c.l.length ≤ 200 ∧ ∀ z ∈ c.l, 0 ≤ z ∧ z ≤ sy - 1) ∧ (c.r.length ≤ 200 ∧ ∀ z ∈ c.r, 0 ≤ z ∧ z ≤ sy - 1) := by
  simp only [confB, Bool.and_eq_true, inB, decide_eq_true_eq] at h
  exact ⟨by omega, side_allM h.1.2, side_allM h.2⟩
end Go.Proofs.YtgeckhjkahnonaaGreatDoor
end
section
set_option linter.unusedSimpArgs false
set_option linter.unusedVariables false
namespace Go.Proofs.YtgeckhjkahnonaaGreatDoor
open Go Go.RowKit Go.Proofs Go.Maps
set_option maxHeartbeats 400000
theorem mpGuard : Tryz.prog.eqGuardType Tryz.prog.depth 73 = false := by kernel_rfl
theorem mpLits (p : MP) (hs : SmM p) : p.v.formed Tryz.prog 73 = true ∧ Tryz.prog.keyLits (Tryz.prog.types.size + 1) 73 p.v.cells.toList = some [.int .i64 p.k, .int .i64 p.a, .int .i64 p.t, .int .i64 p.c, .int .i64 p.f0, .int .i64 p.f1, .int .i64 p.f2, .int .i64 p.d] := by
  obtain ⟨h0, h1, h2, h3, h4, h5, h6, h7⟩ := hs
  have w0 := smallM_wf h0
  have w1 := smallM_wf h1
  have w2 := smallM_wf h2
  have w3 := smallM_wf h3
  have w4 := smallM_wf h4
  have w5 := smallM_wf h5
  have w6 := smallM_wf h6
  have w7 := smallM_wf h7
  have c8 : Tryz.prog.cellsOf 73 = 8 := by kernel_rfl
  have c3 : Tryz.prog.cellsOf 71 = 3 := by kernel_rfl
  have c1 : Tryz.prog.cellsOf 2 = 1 := by kernel_rfl
  obtain ⟨d, hd⟩ : ∃ d, Tryz.prog.types.size = d + 2 := ⟨Tryz.prog.types.size - 2, by decide +kernel⟩
  refine ⟨by simp [Value.formed, MP.v, Tryz.underlying73, c8], ?_⟩
  rw [hd]
  simp [Program.keyLits, MP.v, Value.cells, Tryz.underlying73, Tryz.underlying71, Tryz.underlying2, c8, c3, c1, w0, w1, w2, w3, w4, w5, w6, w7, show List.range 3 = [0, 1, 2] from rfl]
theorem mpNeq_run (w : World) (p q : MP) (hp : SmM p) (hq : SmM q) : (binOp .neq 73 p.v q.v).run Tryz.prog w = .ok (.bool (decide (p ≠ q))) w := by
  obtain ⟨f1, l1⟩ := mpLits p hp
  obtain ⟨f2, l2⟩ := mpLits q hq
  have hk : Tryz.prog.keyTypeAt 8 73 = true := by kernel_rfl
  obtain ⟨r, hr, hiff⟩ := run_equalIn_deep (P := Tryz.prog) 9992 8 73 hk w _ _ p.v q.v _ _ f1 f2 l1 l2
  have e : (binOp .neq 73 p.v q.v).run Tryz.prog w = ((Op.equalIn 10000 73 p.v q.v).run Tryz.prog w).andThen fun b w' => .ok (.bool (!b)) w' := by
    unfold MP.v
    exact run_neq_struct ..
  rw [e, show (10000 : Nat) = 9992 + 8 from rfl, hr]
  have hb : (!r) = decide (p ≠ q) := by
    cases r with
    | true =>
      have h := hiff.1 rfl
      simp at h
      obtain ⟨a, b, c, d, e, f, g, i⟩ := h
      have : p = q := by
        cases p; cases q
        simp_all
      simp [this]
    | false =>
      have h : ¬ p = q := fun e => by
        subst e
        exact absurd (hiff.2 rfl) (by simp)
      simp [h]
  show Result.ok _ _ = _
  rw [hb]
/-- What the closure of OneTapeTexts needs of its variables. -/
structure OtEnv (w : World) (bv bp : Nat) (m : MultiD) (s : List MP × List RuleD) : Prop where
  ptr : ∃ bx base rv pv bm, Blk w bv 56 #[.pointer (some ⟨bx, 0, none⟩)] ∧ PlM base w bx (2 * m.sy) s.1.length s.2 s.1 rv pv bm
  mac : ∃ A c, Blk w bp 26 #[.int .i64 m.tp, .int .i64 m.sy, .int .i64 m.st, .slice A m.rules.length c]
theorem OtEnv.ext {w w' : World} {bv bp : Nat} {m : MultiD} {s : List MP × List RuleD} (h : OtEnv w bv bp m s) (he : Ext w w') : OtEnv w' bv bp m s := by
  obtain ⟨⟨bx, base, r2, pv, bm, h2, h3⟩, A, c, h1⟩ := h
  exact ⟨⟨bx, base, r2, pv, bm, h2.ext he, h3.ext he⟩, A, c, h1.ext he⟩
theorem lookP_small {m : MultiD} (hm : multiOk m = true) {p : MP} (hp : WOk m p) : SmM (lookP p.a) := by
  have h := hp.small hm
  have z : smallM 0 := ⟨by decide, by decide⟩
  exact ⟨z, h.2.1, z, z, z, z, z, z⟩
set_option maxRecDepth 20000 in
set_option maxHeartbeats 4000000 in
theorem oneText_c (bv bp : Nat) (m : MultiD) (s : List MP × List RuleD) (c : ConfD) (lv qv : Value) (w : World) (hm : multiOk m = true) (hok : ∀ p ∈ s.1, WOk m p) (hE : OtEnv w bv bp m s) (hc : confB (oneM m s) c = true) (hl : Ints w lv c.l) (hq : Ints w qv c.r) (fl : Flat lv) (fr : Flat qv) (hT : Tab w) :
    Calls Tryz.prog 23 #[.agg #[.int .i64 c.q, lv, qv], .pointer (some ⟨bv, 0, none⟩), .pointer (some ⟨bp, 0, none⟩)] w fun e w' => e = .returned (.string (bsS (txtO m s c))) ∧ Ext w w' := by
  obtain ⟨Al, cl, rfl, _, _⟩ := hl.form
  obtain ⟨Aq, cq, rfl, _, _⟩ := hq.form
  obtain ⟨⟨q0, q1⟩, ⟨b1, b2⟩, ⟨b3, b4⟩⟩ := conf_allM (sy := 2 * m.sy) (st := (s.1.length : Int)) (rs := s.2) hc
  obtain ⟨i, hi⟩ : ∃ i : Nat, c.q = i := ⟨c.q.toNat, by omega⟩
  have hil : i < s.1.length := by omega
  obtain ⟨p, hp⟩ : ∃ p, s.1[i]? = some p := ⟨_, List.getElem?_eq_getElem hil⟩
  have hpk : WOk m p := hok p (List.mem_of_getElem? hp)
  have HTX : Hid (txtO m s c = txtW m p c) := Lib.hid (by
    unfold txtO
    rw [hi, Int.toNat_natCast, List.getD_eq_getElem?_getD, hp]
    rfl)
  have hB1 : ∀ z ∈ c.l, 0 ≤ z ∧ z ≤ 2 * m.sy - 1 := fun z hz => by have := b2 z hz; omega
  have hB2 : ∀ z ∈ c.r, 0 ≤ z ∧ z ≤ 2 * m.sy - 1 := fun z hz => by have := b4 z hz; omega
  have HDG : Hid ((decOne m p c).2 = 0 → MDig (decOne m p c).1 ∧ 0 < (decOne m p c).1.tapes.length) := Lib.hid (decOne_dig hm hpk b1 b3 hB1 hB2)
  have HB1 := Lib.hid hB1
  have HB2 := Lib.hid hB2
  have NQ := fun w' => mpNeq_run w' p (lookP p.a) (hpk.small hm) (lookP_small hm hpk)
  obtain ⟨nb, hnb⟩ : ∃ nb, decide (p ≠ lookP p.a) = nb := ⟨_, rfl⟩
  rw [hnb] at NQ
  have HNB : Hid ((nb = false → p = lookP p.a) ∧ (nb = true → p ≠ lookP p.a)) := Lib.hid ⟨fun h => by simpa [h] using hnb, fun h => by simpa [h] using hnb⟩
  clear hnb
  obtain ⟨g, hg⟩ : ∃ g, w.heap.size = g := ⟨_, rfl⟩
  obtain ⟨W, hW⟩ : ∃ W, W = w.alloc (.cells #[.int .i64 c.q, .slice Al c.l.length cl, .slice Aq c.r.length cq] 60) := ⟨_, rfl⟩
  have hX : Ext w W := by rw [hW]; exact Ext.alloc _ _
  have HWS : Hid (W.heap.size = g + 1) := Lib.hid (by rw [hW]; simp [hg])
  have bC : Blk W g 60 #[.int .i64 c.q, .slice Al c.l.length cl, .slice Aq c.r.length cq] := by rw [hW]; exact Blk.new _ _ _ _ hg
  obtain ⟨⟨bx, base, r2, pv, bm, bP, hst⟩, Am, cm, bM⟩ := hE.ext hX
  obtain ⟨Ap, cp, rfl, hp1, hp2, _⟩ := (ownsRow_row hst.places).form
  obtain ⟨gp, rfl, _, _, hP⟩ := placesM_at hst.places hp
  have DO := fun X (hx : Ext W X) => decodeOneTape_c base X m (.slice Am m.rules.length cm) bx (2 * m.sy) s.1.length s.2 s.1 r2 _ bm c (.slice Al c.l.length cl) (.slice Aq c.r.length cq) i p (hst.ext hx) hm hi hp hpk (hl.ext (hX.trans hx)) (hq.ext (hX.trans hx)) fl fr b1 b3 HB1 HB2
  have x3 := hst.blk.cell 3
  have xp := bP.cell 0
  have c0 := bC.cell 0
  have c1 := bC.cell 1
  have c2 := bC.cell 2
  have m0 := bM.cell 0
  have m1 := bM.cell 1
  have m2 := bM.cell 2
  have m3 := bM.cell 3
  simp only [List.getElem?_toArray, List.getElem?_cons_zero, List.getElem?_cons_succ] at x3 xp c0 c1 c2 m0 m1 m2 m3
  have k0 := (hP 0 (by omega)).trans (by rfl)
  have k1 := (hP 1 (by omega)).trans (by rfl)
  have k2 := (hP 2 (by omega)).trans (by rfl)
  have k3 := (hP 3 (by omega)).trans (by rfl)
  have k4 := (hP 4 (by omega)).trans (by rfl)
  have k5 := (hP 5 (by omega)).trans (by rfl)
  have k6 := (hP 6 (by omega)).trans (by rfl)
  have k7 := (hP 7 (by omega)).trans (by rfl)
  simp only [Nat.add_zero] at k0
  have HT := Lib.hid (hT.ext hX)
  rw [HTX.out]
  obtain ⟨pk, pa, pt, pcn, pf0, pf1, pf2, pd⟩ := p
  simp only [MP.v, lookP] at NQ k0 k1 k2 k3 k4 k5 k6 k7
  rw [hi] at c0
  have zD := Ext.drew W
  have e3 := zD.cell x3
  have ep := zD.cell xp
  have e0 := zD.cell c0
  have h0 := zD.cell k0
  have h1 := zD.cell k1
  have h2 := zD.cell k2
  have h3 := zD.cell k3
  have h4 := zD.cell k4
  have h5 := zD.cell k5
  have h6 := zD.cell k6
  have h7 := zD.cell k7
  have HI := Lib.hid hi
  have i1 : (0 : Int) ≤ (i : Int) := by omega
  have i2 : (i : Int) < (s.1.length : Int) := by omega
  clear hi hp hP hE hst hok hc b2 b4 hB1 hB2 q0 q1 hpk
  go_enter Tryz.func23, Tryz.ntmps23
  go_upto_region 1 with fail
  try rw [← hW]
  try rw [hg]
  clear hW
  refine wp_region_ordT 9 (readsT [0, 1, 2, 3, 4, 5, 6, 7] (.stir 8 .done)) (by kernel_rfl) (by kernel_rfl) (fun _ _ _ _ _ h => h) ?_
  simp only [readsT]
  iterate 8 (refine wpOrdT_read (v := ?_) (by rfl) (Or.inl ⟨by rfl, fun x hx => ?_⟩) ?_; rotate_left; (· have u0 := hx.cell h0; have u1 := hx.cell h1; have u2 := hx.cell h2; have u3 := hx.cell h3; have u4 := hx.cell h4; have u5 := hx.cell h5; have u6 := hx.cell h6; have u7 := hx.cell h7; have v3 := hx.cell e3; have vp := hx.cell ep; have v0 := hx.cell e0; go_simp; try with_reducible rfl); try simp only [Act.put, List.setIfInBounds_toArray, List.set_cons_zero, List.set_cons_succ])
  refine wpOrdT_stir (by rfl) (fun K hK => ?_)
  go_simp
  refine hK _ _ (Ext.alloc _ _) ?_
  clear hK K
  try simp only [Act.put, List.setIfInBounds_toArray, List.set_cons_zero, List.set_cons_succ]
  refine wpOrdT_done ?_
  try simp only [List.drop_succ_cons, List.drop_zero]
  have hgs : W.heap.size = g + 1 := HWS.out
  have hDs : W.drew.heap.size = g + 1 := hgs
  obtain ⟨V, hV⟩ : ∃ V, V = (W.alloc (.cells #[.int .i64 pk, .int .i64 pa, .int .i64 pt, .int .i64 pcn, .int .i64 pf0, .int .i64 pf1, .int .i64 pf2, .int .i64 pd] 73)).drew := ⟨_, rfl⟩
  have hXV : Ext W V := by rw [hV]; exact (Ext.alloc _ _).trans (Ext.drew _)
  have bT : Blk V (g + 1) 73 #[.int .i64 pk, .int .i64 pa, .int .i64 pt, .int .i64 pcn, .int .i64 pf0, .int .i64 pf1, .int .i64 pf2, .int .i64 pd] := by rw [hV]; exact (Blk.new _ _ _ _ hgs).drew
  clear h0 h1 h2 h3 h4 h5 h6 h7 e3 ep e0 k0 k1 k2 k3 k4 k5 k6 k7
  have zV := Ext.drew V
  have q0 := bT.cell 0
  have q1 := bT.cell 1
  have q2 := bT.cell 2
  have q3 := bT.cell 3
  have q4 := bT.cell 4
  have q5 := bT.cell 5
  have q6 := bT.cell 6
  have q7 := bT.cell 7
  simp only [List.getElem?_toArray, List.getElem?_cons_zero, List.getElem?_cons_succ] at q0 q1 q2 q3 q4 q5 q6 q7
  have q0 := zV.cell q0
  have q1 := zV.cell q1
  have q2 := zV.cell q2
  have q3 := zV.cell q3
  have q4 := zV.cell q4
  have q5 := zV.cell q5
  have q6 := zV.cell q6
  have q7 := zV.cell q7
  have LK := look_c pa V.drew
  have hXVd := hXV.trans zV
  simp only [MP.v, lookP] at LK
  go_upto_region 2 with fail
  try rw [← hV]
  try rw [hDs]
  clear hV hDs
  refine wp_region_ordT 4 (readsT [0, 1, 2] (.stir 3 .done)) (by kernel_rfl) (by kernel_rfl) (fun _ _ _ _ _ h => h) ?_
  simp only [readsT]
  iterate 3 (refine wpOrdT_read (v := ?_) (by rfl) (Or.inl ⟨by rfl, fun x hx => ?_⟩) ?_; rotate_left; (· have u0 := hx.cell q0; have u1 := hx.cell q1; have u2 := hx.cell q2; have u3 := hx.cell q3; have u4 := hx.cell q4; have u5 := hx.cell q5; have u6 := hx.cell q6; have u7 := hx.cell q7; go_simp; try with_reducible rfl); try simp only [Act.put, List.setIfInBounds_toArray, List.set_cons_zero, List.set_cons_succ])
  refine wpOrdT_stir (by rfl) (fun K hK => ?_)
  go_simp
  go_at_call 24
  refine LK.mono ?_
  rintro e w1 ⟨rfl, hx1⟩
  refine hK _ _ hx1 ?_
  clear hK K LK
  try simp only [Act.put, List.setIfInBounds_toArray, List.set_cons_zero, List.set_cons_succ]
  refine wpOrdT_done ?_
  try simp only [List.drop_succ_cons, List.drop_zero]
  clear q0 q1 q2 q3 q4 q5 q6 q7
  have hX1 := hXVd.trans hx1
  have gd := mpGuard
  cases nb with
  | false =>
    have hpl := HNB.out.1 rfl
    have HT2 : Hid (txtW m ⟨pk, pa, pt, pcn, pf0, pf1, pf2, pd⟩ c = if (decOne m ⟨pk, pa, pt, pcn, pf0, pf1, pf2, pd⟩ c).2 = 0 then mconT (decOne m ⟨pk, pa, pt, pcn, pf0, pf1, pf2, pd⟩ c).1 else []) := Lib.hid (by
      unfold txtW
      exact if_pos hpl)
    have DO1 := DO w1 hX1
    obtain ⟨⟨⟨uq, uts⟩, uk⟩, hdec⟩ : ∃ q, decOne m ⟨pk, pa, pt, pcn, pf0, pf1, pf2, pd⟩ c = q := ⟨_, rfl⟩
    rw [hdec] at DO1 HT2 HDG
    have xp := hX1.cell xp
    have c0 := hX1.cell c0
    have c1 := hX1.cell c1
    have c2 := hX1.cell c2
    have m0 := hX1.cell m0
    have m1 := hX1.cell m1
    have m2 := hX1.cell m2
    have m3 := hX1.cell m3
    rw [HI.out] at DO1
    clear hpl DO hdec x3 HNB
    go_wp2_with fail
    refine DO1.mono ?_
    rintro e w2 ⟨v2, cl2, rfl, o2, hx2⟩
    clear DO1
    simp only at o2 ⊢
    by_cases hk : uk = 0
    · obtain ⟨hdg, hpos⟩ := HDG.out hk
      have hdt := hdg.t
      obtain ⟨g2, k2, rfl, hk2, hk3, hTF⟩ := o2.tapF hpos (fun t ht => by have := hdt t ht; exact ⟨by omega, by omega⟩)
      have hX2 := hX1.trans hx2
      obtain ⟨U, hU⟩ : ∃ U, U = w2.alloc (.cells #[.int .i64 uq, .slice (some ⟨g2, 0, none⟩) uts.length k2] 48) := ⟨_, rfl⟩
      have hXU : Ext w2 U := by rw [hU]; exact Ext.alloc _ _
      have MT := multiConfigText_c ⟨uq, uts⟩ g2 0 k2 U (hTF.ext hXU) hk2 hk3 hdg (HT.out.ext (hX2.trans hXU))
      have HT3 : Hid (txtW m ⟨pk, pa, pt, pcn, pf0, pf1, pf2, pd⟩ c = mconT ⟨uq, uts⟩) := Lib.hid (by rw [HT2.out]; exact if_pos hk)
      subst hk
      clear hdg hdt hpos hTF HDG HT2
      go_wp2_with fail
      try rw [← hU]
      clear hU
      refine MT.mono ?_
      rintro e w3 ⟨rfl, hx3⟩
      go_wp2
      go_ret
      rw [HT3.out]
      exact ⟨rfl, ((hX.trans hX2).trans hXU).trans hx3⟩
    · have HT3 : Hid (txtW m ⟨pk, pa, pt, pcn, pf0, pf1, pf2, pd⟩ c = []) := Lib.hid (by rw [HT2.out]; exact if_neg hk)
      have hne : (uk != 0) = true := by simpa using hk
      obtain ⟨A2, k2, rfl, _, _, _⟩ := (ownsRow_row o2.own).form
      clear HDG HT2 hk
      go_wp2
      go_ret
      rw [HT3.out]
      exact ⟨rfl, ((hX.trans hX1).trans hx2).trans (Ext.alloc _ _)⟩
  | true =>
    have hpl := HNB.out.2 rfl
    have HT2 : Hid (txtW m ⟨pk, pa, pt, pcn, pf0, pf1, pf2, pd⟩ c = []) := Lib.hid (by
      unfold txtW
      exact if_neg hpl)
    clear hpl DO HNB
    go_wp2
    go_ret
    rw [HT2.out]
    exact ⟨rfl, hX.trans hX1⟩
end Go.Proofs.YtgeckhjkahnonaaGreatDoor
end
section
set_option linter.unusedSimpArgs false
set_option linter.unusedVariables false
namespace Go.Proofs.YtgeckhjkahnonaaGreatDoor
open Go Go.RowKit Go.Proofs Go.Shelf
attribute [local go_sem] Oper.semAt_some
set_option maxHeartbeats 400000
section
variable {w0 w w' A B : World} {b bq bp : Nat} {m : MachD} {c d d' : ConfD} {mv lv rv lv' rv' : Value} {N : Nat}
theorem RunAt.vals (h : RunAt w0 w b m d mv lv rv) (h' : RunAt w0 w b m d' mv lv' rv') : lv = lv' ∧ rv = rv' := by
  have e := (h.blk.symm.trans h'.blk)
  simp at e
  exact ⟨e.2.1, e.2.2⟩
theorem not_cells {k : Nat} {o : Obj} {t : TypeId} {cs : Array Value} (h : Blk A k t cs) (ho : ∃ o, A.heap[k]? = some o ∧ o.isCells = false) : False := by
  obtain ⟨o, h1, h2⟩ := ho
  rw [h] at h1
  cases h1
  cases h2
theorem own_not_cells {base k : Nat} {e : TypeId} {size n : Nat} {v : Value} {xs : List Value} (h : A.ownsRow base e size v n xs) (hv : v.ownBlock = some k) (ho : ∃ o, A.heap[k]? = some o ∧ o.isCells = false) : False := by
  rcases h.2 with ⟨rfl, _⟩ | ⟨g, cap, cur, rfl, _, hg, _⟩
  · simp [Value.ownBlock] at hv
  · simp [Value.ownBlock] at hv
    subst hv
    obtain ⟨o, h1, h2⟩ := ho
    rw [hg] at h1
    cases h1
    cases h2
/-- What no runner has is turned. -/
theorem RunAt.turn (h : RunAt w0 A b m d mv lv rv) {row : Option Nat} (hg : A.grownBy B row) (hr : ∀ r, row = some r → w0.heap.size ≤ r ∧ ∃ o : Obj, A.heap[r]? = some o ∧ o.isCells = false) : RunAt w0 B b m d mv lv rv := by
  refine ⟨h.blk.kept hg (fun e => not_cells (o := .cells #[] 0) h.blk (hr b e.symm).2), h.rules0, h.ext0.grown hg (fun k hk => (hr k hk).1), ?_, ?_, h.ap, h.low⟩
  · exact own_same h.l (fun g hgl => hg.block g (h.l.lt g hgl).2 (fun e => own_not_cells h.l hgl (hr g e.symm).2))
  · exact own_same h.r (fun g hgl => hg.block g (h.r.lt g hgl).2 (fun e => own_not_cells h.r hgl (hr g e.symm).2))
theorem RunAt.apart (h : RunAt w0 A b m d mv lv rv) {p : Addr} (hb : p.block ≠ b) (hl : lv.ownBlock ≠ some p.block) (hr : rv.ownBlock ≠ some p.block) (hp : w0.heap.size ≤ p.block) (u : Value) : RunAt w0 (A.setCell p u) b m d mv lv rv :=
  ⟨h.blk.far (Ne.symm hb) u, h.rules0, h.ext0.setCell hp u, ownsRow_far h.l (fun k hk e => hl (by rw [← e]; exact hk)) u, ownsRow_far h.r (fun k hk e => hr (by rw [← e]; exact hk)) u, h.ap, h.low⟩
theorem KpR.trans {C : World} (h : KpR w0 b bq bp m mv A B) (k : KpR w0 b bq bp m mv B C) : KpR w0 b bq bp m mv A C :=
  ⟨Nat.le_trans h.1 k.1, fun d lv rv hr => k.2.1 d lv rv (h.2.1 d lv rv hr), k.2.2.1.trans h.2.2.1, k.2.2.2.trans h.2.2.2⟩
theorem KpR.turn (W : World) (l : Nat) (o o' : Obj) (h0 : w0.heap.size ≤ l) (hq : bq < l) (hp : bp < l) (h : W.heap[l]? = some o) (ho : o.isCells = false) : KpR w0 b bq bp m mv W (W.putObj l o') := by
  have hg := grownBy_putObj' W l o'
  have hl := (Array.getElem?_eq_some_iff.1 h).1
  exact ⟨hg.size, fun d lv rv hr => hr.turn hg (fun r e => by cases e; exact ⟨h0, o, h, ho⟩), hg.block bq (by omega) (fun e => by injection e with e; omega), hg.block bp (by omega) (fun e => by injection e with e; omega)⟩
theorem WrR.keeps (h : WrR w0 b m mv A B) : KeepsOthers A B := by
  obtain ⟨d, lv, rv, d', lv', rv', h1, h2, hm⟩ := h
  refine ⟨hm.size, fun k o hk ho => ?_⟩
  have hlt := (Array.getElem?_eq_some_iff.1 hk).1
  refine (hm.same k hlt (fun e => ?_) (fun e => own_not_cells h1.l e ⟨o, hk, ho⟩) (fun e => own_not_cells h1.r e ⟨o, hk, ho⟩)).trans hk
  subst e
  exact not_cells (o := o) h1.blk ⟨o, hk, ho⟩
end
/-- What lies apart from a runner. -/
structure Apt (b k : Nat) (lv rv : Value) : Prop where
  nb : k ≠ b
  nl : lv.ownBlock ≠ some k
  nr : rv.ownBlock ≠ some k
theorem Apt.moved {b k : Nat} {A B : World} {lv rv lv' rv' : Value} (h : Apt b k lv rv) (hm : Moved b A B lv rv lv' rv') (hk : k < A.heap.size) : Apt b k lv' rv' ∧ B.heap[k]? = A.heap[k]? := by
  refine ⟨⟨h.nb, fun e => ?_, fun e => ?_⟩, hm.same k hk h.nb h.nl h.nr⟩
  · rcases hm.newl _ e with e | e | e
    · exact h.nl e
    · exact h.nr e
    · omega
  · rcases hm.newr _ e with e | e | e
    · exact h.nl e
    · exact h.nr e
    · omega
theorem steps_c (v : Value) (N : Int) (w : World) (h : ∃ a, v = .pointer a) :
    Calls Tryz.prog 49 #[v, .int .i64 N] w fun e w' => e = .returned (.func (.func 72) #[] #[.pointer (some ⟨w.heap.size + 1, 0, none⟩), .pointer (some ⟨w.heap.size, 0, none⟩)]) ∧ w' = (w.alloc (.cells #[v] 115)).alloc (.cells #[.int .i64 N] 2) := by
  obtain ⟨a, rfl⟩ := h
  go_enter Tryz.func49, Tryz.ntmps49
  go_wp2
  go_ret
  exact ⟨rfl, rfl⟩
/-- The four boxes of a run: three results, and the number of steps. -/
structure FourR (W : World) (k : Nat) (a : Int) (s : Bool) (e n : Int) : Prop where
  b0 : Blk W k 2 #[.int .i64 a]
  b1 : Blk W (k + 1) 4 #[.bool s]
  b2 : Blk W (k + 2) 2 #[.int .i64 e]
  b3 : Blk W (k + 3) 2 #[.int .i64 n]
theorem FourR.same {W W' : World} {k : Nat} {a e n : Int} {s : Bool} (h : FourR W k a s e n) (h0 : ∀ i, i < 4 → W'.heap[k + i]? = W.heap[k + i]?) : FourR W' k a s e n :=
  ⟨(h0 0 (by omega)).trans h.b0, (h0 1 (by omega)).trans h.b1, (h0 2 (by omega)).trans h.b2, (h0 3 (by omega)).trans h.b3⟩
theorem FourR.lt {W : World} {k : Nat} {a e n : Int} {s : Bool} (h : FourR W k a s e n) : k + 3 < W.heap.size := h.b3.lt
end Go.Proofs.YtgeckhjkahnonaaGreatDoor
end
