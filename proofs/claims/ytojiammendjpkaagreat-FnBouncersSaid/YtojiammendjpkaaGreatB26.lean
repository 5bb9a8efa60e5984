/- Contract: a step of a formula tape.
Contracts: whether two formula tapes have one shape; how one has grown against another.
Contract: how a formula tape has grown against another one. -/
import Derived.Test.YtojiammendjpkaaGreatB25
import Derived.Test.YtojiammendjpkaaGreatB19
import Derived.Test.YtojiammendjpkaaGreatB21
section
set_option linter.unusedSimpArgs false
set_option linter.unusedVariables false
namespace Go.Proofs.YtojiammendjpkaaGreat
open Go Go.RowKit Go.Proofs
set_option maxHeartbeats 400000
theorem wide_len (f : FoD) : (wideF f).ws.length = f.ws.length ∧ (wideF f).rs.length = f.rs.length ∧ (wideF f).os.length = f.os.length := by
  unfold wideF
  split
  · exact ⟨by simp, rfl, rfl⟩
  · split
    · exact ⟨by simp, rfl, rfl⟩
    · exact ⟨rfl, rfl, rfl⟩
theorem raw_len {m : MachD} {f g : FoD} {k : Int} (h : rawF m f = some (k, g)) : g.ws.length = f.ws.length ∧ g.rs.length = f.rs.length ∧ g.os.length = f.os.length := by
  unfold rawF at h
  split at h
  · split at h
    · cases h
    · injection h with h
      injection h with hk hg
      subst hg
      unfold stW
      obtain ⟨a, b, c⟩ := wide_len ⟨(ruleW m f).n, f.hd, f.at_ + (ruleW m f).m, f.ws.set f.hd.toNat ((f.ws.getD f.hd.toNat []).set f.at_.toNat (ruleW m f).w), f.rs, f.os⟩
      exact ⟨by rw [a]; simp, b, c⟩
  · split at h
    · rename_i w _
      injection h with h
      injection h with hk hg
      subst hg
      unfold passF
      obtain ⟨a, b, c⟩ := wide_len ⟨f.q, if (onB f).2 = 1 then (onB f).1 + 1 else (onB f).1, if (onB f).2 = -1 then ((f.ws.getD (onB f).1.toNat []).length : Int) - 1 else 0, f.ws, f.rs.set (onB f).1.toNat w, f.os⟩
      exact ⟨a, by rw [b]; simp, c⟩
    · injection h with h
      injection h with hk hg
      subst hg
      unfold unrF
      split
      · exact ⟨by simp, rfl, by simp⟩
      · exact ⟨by simp, rfl, by simp⟩
/-- What a step returns. -/
def StpRes (w0 : World) (K0 : Nat → Prop) (m : MachD) (g : Nat) (f : FoD) (gw gr go cw cr co : Nat) (w : World) (e : Ending) (w' : World) : Prop :=
  ((∃ (k : Int) (f' : FoD), stepF m f = some (k, f') ∧ e = .returned (.tuple #[.int .i64 k, .int .i64 (onB f).1, .int .i64 0]) ∧ ∃ vw' vr', FoO w0 K0 w' g f' gw gr go cw cr co vw' vr') ∨
   (stepF m f = none ∧ ∃ c, e = .returned (.tuple #[.int .i64 0, .int .i64 0, .int .i64 c]) ∧ (c = 6 ∨ c = 5))) ∧ KpB K0 w w' ∧ Ext w0 w' ∧ ∀ k, K0 k → k < w'.heap.size
set_option maxRecDepth 20000 in
set_option maxHeartbeats 8000000 in
theorem stepFo_c (m : MachD) (mv : Value) {w0 w : World} {K0 : Nat → Prop} {g : Nat} {f : FoD} {gw gr go cw cr co : Nat} {vw vr : List Value} (h : FoO w0 K0 w g f gw gr go cw cr co vw vr) (hM : Rules w mv m.rules) (hm : machOk m = true) (hok : foOk m f = true) :
    Calls Tryz.prog 71 #[.pointer (some ⟨g, 0, none⟩), .agg #[.int .i64 m.sy, .int .i64 m.st, mv]] w (StpRes w0 K0 m g f gw gr go cw cr co w) := by
  obtain ⟨hr13, hws, hos, hwl, hrl, hol, _⟩ := foOk_parts hok
  have hhd := foOk_hd hok
  obtain ⟨_, hrz, hq0, hq1⟩ := foOk_word' hok
  obtain ⟨Ar, car, rfl, _, _⟩ := hM.form
  obtain ⟨V, hV⟩ : ∃ V, V = w.alloc (.cells #[.int .i64 m.sy, .int .i64 m.st, .slice Ar m.rules.length car] 26) := ⟨_, rfl⟩
  obtain ⟨gm, hgm⟩ : ∃ g, w.heap.size = g := ⟨_, rfl⟩
  have hX : Ext w V := by rw [hV]; exact Ext.alloc _ _
  have bm : Blk V gm 26 #[.int .i64 m.sy, .int .i64 m.st, .slice Ar m.rules.length car] := by rw [hV]; exact Blk.new _ _ _ _ hgm
  obtain ⟨K1, hK1⟩ : ∃ K1 : Nat → Prop, K1 = fun k => K0 k ∨ k = gm := ⟨_, rfl⟩
  have hk10 : ∀ k, K0 k → K1 k := fun k hk => by rw [hK1]; exact .inl hk
  have hkm : K1 gm := by rw [hK1]; exact .inr rfl
  have hV1 : FoO w0 K1 V g f gw gr go cw cr co vw vr := h.more hX (fun k hk => by
    rw [hK1] at hk
    rcases hk with c | rfl
    · exact .inl c
    · exact .inr ⟨by omega, bm.lt⟩)
  have hMV := hM.ext hX
  have OB := onRepeater_c V hV1.at hhd.1 (by omega) (by omega)
  have HB := Lib.hid bm
  have HX := Lib.hid (And.intro hX (And.intro hk10 hkm))
  have H := Lib.hid hV1
  have HW := Lib.hid h
  have HN := Lib.hid (And.intro hr13 (And.intro hws (And.intro hos (And.intro hwl (And.intro hrl (And.intro hol (And.intro hrz (And.intro hq0 hq1))))))))
  have HM := Lib.hid (And.intro hm (And.intro hMV hok))
  clear hr13 hws hos hwl hrl hol hhd hrz hq0 hq1 hX bm hk10 hkm hV1 hMV h hM hm hok hK1
  go_enter Tryz.func71, Tryz.ntmps71
  go_wp2_with fail
  try rw [← hV]
  try rw [hgm]
  clear hV hgm
  refine OB.mono ?_
  rintro e w1 ⟨rfl, hx1⟩
  have h1 := H.out.ext hx1
  have bm1 := HB.out.ext hx1
  have hM1 := HM.out.2.1.ext hx1
  have kx1 : KpB K1 V w1 := KpB.ext hx1 H.out.kb
  have HX1 := Lib.hid (And.intro hx1 (And.intro kx1 h1))
  have m0 := bm1.cell 0
  have m1 := bm1.cell 1
  have m2 := bm1.cell 2
  simp only [List.getElem?_toArray, List.getElem?_cons_zero, List.getElem?_cons_succ] at m0 m1 m2
  obtain ⟨oi, hoi⟩ : ∃ oi, (onB f).1 = oi := ⟨_, rfl⟩
  obtain ⟨os_, hos_⟩ : ∃ o, (onB f).2 = o := ⟨_, rfl⟩
  have HOI := Lib.hid (And.intro hoi hos_)
  rw [hoi, hos_]
  have hcas := onB_cases HM.out.2.2
  rw [hoi, hos_] at hcas
  have HCAS := Lib.hid hcas
  have hwz : (os_ == 0) = decide (os_ = 0) := by rfl
  clear OB hx1 kx1 h1 bm1 hoi hos_ hcas
  go_upto_if 19 with fail
  go_cut [9] (fun u wx => ∃ (k : Int) (g' : FoD) (vw' vr' : List Value), rawF m f = some (k, g') ∧ u = .int .i64 k ∧ FoO w0 K1 wx g g' gw gr go cw cr co vw' vr' ∧ KpB K1 V wx)
  case first =>
    rcases HCAS.out with ⟨h2, ha0, ha1⟩ | ⟨i, hi, h1, hp⟩
    · subst h2
      have SW := stepWall_c m (.slice Ar m.rules.length car) HX1.out.2.2 hM1 HM.out.1 HM.out.2.2 ⟨ha0, ha1⟩
      clear hM1 ha0 ha1
      go_wp2_with fail
      refine SW.mono ?_
      rintro e w2 (⟨hno, rfl, hx2⟩ | ⟨hyes, rfl, vw', hF, hK2⟩)
      · have HNS : Hid (stepF m f = none) := Lib.hid (by
          unfold stepF rawF
          rw [if_pos HOI.out.2, if_pos hno])
        have HX2 := Lib.hid hx2
        clear SW hno hx2 m0 m1 m2
        go_wp2
        refine bodyPost_ret (v := .tuple #[.int .i64 0, .int .i64 0, .int .i64 6]) (by simp [results, Tryz.results71, go_sem]) rfl ?_
        have e1 := (HX.out.1.trans HX1.out.1).trans HX2.out
        exact ⟨.inr ⟨HNS.out, 6, rfl, .inl rfl⟩, KpB.ext e1 HW.out.kb, HW.out.ext0.trans e1, fun k hk => Nat.lt_of_lt_of_le (HW.out.kb k hk) e1.size⟩
      · have HR : Hid (rawF m f = some (0, stW m f)) := Lib.hid (by
          unfold rawF
          rw [if_pos HOI.out.2, if_neg hyes])
        have HF := Lib.hid (And.intro hF (HX1.out.2.1.trans hK2))
        clear SW hyes hF hK2 m0 m1 m2
        go_wp2_with fail
        go_meet
        exact ⟨0, _, _, _, HR.out, rfl, HF.out⟩
    · have hsd : os_ = 1 ∨ os_ = -1 := by rcases hp with ⟨a, _⟩ | ⟨a, _⟩ <;> omega
      have hne : (os_ == 0) = false := by rcases hsd with rfl | rfl <;> rfl
      have hoz : ¬ os_ = 0 := by omega
      subst h1
      have h1d := HX1.out.2.2.ext (Ext.drew w1)
      obtain ⟨Av, cv, _, cvv, ov⟩ := h1d.repH (k := i) hi
      have hvx : f.rs.getD i [] ∈ f.rs := by rw [getD_get hi]; exact List.getElem_mem hi
      have hv20 := HN.out.2.2.2.2.1 _ hvx
      have hvz := HN.out.2.2.2.2.2.2.1 _ hvx
      obtain ⟨v, hv⟩ : ∃ v, f.rs.getD i [] = v := ⟨_, rfl⟩
      rw [hv] at cvv ov hv20 hvz
      have SO := shiftOver_c m (.slice Ar m.rules.length car) (.slice Av v.length cv) f.q os_ v w1.drew (hM1.ext (Ext.drew w1)) (OwnInts.ints ov) (OwnInts.flat ov) HM.out.1 ⟨HN.out.2.2.2.2.2.2.2.1, HN.out.2.2.2.2.2.2.2.2⟩ hvz ⟨hv20.1, by omega⟩ hsd
      have q0 : w1.drew.cell? ⟨g, 0, none⟩ = some (.int .i64 f.q) := h1d.blk.cell 0
      have q4 : w1.drew.cell? ⟨g, 4, none⟩ = some (.slice (some ⟨gr, 0, none⟩) f.rs.length cr) := h1d.blk.cell 4
      have p0 : w1.drew.cell? ⟨gm, 0, none⟩ = some (.int .i64 m.sy) := m0
      have p1 : w1.drew.cell? ⟨gm, 1, none⟩ = some (.int .i64 m.st) := m1
      have p2 : w1.drew.cell? ⟨gm, 2, none⟩ = some (.slice Ar m.rules.length car) := m2
      have HV := Lib.hid hv
      have HSD := Lib.hid hsd
      have HOZ := Lib.hid hoz
      have hir : i < f.rs.length := hi
      have H1D := Lib.hid h1d
      clear hM1 hv hvz hv20 hvx ov hp hsd hoz h1d hwz
      go_wp2_with fail
      refine wp_region_ordT 20 (readsT [0, 1, 2, 3, 4, 5, 6, 7, 8, 9, 10, 11, 12] (.stir 13 (readsT [14, 15, 16, 17, 18, 19] .done))) (by kernel_rfl) (by kernel_rfl) (fun _ _ _ _ _ h => h) ?_
      simp only [readsT]
      iterate 13 (refine wpOrdT_read (v := ?_) (by rfl) (Or.inl ⟨by rfl, fun x hx => ?_⟩) ?_; rotate_left; (· have y0 := Ext.cell hx q0; have y4 := Ext.cell hx q4; have yv := Ext.cell hx cvv; have z0 := Ext.cell hx p0; have z1 := Ext.cell hx p1; have z2 := Ext.cell hx p2; go_simp; try first | with_reducible rfl | (rw [if_pos (by omega)]; try with_reducible rfl)); try simp only [Act.put, List.setIfInBounds_toArray, List.set_cons_zero, List.set_cons_succ])
      refine wpOrdT_stir (by rfl) (fun K hK => ?_)
      go_simp
      go_at_call 127
      refine SO.mono ?_
      rintro e w2 ⟨hsh, hx2⟩
      clear SO q0 q4 p0 p1 p2 cvv m0 m1 m2
      have h2 := H1D.out.ext hx2
      have HX2 := Lib.hid (And.intro hx2 h2)
      rcases hsh with ⟨o, u, kk, hso, rfl, ou⟩ | ⟨cc, hso, rfl, hcc⟩
      · refine hK _ _ hx2 ?_
        clear hK K hx2 h2
        try simp only [Act.put, List.setIfInBounds_toArray, List.set_cons_zero, List.set_cons_succ]
        iterate 6 (refine wpOrdT_read (v := ?_) (by rfl) (Or.inl ⟨by rfl, fun x hx => ?_⟩) ?_; rotate_left; (· go_simp; try with_reducible rfl); try simp only [Act.put, List.setIfInBounds_toArray, List.set_cons_zero, List.set_cons_succ])
        refine wpOrdT_done ?_
        try simp only [List.drop_succ_cons, List.drop_zero]
        obtain ⟨Ao, cO, rfl, _, _⟩ := ou.ints.form
        obtain ⟨fr1, fr2⟩ := H1D.out.fresh ou
        have ou0 : OwnInts w0.heap.size w2 (.slice Ao o.length cO) o := ownsRow_base ou H1D.out.ext0.size
        have PR := passRepeater_c HX2.out.2 HN.out.1 HN.out.2.1 (fun x hx => by have := HN.out.2.2.2.1 x hx; omega) hi os_ HSD.out Ao cO o ou0 fr1 fr2
        have HR : Hid (rawF m f = some (1, passF f (i : Int) os_ o)) := Lib.hid (by
          unfold rawF
          rw [HOI.out.1, HOI.out.2, if_neg HOZ.out, Int.toNat_natCast, HV.out, hso])
        clear ou fr1 fr2 ou0 hso
        go_wp2_with fail
        refine PR.mono ?_
        rintro e w3 ⟨rfl, vw', vr', hF, hK3⟩
        have HF := Lib.hid (And.intro hF (((HX1.out.2.1.trans (KpB.ext (Ext.drew w1) HX1.out.2.2.kb)).trans (KpB.ext HX2.out.1 H1D.out.kb)).trans hK3))
        clear PR hF hK3
        go_wp2_with fail
        go_meet
        exact ⟨1, _, _, _, HR.out, rfl, HF.out⟩
      · refine hK _ _ hx2 ?_
        clear hK K hx2 h2
        try simp only [Act.put, List.setIfInBounds_toArray, List.set_cons_zero, List.set_cons_succ]
        iterate 6 (refine wpOrdT_read (v := ?_) (by rfl) (Or.inl ⟨by rfl, fun x hx => ?_⟩) ?_; rotate_left; (· go_simp; try with_reducible rfl); try simp only [Act.put, List.setIfInBounds_toArray, List.set_cons_zero, List.set_cons_succ])
        refine wpOrdT_done ?_
        try simp only [List.drop_succ_cons, List.drop_zero]
        have UR := unroll_c HX2.out.2 HN.out.1 HN.out.2.1 HN.out.2.2.1 (fun x hx => by have := HN.out.2.2.2.1 x hx; omega) (fun x hx => by have := HN.out.2.2.2.2.1 x hx; omega) (fun x hx => by have := HN.out.2.2.2.2.2.1 x hx; omega) hi os_ HSD.out
        have HR : Hid (rawF m f = some (2, unrF f (i : Int) os_)) := Lib.hid (by
          unfold rawF
          rw [HOI.out.1, HOI.out.2, if_neg HOZ.out, Int.toNat_natCast, HV.out, hso])
        have hc0 : (cc == 0) = false := by rcases hcc with rfl | rfl <;> rfl
        clear hso hcc
        go_wp2_with fail
        refine UR.mono ?_
        rintro e w3 ⟨rfl, vw', vr', hF, hK3⟩
        have HF := Lib.hid (And.intro hF (((HX1.out.2.1.trans (KpB.ext (Ext.drew w1) HX1.out.2.2.kb)).trans (KpB.ext HX2.out.1 H1D.out.kb)).trans hK3))
        clear UR hF hK3
        go_wp2_with fail
        go_meet
        exact ⟨2, _, _, _, HR.out, rfl, HF.out⟩
  case rest =>
    obtain ⟨k, g', vw', vr', hraw, rfl, hF, hK⟩ := hcut
    obtain ⟨l1, l2, l3⟩ := raw_len hraw
    have hFd := hF.ext (Ext.drew wc)
    have bmc : Blk wc gm 26 #[.int .i64 m.sy, .int .i64 m.st, .slice Ar m.rules.length car] := hK.blk HB.out HX.out.2.2
    have p0 : wc.drew.cell? ⟨gm, 0, none⟩ = some (.int .i64 m.sy) := bmc.cell 0
    have p1 : wc.drew.cell? ⟨gm, 1, none⟩ = some (.int .i64 m.st) := bmc.cell 1
    have p2 : wc.drew.cell? ⟨gm, 2, none⟩ = some (.slice Ar m.rules.length car) := bmc.cell 2
    have q0 : wc.drew.cell? ⟨g, 0, none⟩ = some (.int .i64 g'.q) := hFd.blk.cell 0
    have q1 : wc.drew.cell? ⟨g, 1, none⟩ = some (.int .i64 g'.hd) := hFd.blk.cell 1
    have q2 : wc.drew.cell? ⟨g, 2, none⟩ = some (.int .i64 g'.at_) := hFd.blk.cell 2
    have q3 : wc.drew.cell? ⟨g, 3, none⟩ = some (.slice (some ⟨gw, 0, none⟩) g'.ws.length cw) := hFd.blk.cell 3
    have q4 : wc.drew.cell? ⟨g, 4, none⟩ = some (.slice (some ⟨gr, 0, none⟩) g'.rs.length cr) := hFd.blk.cell 4
    have q5 : wc.drew.cell? ⟨g, 5, none⟩ = some (.slice (some ⟨go, 0, none⟩) g'.os.length co) := hFd.blk.cell 5
    have hN := HN.out
    have FO := formulaOf_c m (.slice Ar m.rules.length car) _ _ _ _ g' wc.drew hFd.at.val ⟨by omega, by omega, by omega⟩ HM.out.1
    have HF := Lib.hid (And.intro hFd (hK.trans (KpB.ext (Ext.drew wc) hF.kb)))
    have HRAW := Lib.hid hraw
    obtain ⟨bb, hbb⟩ : ∃ bb, foOk m g' = bb := ⟨_, rfl⟩
    rw [hbb] at FO
    have HBB := Lib.hid hbb
    clear hFd bmc hraw l1 l2 l3 hF hK hN hbb
    go_wp2_with fail
    refine wp_region_ordT 5 (readsT [0, 1, 2, 3] (.stir 4 .done)) (by kernel_rfl) (by kernel_rfl) (fun _ _ _ _ _ h => h) ?_
    simp only [readsT]
    iterate 4 (refine wpOrdT_read (v := ?_) (by rfl) (Or.inl ⟨by rfl, fun x hx => ?_⟩) ?_; rotate_left; (· have y0 := Ext.cell hx q0; have y1 := Ext.cell hx q1; have y2 := Ext.cell hx q2; have y3 := Ext.cell hx q3; have y4 := Ext.cell hx q4; have y5 := Ext.cell hx q5; have z0 := Ext.cell hx p0; have z1 := Ext.cell hx p1; have z2 := Ext.cell hx p2; go_simp; try with_reducible rfl); try simp only [Act.put, List.setIfInBounds_toArray, List.set_cons_zero, List.set_cons_succ])
    refine wpOrdT_stir (by rfl) (fun K hK => ?_)
    go_simp
    go_at_call 123
    refine FO.mono ?_
    rintro e w4 ⟨rfl, hx4⟩
    refine hK _ _ hx4 ?_
    have H4 := Lib.hid (And.intro (HF.out.1.ext hx4) (HF.out.2.trans (KpB.ext hx4 HF.out.1.kb)))
    clear hK K FO q0 q1 q2 q3 q4 q5 p0 p1 p2 hx4 HF
    try simp only [Act.put, List.setIfInBounds_toArray, List.set_cons_zero, List.set_cons_succ]
    refine wpOrdT_done ?_
    try simp only [List.drop_succ_cons, List.drop_zero]
    have HKK := Lib.hid (KpB.trans (KpB.ext HX.out.1 HW.out.kb) (H4.out.2.mono HX.out.2.1))
    cases bb with
    | true =>
      have HST : Hid (stepF m f = some (k, g')) := Lib.hid (by unfold stepF; rw [HRAW.out]; simp only; rw [if_pos HBB.out])
      go_wp2
      refine bodyPost_ret (v := .tuple #[.int .i64 k, .int .i64 oi, .int .i64 0]) (by simp [results, Tryz.results71, go_sem]) rfl ?_
      exact ⟨.inl ⟨k, g', HST.out, by rw [HOI.out.1], _, _, H4.out.1.mono HX.out.2.1⟩, HKK.out, H4.out.1.ext0, fun k hk => H4.out.1.kb k (HX.out.2.1 k hk)⟩
    | false =>
      have HST : Hid (stepF m f = none) := Lib.hid (by unfold stepF; rw [HRAW.out]; simp only; rw [if_neg (by rw [HBB.out]; decide)])
      go_wp2
      refine bodyPost_ret (v := .tuple #[.int .i64 0, .int .i64 0, .int .i64 5]) (by simp [results, Tryz.results71, go_sem]) rfl ?_
      exact ⟨.inr ⟨HST.out, 5, rfl, .inr rfl⟩, HKK.out, H4.out.1.ext0, fun k hk => H4.out.1.kb k (HX.out.2.1 k hk)⟩
end Go.Proofs.YtojiammendjpkaaGreat
end
section
set_option linter.unusedSimpArgs false
set_option linter.unusedVariables false
namespace Go.Proofs.YtojiammendjpkaaGreat
open Go Go.RowKit Go.Proofs
set_option maxHeartbeats 400000
theorem EqualFuncG_c (u v : Value) (xss yss : List (List Int)) (w : World) (ha : Lists w u xss) (hb : Lists w v yss) :
    Calls Tryz.prog 167 #[u, v, .func (.func 168) #[] #[]] w fun e w' => e = .returned (.bool (decide (xss = yss))) ∧ Ext w w' := by
  obtain ⟨A, ca, rfl, h1, h1'⟩ := ha.form
  obtain ⟨B, cb, rfl, h2, h2'⟩ := hb.form
  by_cases hlen : xss.length = yss.length
  · have hl : ((xss.length : Int) != (yss.length : Int)) = false := by simp [hlen]
    have hle : xss.length ≤ yss.length := by omega
    have HLEN := Lib.hid hlen
    have HALL : Hid (∀ k, k ≤ xss.length → (∀ i, i < k → xss[i]? = yss[i]?) → k = xss.length → xss = yss) := Lib.hid (fun k _ h e => by
      apply List.ext_getElem?
      intro i
      by_cases c : i < k
      · exact h i c
      · rw [List.getElem?_eq_none (by omega), List.getElem?_eq_none (by omega)])
    clear hlen
    go_enter Tryz.func167, Tryz.ntmps167
    go_wp2_with fail
    go_loopw [17] (fun i wr => ∃ k : Nat, k ≤ xss.length ∧ i = .int .i64 (k : Int) ∧ Ext w wr ∧ Hid (∀ i, i < k → xss[i]? = yss[i]?)) (fun i _ => xss.length - (intOf i).toNat)
    case atStart => exact ⟨0, Nat.zero_le _, rfl, Ext.refl _, Lib.hid (fun i hi => by omega)⟩
    case round =>
      obtain ⟨k, hk, rfl, hx, HE⟩ := hrel
      by_cases hlt : k < xss.length
      · have hdl : decide ((k : Int) < (xss.length : Int)) = true := decide_eq_true (by omega)
        have hly : k < yss.length := by omega
        obtain ⟨b1, o1, u1, hA, c1, i1, _⟩ := Lists.at (ha.ext hx) hlt
        subst hA
        obtain ⟨b2, o2, u2, hB, c2, i2, _⟩ := Lists.at (hb.ext hx) hly
        subst hB
        have SE := slicesEqual_c wr u1 u2 _ _ i1 i2
        obtain ⟨A1, c1', rfl, _, _⟩ := i1.form
        obtain ⟨A2, c2', rfl, _, _⟩ := i2.form
        have HX := Lib.hid hx
        by_cases heq : xss[k] = yss[k]
        · rw [lEq_true heq] at SE
          have HE2 : Hid (∀ i, i < k + 1 → xss[i]? = yss[i]?) := Lib.hid (fun i hi => by
            by_cases c : i < k
            · exact HE.out i c
            · have e : i = k := by omega
              rw [e, List.getElem?_eq_getElem hlt, List.getElem?_eq_getElem hly, heq])
          clear i1 i2 hx heq
          go_wp2_with fail
          refine SE.mono ?_
          rintro e w2 ⟨rfl, hx2⟩
          clear SE
          have HX2 := Lib.hid hx2
          clear hx2
          go_wp2
          go_roundw
          case rel => exact ⟨k + 1, by omega, by go_num, HX.out.trans HX2.out, HE2⟩
          case measure => simp [intOf]; omega
        · rw [lEq_false heq] at SE
          have HNO : Hid (decide (xss = yss) = false) := Lib.hid (decide_eq_false (fun e => heq (by subst e; rfl)))
          clear i1 i2 hx heq
          go_wp2_with fail
          refine SE.mono ?_
          rintro e w2 ⟨rfl, hx2⟩
          clear SE
          have HX2 := Lib.hid hx2
          clear hx2
          go_wp2
          go_ret
          exact ⟨by rw [HNO.out]; rfl, HX.out.trans HX2.out⟩
      · have hdl : decide ((k : Int) < (xss.length : Int)) = false := decide_eq_false (by omega)
        have HYES : Hid (decide (xss = yss) = true) := Lib.hid (decide_eq_true (HALL.out k hk HE.out (by omega)))
        go_wp2
        go_ret
        exact ⟨by rw [HYES.out]; rfl, hx⟩
  · have hl : ((xss.length : Int) != (yss.length : Int)) = true := by simp; omega
    have HNO : Hid (decide (xss = yss) = false) := Lib.hid (decide_eq_false (fun e => hlen (by rw [e])))
    clear hlen
    go_enter Tryz.func167, Tryz.ntmps167
    go_wp2
    go_ret
    exact ⟨by rw [HNO.out]; rfl, Ext.refl _⟩
set_option maxRecDepth 20000 in
set_option maxHeartbeats 8000000 in
theorem sameShapeG_c (b1 b2 : Nat) (f g : FoD) (wv rv ov wv2 rv2 ov2 : Value) (w : World) (h1 : FoV w (.agg #[.int .i64 f.q, .int .i64 f.hd, .int .i64 f.at_, wv, rv, ov]) f wv rv ov) (h2 : FoV w (.agg #[.int .i64 g.q, .int .i64 g.hd, .int .i64 g.at_, wv2, rv2, ov2]) g wv2 rv2 ov2)
    (k1 : Blk w b1 49 #[.int .i64 f.q, .int .i64 f.hd, .int .i64 f.at_, wv, rv, ov]) (k2 : Blk w b2 49 #[.int .i64 g.q, .int .i64 g.hd, .int .i64 g.at_, wv2, rv2, ov2]) :
    Calls Tryz.prog 131 #[.pointer (some ⟨b1, 0, none⟩), .pointer (some ⟨b2, 0, none⟩)] w fun e w' => e = .returned (.bool (shapeB f g)) ∧ Ext w w' := by
  obtain ⟨A, cA, rfl, _, _⟩ := h1.ws.form
  obtain ⟨B, cB, rfl, _, _⟩ := h1.rs.form
  obtain ⟨A2, cA2, rfl, _, _⟩ := h2.ws.form
  obtain ⟨B2, cB2, rfl, _, _⟩ := h2.rs.form
  obtain ⟨ew, hew⟩ : ∃ b, decide (f.ws = g.ws) = b := ⟨_, rfl⟩
  obtain ⟨er, her⟩ : ∃ b, decide (f.rs = g.rs) = b := ⟨_, rfl⟩
  have EW : QCalF 167 #[.slice A f.ws.length cA, .slice A2 g.ws.length cA2, .func (.func 168) #[] #[]] w (.bool ew) := fun d' os => Calls.extR (by have := EqualFuncG_c _ _ f.ws g.ws _ (h1.ws.ext (below_regrown w d' os)) (h2.ws.ext (below_regrown w d' os)); rwa [hew] at this)
  have ER : QCalF 167 #[.slice B f.rs.length cB, .slice B2 g.rs.length cB2, .func (.func 168) #[] #[]] w (.bool er) := fun d' os => Calls.extR (by have := EqualFuncG_c _ _ f.rs g.rs _ (h1.rs.ext (below_regrown w d' os)) (h2.rs.ext (below_regrown w d' os)); rwa [her] at this)
  have p0 : w.cell? ⟨b1, 0, none⟩ = some (.int .i64 f.q) := k1.cell 0
  have r0 := cellR p0
  have p1 : w.cell? ⟨b1, 1, none⟩ = some (.int .i64 f.hd) := k1.cell 1
  have r1 := cellR p1
  have p2 : w.cell? ⟨b1, 2, none⟩ = some (.int .i64 f.at_) := k1.cell 2
  have r2 := cellR p2
  have p3 : w.cell? ⟨b1, 3, none⟩ = some (.slice A f.ws.length cA) := k1.cell 3
  have r3 := cellR p3
  have p4 : w.cell? ⟨b1, 4, none⟩ = some (.slice B f.rs.length cB) := k1.cell 4
  have r4 := cellR p4
  have q0 : w.cell? ⟨b2, 0, none⟩ = some (.int .i64 g.q) := k2.cell 0
  have s0 := cellR q0
  have q1 : w.cell? ⟨b2, 1, none⟩ = some (.int .i64 g.hd) := k2.cell 1
  have s1 := cellR q1
  have q2 : w.cell? ⟨b2, 2, none⟩ = some (.int .i64 g.at_) := k2.cell 2
  have s2 := cellR q2
  have q3 : w.cell? ⟨b2, 3, none⟩ = some (.slice A2 g.ws.length cA2) := k2.cell 3
  have s3 := cellR q3
  have q4 : w.cell? ⟨b2, 4, none⟩ = some (.slice B2 g.rs.length cB2) := k2.cell 4
  have s4 := cellR q4
  have HSB : Hid (shapeB f g = (decide (f.q = g.q) && decide (f.hd = g.hd) && decide (f.at_ = g.at_) && ew && er)) := Lib.hid (by unfold shapeB; rw [hew, her])
  clear h1 h2 k1 k2 p0 p1 p2 p3 p4 q0 q1 q2 q3 q4 hew her
  by_cases c0 : f.q = g.q
  · have e0 : (f.q == g.q) = true := by simp [c0]
    have D0 := Lib.hid c0
    clear c0
    by_cases c1 : f.hd = g.hd
    · have e1 : (f.hd == g.hd) = true := by simp [c1]
      have D1 := Lib.hid c1
      clear c1
      by_cases c2 : f.at_ = g.at_
      · have e2 : (f.at_ == g.at_) = true := by simp [c2]
        have D2 := Lib.hid c2
        clear c2
        cases ew with
        | true =>
          cases er with
          | true =>
            have HD := Lib.hid (And.intro D0.out (And.intro D1.out D2.out))
            go_enter Tryz.func131, Tryz.ntmps131
            go_wp2_with fail
            refine wp_region_ext (by kernel_rfl) (by kernel_rfl) ?_
            repeat (go_big_quiet_step ((go_at_call 167; first | with_reducible exact EW _ _ | with_reducible exact ER _ _)))
            intro wq hwq
            go_wp2
            go_ret
            exact ⟨by rw [HSB.out]; simp [HD.out], hwq⟩
          | false =>
            have HD := Lib.hid (And.intro D0.out (And.intro D1.out D2.out))
            go_enter Tryz.func131, Tryz.ntmps131
            go_wp2_with fail
            refine wp_region_ext (by kernel_rfl) (by kernel_rfl) ?_
            repeat (go_big_quiet_step ((go_at_call 167; first | with_reducible exact EW _ _ | with_reducible exact ER _ _)))
            intro wq hwq
            go_wp2
            go_ret
            exact ⟨by rw [HSB.out]; simp [HD.out], hwq⟩
        | false =>
          have HD := Lib.hid (And.intro D0.out (And.intro D1.out D2.out))
          go_enter Tryz.func131, Tryz.ntmps131
          go_wp2_with fail
          refine wp_region_ext (by kernel_rfl) (by kernel_rfl) ?_
          repeat (go_big_quiet_step ((go_at_call 167; first | with_reducible exact EW _ _ | with_reducible exact ER _ _)))
          intro wq hwq
          go_wp2
          go_ret
          exact ⟨by rw [HSB.out]; simp [HD.out], hwq⟩
      · have e2 : (f.at_ == g.at_) = false := by simp [c2]
        have D2 := Lib.hid c2
        clear c2
        have HD := Lib.hid D2.out
        go_enter Tryz.func131, Tryz.ntmps131
        go_wp2_with fail
        refine wp_region_ext (by kernel_rfl) (by kernel_rfl) ?_
        repeat (go_big_quiet_step ((go_at_call 167; first | with_reducible exact EW _ _ | with_reducible exact ER _ _)))
        intro wq hwq
        go_wp2
        go_ret
        exact ⟨by rw [HSB.out]; simp [HD.out], hwq⟩
    · have e1 : (f.hd == g.hd) = false := by simp [c1]
      have D2 := Lib.hid c1
      clear c1
      have HD := Lib.hid D2.out
      go_enter Tryz.func131, Tryz.ntmps131
      go_wp2_with fail
      refine wp_region_ext (by kernel_rfl) (by kernel_rfl) ?_
      repeat (go_big_quiet_step ((go_at_call 167; first | with_reducible exact EW _ _ | with_reducible exact ER _ _)))
      intro wq hwq
      go_wp2
      go_ret
      exact ⟨by rw [HSB.out]; simp [HD.out], hwq⟩
  · have e0 : (f.q == g.q) = false := by simp [c0]
    have D2 := Lib.hid c0
    clear c0
    have HD := Lib.hid D2.out
    go_enter Tryz.func131, Tryz.ntmps131
    go_wp2_with fail
    refine wp_region_ext (by kernel_rfl) (by kernel_rfl) ?_
    repeat (go_big_quiet_step ((go_at_call 167; first | with_reducible exact EW _ _ | with_reducible exact ER _ _)))
    intro wq hwq
    go_wp2
    go_ret
    exact ⟨by rw [HSB.out]; simp [HD.out], hwq⟩
end Go.Proofs.YtojiammendjpkaaGreat
end
section
set_option linter.unusedSimpArgs false
set_option linter.unusedVariables false
namespace Go.Proofs.YtojiammendjpkaaGreat
open Go Go.RowKit Go.Proofs
set_option maxHeartbeats 400000
/-- What growth returns. -/
def GrwRes (m : MachD) (f g : FoD) (w : World) (e : Ending) (w' : World) : Prop :=
  ((∃ l u base, growF m f g = some l ∧ e = .returned (.tuple #[u, .int .i64 0]) ∧ OwnInts base w' u l ∧ w.heap.size ≤ base) ∨ (growF m f g = none ∧ ∃ c, e = .returned (.tuple #[.slice none 0 0, .int .i64 c]) ∧ (c = 5 ∨ c = 3))) ∧ Ext w w'
theorem subL_length {ys xs : List Int} (h : ys.length = xs.length) : (subL ys xs).length = xs.length := by simp [subL, h]
theorem subL_get {ys xs : List Int} {k : Nat} (h1 : k < ys.length) (h2 : k < xs.length) (h3 : k < (subL ys xs).length) : (subL ys xs)[k] = ys[k] - xs[k] := by simp [subL]
set_option maxRecDepth 20000 in
set_option maxHeartbeats 8000000 in
theorem growthG_c (m : MachD) (rv0 wv rv ov wv2 rv2 ov2 : Value) (f g : FoD) (w : World) (h : FoV w (.agg #[.int .i64 f.q, .int .i64 f.hd, .int .i64 f.at_, wv, rv, ov]) f wv rv ov) (h' : FoV w (.agg #[.int .i64 g.q, .int .i64 g.hd, .int .i64 g.at_, wv2, rv2, ov2]) g wv2 rv2 ov2) (hf : foOk m f = true) (hg : foOk m g = true) (hm : machOk m = true) :
    Calls Tryz.prog 72 #[.agg #[.int .i64 m.sy, .int .i64 m.st, rv0], .agg #[.int .i64 f.q, .int .i64 f.hd, .int .i64 f.at_, wv, rv, ov], .agg #[.int .i64 g.q, .int .i64 g.hd, .int .i64 g.at_, wv2, rv2, ov2]] w (GrwRes m f g w) := by
  have hnb := foOk_nb hf
  have hnb' := foOk_nb hg
  obtain ⟨V, hV⟩ : ∃ V, V = ((w.alloc (.cells #[.int .i64 m.sy, .int .i64 m.st, rv0] 26)).alloc (.cells #[.int .i64 f.q, .int .i64 f.hd, .int .i64 f.at_, wv, rv, ov] 49)).alloc (.cells #[.int .i64 g.q, .int .i64 g.hd, .int .i64 g.at_, wv2, rv2, ov2] 49) := ⟨_, rfl⟩
  have hX : Ext w V := by rw [hV]; exact ((Ext.alloc _ _).trans (Ext.alloc _ _)).trans (Ext.alloc _ _)
  obtain ⟨gg, hgg⟩ : ∃ g, w.heap.size = g := ⟨_, rfl⟩
  have bm : Blk V gg 26 #[.int .i64 m.sy, .int .i64 m.st, rv0] := by rw [hV]; exact ((Blk.new _ _ _ _ hgg).alloc _).alloc _
  have bf : Blk V (gg + 1) 49 #[.int .i64 f.q, .int .i64 f.hd, .int .i64 f.at_, wv, rv, ov] := by rw [hV]; exact (Blk.new _ _ _ _ (by simp [hgg])).alloc _
  have bh : Blk V (gg + 1 + 1) 49 #[.int .i64 g.q, .int .i64 g.hd, .int .i64 g.at_, wv2, rv2, ov2] := by rw [hV]; exact Blk.new _ _ _ _ (by simp [hgg])
  have hXd : Ext w V.drew := hX.trans (Ext.drew _)
  obtain ⟨hNN, hNR⟩ := absN_nb hnb f.rs.length (Nat.le_refl _)
  rw [← norm_absN] at hNN hNR
  obtain ⟨hGN, hGR⟩ := absN_nb hnb' g.rs.length (Nat.le_refl _)
  rw [← norm_absN] at hGN hGR
  have N1 := normalized_c _ wv rv ov f V.drew (h.ext hXd) hnb
  have N2 := fun w' (hx : Ext V.drew w') => normalized_c _ wv2 rv2 ov2 g w' (h'.ext (hXd.trans hx)) hnb'
  have a0 : V.drew.cell? ⟨gg + 1, 0, none⟩ = some (.int .i64 f.q) := bf.cell 0
  have a1 : V.drew.cell? ⟨gg + 1, 1, none⟩ = some (.int .i64 f.hd) := bf.cell 1
  have a2 : V.drew.cell? ⟨gg + 1, 2, none⟩ = some (.int .i64 f.at_) := bf.cell 2
  have a3 : V.drew.cell? ⟨gg + 1, 3, none⟩ = some (wv) := bf.cell 3
  have a4 : V.drew.cell? ⟨gg + 1, 4, none⟩ = some (rv) := bf.cell 4
  have a5 : V.drew.cell? ⟨gg + 1, 5, none⟩ = some (ov) := bf.cell 5
  have b0 : V.drew.cell? ⟨gg + 1 + 1, 0, none⟩ = some (.int .i64 g.q) := bh.cell 0
  have b1 : V.drew.cell? ⟨gg + 1 + 1, 1, none⟩ = some (.int .i64 g.hd) := bh.cell 1
  have b2 : V.drew.cell? ⟨gg + 1 + 1, 2, none⟩ = some (.int .i64 g.at_) := bh.cell 2
  have b3 : V.drew.cell? ⟨gg + 1 + 1, 3, none⟩ = some (wv2) := bh.cell 3
  have b4 : V.drew.cell? ⟨gg + 1 + 1, 4, none⟩ = some (rv2) := bh.cell 4
  have b5 : V.drew.cell? ⟨gg + 1 + 1, 5, none⟩ = some (ov2) := bh.cell 5
  have HM := Lib.hid hm
  have HX := Lib.hid hX
  have HBM := Lib.hid bm
  obtain ⟨F, hF⟩ : ∃ F, normFo f = F := ⟨_, rfl⟩
  obtain ⟨G, hG⟩ : ∃ G, normFo g = G := ⟨_, rfl⟩
  rw [hF] at N1 hNN hNR
  rw [hG] at hGN hGR
  have HNF : Hid (growF m f g = (if (foOk m F && foOk m G && shapeB F G && (subL G.os F.os).all (fun z => inB z 0 2000)) = true then some (subL G.os F.os) else none)) := Lib.hid (by unfold growF; rw [hF, hG])
  have N2' : ∀ w', Ext V.drew w' → Calls Tryz.prog 130 #[.agg #[.int .i64 g.q, .int .i64 g.hd, .int .i64 g.at_, wv2, rv2, ov2]] w' fun e w'_1 => (∃ g gw gr go cw cr co vw vr, e = .returned (.pointer (some ⟨g, 0, none⟩)) ∧ FoAt w'.heap.size w'_1 g G gw gr go cw cr co vw vr) ∧ Ext w' w'_1 := fun w' hx => by rw [← hG]; exact N2 w' hx
  have hFs : (F.rs.length ≤ 3 ∧ F.ws.length = F.rs.length + 1 ∧ F.os.length = F.rs.length ∧ ∀ o ∈ F.os, -10000 ≤ o ∧ o ≤ 10000) := ⟨by have := hnb.r1; omega, hNN.ws, hNN.os, fun o ho => by have := hNN.off o ho; have := hnb.r1; omega⟩
  have hGs : (G.rs.length ≤ 3 ∧ G.ws.length = G.rs.length + 1 ∧ G.os.length = G.rs.length ∧ ∀ o ∈ G.os, -10000 ≤ o ∧ o ≤ 10000) := ⟨by have := hnb'.r1; omega, hGN.ws, hGN.os, fun o ho => by have := hGN.off o ho; have := hnb'.r1; omega⟩
  have HFS := Lib.hid (And.intro hFs hGs)
  clear hnb hnb' hf hg hm h h' hX bm bf bh hF hG N2 hNN hNR hGN hGR hFs hGs
  go_enter Tryz.func72, Tryz.ntmps72
  go_wp2_with fail
  try rw [← hV]
  try rw [hgg]
  clear hV hgg
  refine wp_region_ordT 5 (readsT [0, 2] (.stir 1 (.stir 3 (readsT [4] .done)))) (by kernel_rfl) (by kernel_rfl) (fun _ _ _ _ _ h => h) ?_
  simp only [readsT]
  iterate 2 (refine wpOrdT_read (v := ?_) (by rfl) (Or.inl ⟨by rfl, fun x hx => ?_⟩) ?_; rotate_left; (· have y0 := Ext.cell hx a0; have y1 := Ext.cell hx a1; have y2 := Ext.cell hx a2; have y3 := Ext.cell hx a3; have y4 := Ext.cell hx a4; have y5 := Ext.cell hx a5; have z0 := Ext.cell hx b0; have z1 := Ext.cell hx b1; have z2 := Ext.cell hx b2; have z3 := Ext.cell hx b3; have z4 := Ext.cell hx b4; have z5 := Ext.cell hx b5; go_simp; try with_reducible rfl); try simp only [Act.put, List.setIfInBounds_toArray, List.set_cons_zero, List.set_cons_succ])
  clear a0 a1 a2 a3 a4 a5 b0 b1 b2 b3 b4 b5
  refine wpOrdT_keep (by rfl) (fun K hK => ?_)
  go_simp
  go_at_call 130
  refine N1.mono ?_
  rintro e w1 ⟨⟨g1, gw, gr, go, cw, cr, co, vw, vr, rfl, st1⟩, hx1⟩
  refine hK _ _ hx1 ?_
  clear hK K N1
  refine wpOrdT_keep (by rfl) (fun K hK => ?_)
  go_simp
  go_at_call 130
  refine (N2' w1 hx1).mono ?_
  rintro e w2 ⟨⟨g2, gw2, gr2, go2, cw2, cr2, co2, vw2, vr2, rfl, st2⟩, hx2⟩
  refine hK _ _ (hx1.trans hx2) ?_
  clear hK K N2'
  refine wpOrdT_read (v := ?_) (by rfl) (Or.inl ⟨by rfl, fun x hx => ?_⟩) ?_; rotate_left; (· go_simp; try with_reducible rfl); try simp only [Act.put, List.setIfInBounds_toArray, List.set_cons_zero, List.set_cons_succ]
  refine wpOrdT_done ?_
  try simp only [List.drop_succ_cons, List.drop_zero]
  have hXd2 : Ext V w2 := (Ext.drew V).trans (hx1.trans hx2)
  have st1 := st1.ext hx2
  have bm2 := HBM.out.ext hXd2
  have HXD2 := Lib.hid hXd2
  clear hXd hXd2 hx1 hx2 HBM
  have hs := HFS.out
  have FO1 := formulaOf_c m rv0 _ _ _ _ F w2.drew (st1.val.ext (Ext.drew _)) ⟨by omega, by omega, by omega⟩ HM.out
  have FO2 := fun w' (hx : Ext w2.drew w') => formulaOf_c m rv0 _ _ _ _ G w' ((st2.val.ext (Ext.drew _)).ext hx) ⟨by omega, by omega, by omega⟩ HM.out
  obtain ⟨okF, hoF⟩ : ∃ b, foOk m F = b := ⟨_, rfl⟩
  obtain ⟨okG, hoG⟩ : ∃ b, foOk m G = b := ⟨_, rfl⟩
  rw [hoF] at FO1
  rw [hoG] at FO2
  have HOK := Lib.hid (And.intro hoF hoG)
  clear hs hoF hoG
  have m0 : w2.drew.cell? ⟨gg, 0, none⟩ = some (.int .i64 m.sy) := bm2.cell 0
  have m1 : w2.drew.cell? ⟨gg, 1, none⟩ = some (.int .i64 m.st) := bm2.cell 1
  have m2 : w2.drew.cell? ⟨gg, 2, none⟩ = some rv0 := bm2.cell 2
  have a0 : w2.drew.cell? ⟨g1, 0, none⟩ = some (.int .i64 F.q) := st1.blk.cell 0
  have a1 : w2.drew.cell? ⟨g1, 1, none⟩ = some (.int .i64 F.hd) := st1.blk.cell 1
  have a2 : w2.drew.cell? ⟨g1, 2, none⟩ = some (.int .i64 F.at_) := st1.blk.cell 2
  have a3 : w2.drew.cell? ⟨g1, 3, none⟩ = some (.slice (some ⟨gw, 0, none⟩) F.ws.length cw) := st1.blk.cell 3
  have a4 : w2.drew.cell? ⟨g1, 4, none⟩ = some (.slice (some ⟨gr, 0, none⟩) F.rs.length cr) := st1.blk.cell 4
  have a5 : w2.drew.cell? ⟨g1, 5, none⟩ = some (.slice (some ⟨go, 0, none⟩) F.os.length co) := st1.blk.cell 5
  have b0 : w2.drew.cell? ⟨g2, 0, none⟩ = some (.int .i64 G.q) := st2.blk.cell 0
  have b1 : w2.drew.cell? ⟨g2, 1, none⟩ = some (.int .i64 G.hd) := st2.blk.cell 1
  have b2 : w2.drew.cell? ⟨g2, 2, none⟩ = some (.int .i64 G.at_) := st2.blk.cell 2
  have b3 : w2.drew.cell? ⟨g2, 3, none⟩ = some (.slice (some ⟨gw2, 0, none⟩) G.ws.length cw2) := st2.blk.cell 3
  have b4 : w2.drew.cell? ⟨g2, 4, none⟩ = some (.slice (some ⟨gr2, 0, none⟩) G.rs.length cr2) := st2.blk.cell 4
  have b5 : w2.drew.cell? ⟨g2, 5, none⟩ = some (.slice (some ⟨go2, 0, none⟩) G.os.length co2) := st2.blk.cell 5
  have HS1 := Lib.hid st1
  have HS2 := Lib.hid st2
  have HW2 := Lib.hid (HX.out.trans HXD2.out)
  clear st1 st2 bm2
  go_wp2_with fail
  refine wp_region_ordT 13 (readsT [0, 1, 2, 3] (.stir 4 (readsT [5, 6, 7, 8, 9, 10] (.stir 11 (readsT [12] .done))))) (by kernel_rfl) (by kernel_rfl) (fun _ _ _ _ _ h => h) ?_
  simp only [readsT]
  iterate 4 (refine wpOrdT_read (v := ?_) (by rfl) (Or.inl ⟨by rfl, fun x hx => ?_⟩) ?_; rotate_left; (· have x0 := Ext.cell hx m0; have x1 := Ext.cell hx m1; have x2 := Ext.cell hx m2; have y0 := Ext.cell hx a0; have y1 := Ext.cell hx a1; have y2 := Ext.cell hx a2; have y3 := Ext.cell hx a3; have y4 := Ext.cell hx a4; have y5 := Ext.cell hx a5; go_simp; try with_reducible rfl); try simp only [Act.put, List.setIfInBounds_toArray, List.set_cons_zero, List.set_cons_succ])
  refine wpOrdT_keep (by rfl) (fun K hK => ?_)
  go_simp
  go_at_call 123
  refine FO1.mono ?_
  rintro e w3 ⟨rfl, hx3⟩
  refine hK _ _ hx3 ?_
  clear hK K FO1
  try simp only [Act.put, List.setIfInBounds_toArray, List.set_cons_zero, List.set_cons_succ]
  cases okF with
  | false =>
    iterate 2 (refine wpOrdT_read (v := .bool true) (by rfl) (Or.inl ⟨by rfl, fun x hx => ?_⟩) ?_; (· go_simp); try simp only [Act.put, List.setIfInBounds_toArray, List.set_cons_zero, List.set_cons_succ])
    iterate 4 (refine wpOrdT_read (v := undef) (by rfl) (Or.inr ⟨by rfl, by rfl⟩) ?_; try simp only [Act.put, List.setIfInBounds_toArray, List.set_cons_zero, List.set_cons_succ])
    refine wpOrdT_keep (by rfl) (fun K hK => ?_)
    go_simp
    refine hK _ _ hx3 ?_
    clear hK K
    try simp only [Act.put, List.setIfInBounds_toArray, List.set_cons_zero, List.set_cons_succ]
    refine wpOrdT_read (v := undef) (by rfl) (Or.inr ⟨by rfl, by rfl⟩) ?_
    try simp only [Act.put, List.setIfInBounds_toArray, List.set_cons_zero, List.set_cons_succ]
    refine wpOrdT_done ?_
    try simp only [List.drop_succ_cons, List.drop_zero]
    have HNO : Hid (growF m f g = none) := Lib.hid (by rw [HNF.out, HOK.out.1]; simp)
    have HE := Lib.hid (HW2.out.trans ((Ext.drew w2).trans hx3))
    clear FO2 m0 m1 m2 a0 a1 a2 a3 a4 a5 b0 b1 b2 b3 b4 b5 hx3
    go_wp2
    refine bodyPost_ret (v := .tuple #[.slice none 0 0, .int .i64 5]) (by simp [results, Tryz.results72, go_sem]) rfl ?_
    exact ⟨.inr ⟨HNO.out, 5, rfl, .inl rfl⟩, HE.out⟩
  | true =>
    iterate 2 (refine wpOrdT_read (v := .bool false) (by rfl) (Or.inl ⟨by rfl, fun x hx => ?_⟩) ?_; (· go_simp); try simp only [Act.put, List.setIfInBounds_toArray, List.set_cons_zero, List.set_cons_succ])
    iterate 4 (refine wpOrdT_read (v := ?_) (by rfl) (Or.inl ⟨by rfl, fun x hx => ?_⟩) ?_; rotate_left; (· have x0 := Ext.cell hx m0; have x1 := Ext.cell hx m1; have x2 := Ext.cell hx m2; have y0 := Ext.cell hx b0; have y1 := Ext.cell hx b1; have y2 := Ext.cell hx b2; have y3 := Ext.cell hx b3; have y4 := Ext.cell hx b4; have y5 := Ext.cell hx b5; go_simp; try with_reducible rfl); try simp only [Act.put, List.setIfInBounds_toArray, List.set_cons_zero, List.set_cons_succ])
    refine wpOrdT_keep (by rfl) (fun K hK => ?_)
    go_simp
    go_at_call 123
    refine (FO2 w3 hx3).mono ?_
    rintro e w4 ⟨rfl, hx4⟩
    refine hK _ _ (hx3.trans hx4) ?_
    clear hK K FO2
    try simp only [Act.put, List.setIfInBounds_toArray, List.set_cons_zero, List.set_cons_succ]
    have hx24 : Ext w2 w4 := (Ext.drew w2).trans (hx3.trans hx4)
    have hw4 := HW2.out.trans hx24
    have HW4 := Lib.hid hw4
    cases okG with
    | false =>
      refine wpOrdT_read (v := .bool true) (by rfl) (Or.inl ⟨by rfl, fun x hx => ?_⟩) ?_; (· go_simp)
      try simp only [Act.put, List.setIfInBounds_toArray, List.set_cons_zero, List.set_cons_succ]
      refine wpOrdT_done ?_
      try simp only [List.drop_succ_cons, List.drop_zero]
      have HNO : Hid (growF m f g = none) := Lib.hid (by rw [HNF.out, HOK.out.2]; simp)
      clear m0 m1 m2 a0 a1 a2 a3 a4 a5 b0 b1 b2 b3 b4 b5 hx3 hx4 hx24 hw4
      go_wp2
      refine bodyPost_ret (v := .tuple #[.slice none 0 0, .int .i64 5]) (by simp [results, Tryz.results72, go_sem]) rfl ?_
      exact ⟨.inr ⟨HNO.out, 5, rfl, .inl rfl⟩, HW4.out⟩
    | true =>
      refine wpOrdT_read (v := .bool false) (by rfl) (Or.inl ⟨by rfl, fun x hx => ?_⟩) ?_; (· go_simp)
      try simp only [Act.put, List.setIfInBounds_toArray, List.set_cons_zero, List.set_cons_succ]
      refine wpOrdT_done ?_
      try simp only [List.drop_succ_cons, List.drop_zero]
      have st1 := HS1.out.ext hx24
      have st2 := HS2.out.ext hx24
      have SS := sameShapeG_c g1 g2 F G _ _ _ _ _ _ w4 st1.val st2.val st1.blk st2.blk
      have HT1 := Lib.hid st1
      have HT2 := Lib.hid st2
      obtain ⟨sb, hsb⟩ : ∃ b, shapeB F G = b := ⟨_, rfl⟩
      rw [hsb] at SS
      have HSB := Lib.hid hsb
      clear m0 m1 m2 a0 a1 a2 a3 a4 a5 b0 b1 b2 b3 b4 b5 hx3 hx4 hx24 st1 st2 hw4 HS1 HS2 hsb
      go_wp2_with fail
      refine SS.mono ?_
      rintro e w5 ⟨rfl, hx5⟩
      clear SS
      cases sb with
      | false =>
        have HNO : Hid (growF m f g = none) := Lib.hid (by rw [HNF.out, HSB.out]; simp)
        have HE := Lib.hid (HW4.out.trans hx5)
        clear hx5
        go_wp2
        refine bodyPost_ret (v := .tuple #[.slice none 0 0, .int .i64 3]) (by simp [results, Tryz.results72, go_sem]) rfl ?_
        exact ⟨.inr ⟨HNO.out, 3, rfl, .inr rfl⟩, HE.out⟩
      | true =>
        have hsh : F.q = G.q ∧ F.hd = G.hd ∧ F.at_ = G.at_ ∧ F.ws = G.ws ∧ F.rs = G.rs := by
          have := HSB.out
          simp only [shapeB, Bool.and_eq_true, decide_eq_true_eq] at this
          obtain ⟨⟨⟨⟨a, b⟩, c⟩, d⟩, e⟩ := this
          exact ⟨a, b, c, d, e⟩
        have hol : G.os.length = F.os.length := by have := HFS.out; rw [this.1.2.2.1, this.2.2.2.1, hsh.2.2.2.2]
        have hol3 : F.os.length ≤ 3 := by have := HFS.out; omega
        have st1 := HT1.out.ext hx5
        have st2 := HT2.out.ext hx5
        obtain ⟨n, hn⟩ : ∃ n, F.os.length = n := ⟨_, rfl⟩
        have hn2 : G.os.length = n := hol.trans hn
        have a5 : w5.cell? ⟨g1, 5, none⟩ = some (.slice (some ⟨go, 0, none⟩) n co) := by rw [← hn]; exact st1.blk.cell 5
        have b5 : w5.cell? ⟨g2, 5, none⟩ = some (.slice (some ⟨go2, 0, none⟩) n co2) := by rw [← hn2]; exact st2.blk.cell 5
        obtain ⟨W6, hW6⟩ : ∃ W, W = w5.alloc (.cells #[] 2) := ⟨_, rfl⟩
        obtain ⟨g6, hg6⟩ : ∃ g, w5.heap.size = g := ⟨_, rfl⟩
        have HGB6 : Hid (w.heap.size ≤ g6) := Lib.hid (by rw [← hg6]; exact (HW4.out.trans hx5).size)
        have e6 : Ext w5 W6 := by rw [hW6]; exact Ext.alloc _ _
        obtain ⟨L, hL⟩ : ∃ L, subL G.os F.os = L := ⟨_, rfl⟩
        have hLl : L.length = n := by rw [← hL, subL_length hol, hn]
        have HLG : Hid (∀ (k : Nat) (h1 : k < G.os.length) (h2 : k < F.os.length) (h3 : k < L.length), L[k] = G.os[k] - F.os[k]) := Lib.hid (fun k h1 h2 h3 => by subst hL; exact subL_get h1 h2 h3)
        have hS0 : OwnInts g6 W6 (.slice (some ⟨g6, 0, none⟩) 0 0) (L.take 0) := by
          have be : Blk W6 g6 2 #[] := by rw [hW6]; exact Blk.new _ _ _ _ hg6
          exact own_emp be (Nat.le_refl _)
        have b6 : (w5.alloc (.cells #[] 2)).cell? ⟨g2, 5, none⟩ = some (.slice (some ⟨go2, 0, none⟩) n co2) := (Ext.alloc _ _).cell b5
        have hi1 := st1.oo.ints
        have hi2 := st2.oo.ints
        have HO1 : Hid (Ints w5 (.slice (some ⟨go, 0, none⟩) F.os.length co) F.os) := Lib.hid hi1
        have HO2 : Hid (Ints w5 (.slice (some ⟨go2, 0, none⟩) G.os.length co2) G.os) := Lib.hid hi2
        have HS0 := Lib.hid hS0
        have HE6 := Lib.hid e6
        have HW5 := Lib.hid (HW4.out.trans hx5)
        have HG6 := Lib.hid hg6
        have HNN := Lib.hid (And.intro hn (And.intro hn2 (And.intro hLl hL)))
        have hn3 : n ≤ 3 := by omega
        clear st1 st2 hS0 e6 hx5 hi1 hi2 hn hn2 hol hol3 hLl hL hsh
        go_wp2_with fail
        try rw [← hW6]
        try rw [hg6]
        clear hW6 hg6 b6
        go_loopw [10, 41] (fun a b wr => ∃ k : Nat, k ≤ n ∧ b = .int .i64 (k : Int) ∧ Hid (Ext w5 wr) ∧ Hid (OwnInts g6 wr a (L.take k))) (fun _ b _ => n - (intOf b).toNat)
        case atStart => exact ⟨0, Nat.zero_le _, rfl, HE6, HS0⟩
        case round =>
          clear HS0 HE6
          obtain ⟨k, hk, rfl, HXR, HO⟩ := hrel
          by_cases hlt : k < n
          · have hdl : decide ((k : Int) < (n : Int)) = true := decide_eq_true (by omega)
            have hxr := HXR.out
            have ho := HO.out
            have hk1 : k < F.os.length := by rw [HNN.out.1]; exact hlt
            have hk2 : k < G.os.length := by rw [HNN.out.2.1]; exact hlt
            have hkL : k < L.length := by rw [HNN.out.2.2.1]; exact hlt
            obtain ⟨bb1, off1, hA1, c1⟩ := Ints.at (HO1.out.ext hxr) hk1
            obtain ⟨bb2, off2, hA2, c2⟩ := Ints.at (HO2.out.ext hxr) hk2
            injection hA1 with hA1
            injection hA1 with t1 t2
            subst t1 t2
            injection hA2 with hA2
            injection hA2 with t1 t2
            subst t1 t2
            replace c1 := c1 k hk1
            replace c2 := c2 k hk2
            rw [Nat.zero_add] at c1 c2
            have hb1 := HFS.out.1.2.2.2 _ (List.getElem_mem hk1)
            have hb2 := HFS.out.2.2.2.2 _ (List.getElem_mem hk2)
            have hLk := HLG.out k hk2 hk1 hkL
            obtain ⟨zf, hzf⟩ : ∃ z, F.os[k] = z := ⟨_, rfl⟩
            obtain ⟨zg, hzg⟩ : ∃ z, G.os[k] = z := ⟨_, rfl⟩
            rw [hzf] at c1 hb1 hLk
            rw [hzg] at c2 hb2 hLk
            have HLT : Hid (L.take (k + 1) = L.take k ++ [zg - zf]) := Lib.hid (by rw [List.take_succ_eq_append_getElem hkL, hLk])
            clear hzf hzg
            have a7 := hxr.cell a5
            have b7 := hxr.cell b5
            clear a5 b5
            obtain ⟨P, hP⟩ : ∃ P, L.take k = P := ⟨_, rfl⟩
            have hPl : P.length = k := by rw [← hP, List.length_take]; omega
            rw [hP] at ho HLT
            have HPL := Lib.hid hPl
            obtain ⟨A10, c10, ha10, _, _⟩ := id ho.ints.form
            rw [hPl] at ha10
            subst ha10
            have hwz : IntKind.i64.wrap (zg - zf) = zg - zf := IntWalk.i64_in _ (by omega)
            obtain ⟨W9, hW9⟩ : ∃ W, W = wr.alloc (.cells #[.int .i64 (zg - zf)] 2) := ⟨_, rfl⟩
            obtain ⟨g9, hg9⟩ : ∃ g, wr.heap.size = g := ⟨_, rfl⟩
            have e9 : Ext wr W9 := by rw [hW9]; exact Ext.alloc _ _
            have b9 : Blk W9 g9 2 #[.int .i64 (zg - zf)] := by rw [hW9]; exact Blk.new _ _ _ _ hg9
            have i9 : Ints W9 (.slice (some ⟨g9, 0, none⟩) 1 1) [zg - zf] := (IL.one (go := g9 + 1) (base := 0) b9 (by omega)).ints
            have hsz : g6 ≤ W9.heap.size := by have := HG6.out; have := hxr.size; have := e9.size; omega
            obtain ⟨v7, w7, hr7, ho7, hg7⟩ := run_append_ints W9 g6 _ _ P [zg - zf] (ho.ext e9) i9 (.inr ⟨_, _, _, _, rfl⟩) (by simp; omega) hsz
            have hx7 : Ext w5 w7 := (hxr.trans e9).grown hg7 (fun q hq => by
              have := (World.ownsRow.lt ho q hq).1
              rw [HG6.out]; exact this)
            rw [← HLT.out] at ho7
            have HX7 := Lib.hid hx7
            have HO7 := Lib.hid ho7
            rw [hW9, ← hg9] at hr7
            clear hx7 ho7 hg7 hsz i9 b9 e9 hW9 hg9 ho hP hPl hLk
            go_wp2_with (at_builtin; refine Lib.wpList_append_run_sl _ rfl _ _ 27 rfl _ _ rfl rfl hr7 ?_)
            go_wp2
            go_roundw
            case rel => exact ⟨k + 1, by omega, by go_num, HX7, HO7⟩
            case measure => simp [intOf]; omega
          · have hdl : decide ((k : Int) < (n : Int)) = false := decide_eq_false (by omega)
            have ho := HO.out
            rw [List.take_of_length_le (by rw [HNN.out.2.2.1]; omega)] at ho
            obtain ⟨A10, c10, rfl, _, _⟩ := id ho.ints.form
            have AW := allWithin_c (.slice A10 L.length c10) _ 0 2000 wr ho.ints
            obtain ⟨ba, hba⟩ : ∃ b, (L.all fun z => inB z 0 2000) = b := ⟨_, rfl⟩
            rw [hba] at AW
            have HBA := Lib.hid hba
            have HON := Lib.hid ho
            clear a5 b5 ho HO hba
            clear HO1 HO2
            go_wp2_with fail
            refine AW.mono ?_
            rintro e w8 ⟨rfl, rfl⟩
            cases ba with
            | true =>
              have HYES : Hid (growF m f g = some L) := Lib.hid (by rw [HNF.out, HOK.out.1, HOK.out.2, HSB.out, HNN.out.2.2.2, HBA.out]; rfl)
              go_wp2
              refine bodyPost_ret (v := .tuple #[.slice A10 L.length c10, .int .i64 0]) (by simp [results, Tryz.results72, go_sem]) rfl ?_
              exact ⟨.inl ⟨L, _, g6, HYES.out, rfl, HON.out, HGB6.out⟩, HW5.out.trans HXR.out⟩
            | false =>
              have HNO : Hid (growF m f g = none) := Lib.hid (by rw [HNF.out, HNN.out.2.2.2, HBA.out]; simp)
              go_wp2
              refine bodyPost_ret (v := .tuple #[.slice none 0 0, .int .i64 3]) (by simp [results, Tryz.results72, go_sem]) rfl ?_
              exact ⟨.inr ⟨HNO.out, 3, rfl, .inr rfl⟩, HW5.out.trans HXR.out⟩
end Go.Proofs.YtojiammendjpkaaGreat
end
