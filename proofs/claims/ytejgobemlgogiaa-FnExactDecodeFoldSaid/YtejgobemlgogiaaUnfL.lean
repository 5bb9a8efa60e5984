/- Contract of the program's DecodeFold. -/
import Derived.Test.YtejgobemlgogiaaUnfK
set_option linter.unusedSimpArgs false
set_option linter.unusedVariables false
namespace Go.Proofs.Ytejgobemlgogiaa
open Go Go.RowKit Go.Proofs Go.Maps
set_option maxHeartbeats 400000
theorem ConfRes.done {w w1 : World} {r : ConfD × Int} {b : Nat} {lv rv : Value} (hb : w.heap.size ≤ b) (hX : Ext w w1)
    (hl : OwnInts w.heap.size w1 lv r.1.l) (hr : OwnInts w.heap.size w1 rv r.1.r) (hap : ∀ g, lv.ownBlock = some g → rv.ownBlock ≠ some g)
    (n1 : ∀ g, lv.ownBlock = some g → g ≠ b) (n2 : ∀ g, rv.ownBlock = some g → g ≠ b) (x y z : Value) :
    ConfRes w r (.returned (.tuple #[.agg #[.int .i64 r.1.q, lv, rv], .int .i64 r.2])) (((w1.setCell ⟨b, 0, none⟩ x).setCell ⟨b, 1, none⟩ y).setCell ⟨b, 2, none⟩ z) :=
  ⟨_, _, rfl, ownsRow_far (ownsRow_far (ownsRow_far hl n1 _) n1 _) n1 _, ownsRow_far (ownsRow_far (ownsRow_far hr n2 _) n2 _) n2 _, hap, ((hX.setCell hb _).setCell hb _).setCell hb _⟩
theorem ConfRes.none {w w1 : World} {k : Int} {b : Nat} (hb : w.heap.size ≤ b) (hX : Ext w w1) (x y z : Value) :
    ConfRes w (blankC, k) (.returned (.tuple #[.agg #[.int .i64 0, .slice none 0 0, .slice none 0 0], .int .i64 k])) (((w1.setCell ⟨b, 0, none⟩ x).setCell ⟨b, 1, none⟩ y).setCell ⟨b, 2, none⟩ z) :=
  ConfRes.done (r := (blankC, k)) hb hX (World.ownsRow_nil ..) (World.ownsRow_nil ..) (fun g hg => by simp [Value.ownBlock] at hg) (fun g hg => by simp [Value.ownBlock] at hg) (fun g hg => by simp [Value.ownBlock] at hg) x y z
set_option maxRecDepth 20000 in
set_option maxHeartbeats 4000000 in
theorem DecodeFold_c (rvm : Value) (m : MachD) (c : ConfD) (lv qv : Value) (w : World) (hr : Rules w rvm m.rules) (hl : Ints w lv c.l) (hq : Ints w qv c.r) (fl : Flat lv) (fr : Flat qv) :
    Calls Try.prog 9 #[.agg #[.int .i64 m.sy, .int .i64 m.st, rvm], .agg #[.int .i64 c.q, lv, qv]] w (ConfRes w (decAll m c)) := by
  obtain ⟨Am, cm, rfl, _, _⟩ := hr.form
  obtain ⟨Al, cl, rfl, _, _⟩ := hl.form
  obtain ⟨Ar, cr, rfl, _, _⟩ := hq.form
  obtain ⟨W, hW⟩ : ∃ W, W = ((w.alloc (.cells #[.int .i64 m.sy, .int .i64 m.st, .slice Am m.rules.length cm] 35)).alloc (.cells #[.int .i64 c.q, .slice Al c.l.length cl, .slice Ar c.r.length cr] 30)).alloc (.cells #[.int .i64 0, .slice none 0 0, .slice none 0 0] 30) := ⟨_, rfl⟩
  have hXW : Ext w W := by rw [hW]; exact ((Ext.alloc _ _).trans (Ext.alloc _ _)).trans (Ext.alloc _ _)
  have bM : Blk W w.heap.size 35 #[.int .i64 m.sy, .int .i64 m.st, .slice Am m.rules.length cm] := by rw [hW]; exact ((Blk.new _ _ _ _ rfl).alloc _).alloc _
  have bC : Blk W (w.heap.size + 1) 30 #[.int .i64 c.q, .slice Al c.l.length cl, .slice Ar c.r.length cr] := by rw [hW]; exact (Blk.new _ _ _ _ (by simp)).alloc _
  have bO : Blk W (w.heap.size + 1 + 1) 30 #[.int .i64 0, .slice none 0 0, .slice none 0 0] := by rw [hW]; exact Blk.new _ _ _ _ (by simp)
  obtain ⟨R, hR⟩ : ∃ R, R = decAll m c := ⟨_, rfl⟩
  rw [← hR]
  have HR := Lib.hid hR
  clear hR
  have hb2 : w.heap.size ≤ w.heap.size + 1 + 1 := by omega
  have ob := bO.cell
  have of_ := bO.frozen
  go_enter Try.func9, Try.ntmps9
  go_wp2_with fail
  rw [← hW]
  clear hW ob of_
  refine (ValidMachine_c _ m _ ⟨_, rfl, hr.ext hXW⟩).mono ?_
  rintro e w1 ⟨rfl, hx1⟩
  have hX1 := hXW.trans hx1
  have ob := (bO.ext hx1).cell
  have of_ := (bO.ext hx1).frozen
  have m0 := (bM.ext hx1).cell 0
  have m1 := (bM.ext hx1).cell 1
  have m2 := (bM.ext hx1).cell 2
  simp only [List.getElem?_toArray, List.getElem?_cons_zero, List.getElem?_cons_succ] at m0 m1 m2
  cases hm : machOk m with
  | false =>
    have HE : Hid (R = (blankC, 1)) := by unfold Hid; rw [HR.out]; unfold decAll; rw [hm]; rfl
    clear hm
    go_wp2
    rw [HE.out]
    exact bodyPost_ret (v := .tuple #[.agg #[.int .i64 0, .slice none 0 0, .slice none 0 0], .int .i64 1]) (by simp [results, Try.results9, go_sem, ob]) rfl (ConfRes.none hb2 hX1 _ _ _)
  | true =>
    obtain ⟨s1, s2, s3, s4, hrl⟩ := machOk_all hm
    have hf := folded_c (.agg #[.int .i64 m.sy, .int .i64 m.st, .slice Am m.rules.length cm]) m w1 ⟨_, rfl, hr.ext hX1⟩ hm
    have HE : Hid (R = match foldOf m with | none => (blankC, 5) | some s => if confB ⟨m.sy + 1, s.1.length, s.2⟩ c then decP m.sy (s.1.getD c.q.toNat ⟨0, 0, 0⟩) c else (blankC, 2)) := by unfold Hid; rw [HR.out]; unfold decAll; rw [hm]; rfl
    have h5 : ∀ s, foldOf m = some s → m.sy ≤ 5 := by
      intro s hs
      unfold foldOf at hs
      by_cases h6 : m.sy = 6
      · rw [if_pos h6] at hs; cases hs
      · omega
    have HM := Lib.hid hm
    have H5 := Lib.hid h5
    clear hm h5 hrl
    go_wp2_with fail
    refine hf.mono ?_
    rintro e w2 ⟨hres, hx2⟩
    have hX2 := hX1.trans hx2
    have bO2 := (bO.ext hx1).ext hx2
    clear ob of_ m0 m1 m2
    have ob := bO2.cell
    have of_ := bO2.frozen
    have m0 := ((bM.ext hx1).ext hx2).cell 0
    have m1 := ((bM.ext hx1).ext hx2).cell 1
    have m2 := ((bM.ext hx1).ext hx2).cell 2
    have c0 := ((bC.ext hx1).ext hx2).cell 0
    have c1 := ((bC.ext hx1).ext hx2).cell 1
    have c2 := ((bC.ext hx1).ext hx2).cell 2
    simp only [List.getElem?_toArray, List.getElem?_cons_zero, List.getElem?_cons_succ] at m0 m1 m2 c0 c1 c2
    rcases hres with ⟨hn, rfl⟩ | ⟨s, bx, bm, rv, pv, hs, rfl, hst, hok, l1, l2⟩
    · have HE2 : Hid (R = (blankC, 5)) := by unfold Hid; rw [HE.out, hn]
      clear hn
      go_wp2
      rw [HE2.out]
      exact bodyPost_ret (v := .tuple #[.agg #[.int .i64 0, .slice none 0 0, .slice none 0 0], .int .i64 5]) (by simp [results, Try.results9, go_sem, ob]) rfl (ConfRes.none hb2 hX2 _ _ _)
    · have HE2 : Hid (R = if confB ⟨m.sy + 1, s.1.length, s.2⟩ c then decP m.sy (s.1.getD c.q.toNat ⟨0, 0, 0⟩) c else (blankC, 2)) := by unfold Hid; rw [HE.out, hs]
      have h5 := H5.out s hs
      clear hs
      obtain ⟨m', hm'⟩ : ∃ m' : MachD, m' = ⟨m.sy + 1, s.1.length, s.2⟩ := ⟨_, rfl⟩
      obtain ⟨Av, cv, rfl, _, _⟩ := hst.rules.rules.form
      have x0 := hst.blk.cell 0
      have x1 := hst.blk.cell 1
      have x2 := hst.blk.cell 2
      simp only [List.getElem?_toArray, List.getElem?_cons_zero, List.getElem?_cons_succ] at x0 x1 x2
      have CC := fun d os => configOf_c (.agg #[.int .i64 (m.sy + 1), .int .i64 (s.1.length : Int), .slice Av s.2.length cv]) (.agg #[.int .i64 c.q, .slice Al c.l.length cl, .slice Ar c.r.length cr]) ⟨m.sy + 1, s.1.length, s.2⟩ c _ ⟨_, rfl, hst.rules.rules.ext (below_regrown w2 d os)⟩ ⟨_, _, rfl, (hl.ext hX2).ext (below_regrown w2 d os), (hq.ext hX2).ext (below_regrown w2 d os)⟩ (by show (2 : Int) ≤ m.sy + 1; omega) (by show m.sy + 1 ≤ 6; omega) (by show (1 : Int) ≤ (s.1.length : Int); omega) (by show (s.1.length : Int) ≤ 1000; omega)
      have d0 := cellR x0
      have d1 := cellR x1
      have d2 := cellR x2
      have e0 := cellR c0
      have e1 := cellR c1
      have e2 := cellR c2
      cases hc : confB ⟨m.sy + 1, s.1.length, s.2⟩ c with
      | false =>
        have HE3 : Hid (R = (blankC, 2)) := by unfold Hid; rw [HE2.out, hc]; rfl
        simp only [hc] at CC
        clear hc
        go_wp2_with fail
        refine wp_region_ext (by kernel_rfl) (by kernel_rfl) ?_
        repeat (go_big_quiet_step ((go_at_call 28; exact Calls.extR (CC _ _))))
        refine wpQuiet_nil ?_
        intro w3 hx3
        have ob := (bO2.ext hx3).cell
        have of_ := (bO2.ext hx3).frozen
        go_wp2
        rw [HE3.out]
        exact bodyPost_ret (v := .tuple #[.agg #[.int .i64 0, .slice none 0 0, .slice none 0 0], .int .i64 2]) (by simp [results, Try.results9, go_sem, ob]) rfl (ConfRes.none hb2 (hX2.trans hx3) _ _ _)
      | true =>
        obtain ⟨⟨q0, q1⟩, ⟨b1, b2⟩, ⟨b3, b4⟩⟩ := conf_all hc
        obtain ⟨i, hi⟩ : ∃ i : Nat, c.q = i := ⟨c.q.toNat, by omega⟩
        have hil : i < s.1.length := by omega
        have HE3 : Hid (R = decP m.sy s.1[i] c) := by
          unfold Hid
          rw [HE2.out, hc, hi, Int.toNat_natCast, List.getD_eq_getElem?_getD, List.getElem?_eq_getElem hil]
          rfl
        simp only [hc] at CC
        clear hc
        have HI := Lib.hid hi
        clear hi
        have HB2 : Hid (∀ z ∈ c.l, 0 ≤ z ∧ z ≤ m.sy) := fun z hz => by have := b2 z hz; omega
        have HB4 : Hid (∀ z ∈ c.r, 0 ≤ z ∧ z ≤ m.sy) := fun z hz => by have := b4 z hz; omega
        clear b2 b4
        go_wp2_with fail
        refine wp_region_ext (by kernel_rfl) (by kernel_rfl) ?_
        repeat (go_big_quiet_step ((go_at_call 28; exact Calls.extR (CC _ _))))
        refine wpQuiet_nil ?_
        intro w3 hx3
        have hX3 := hX2.trans hx3
        have bO3 := bO2.ext hx3
        clear ob of_ d0 d1 d2 e0 e1 e2 CC
        have ob := bO3.cell
        have of_ := bO3.frozen
        have m0 := hx3.cell m0
        have m1 := hx3.cell m1
        have m2 := hx3.cell m2
        have c0 := hx3.cell c0
        have c1 := hx3.cell c1
        have c2 := hx3.cell c2
        go_wp2_with fail
        refine (decodeFold_c w.heap.size w3 m.sy m.st (.slice Am m.rules.length cm) bx (m.sy + 1) s.1.length s.2 s.1 _ pv bm c _ _ i s.1[i] ⟨(hst.ext hx3).blk, ownsRow_base (hst.ext hx3).rules hX1.size, ownsRow_base (hst.ext hx3).places hX1.size, (hst.ext hx3).tbl, Nat.le_trans hX1.size hst.lowX, Nat.le_trans hX1.size hst.lowM⟩ HI.out (List.getElem?_eq_getElem hil) (hl.ext hX3) (hq.ext hX3) fl fr b1 b3 HB2.out HB4.out (by omega) (by omega)).mono ?_
        rw [← HE3.out]
        rintro e w4 ⟨lv4, rv4, rfl, hol, hor, hap, hx4⟩
        obtain ⟨⟨uq, ul, ur⟩, uc⟩ := R
        simp only at hol hor
        obtain ⟨A9, k9, rfl, _, _⟩ := hol.ints.form
        obtain ⟨B9, j9, rfl, _, _⟩ := hor.ints.form
        clear ob of_
        have bO4 := bO3.ext hx4
        have ob := bO4.cell
        have of_ := bO4.frozen
        have hb8 : w.heap.size + 1 + 1 < w3.heap.size := bO3.lt
        have n1 : ∀ g, (Value.slice A9 ul.length k9).ownBlock = some g → g ≠ w.heap.size + 1 + 1 := fun g hg => by have := (hol.lt g hg).1; omega
        have n2 : ∀ g, (Value.slice B9 ur.length j9).ownBlock = some g → g ≠ w.heap.size + 1 + 1 := fun g hg => by have := (hor.lt g hg).1; omega
        go_wp2
        exact bodyPost_ret (v := .tuple #[.agg #[.int .i64 uq, .slice A9 ul.length k9, .slice B9 ur.length j9], .int .i64 uc]) (by simp [results, Try.results9, go_sem, ob]) rfl (ConfRes.done (r := (⟨uq, ul, ur⟩, uc)) hb2 (hX3.trans hx4) (ownsRow_base hol hX3.size) (ownsRow_base hor hX3.size) hap n1 n2 _ _ _)
end Go.Proofs.Ytejgobemlgogiaa
