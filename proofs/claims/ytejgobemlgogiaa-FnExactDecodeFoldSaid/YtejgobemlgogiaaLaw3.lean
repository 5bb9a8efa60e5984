/- The walk of the law on the decoding of a configuration of the machine on one half of the tape. -/
import Derived.Test.YtejgobemlgogiaaUnfL
import Derived.Test.YtejgobemlgogiaaUnfM
import Derived.Test.YtejgobemlgogiaaConfL
import Derived.Deep.RegionHeld3
import Derived.Deep.DeepCutAuto
set_option linter.unusedSimpArgs false
set_option linter.unusedVariables false
namespace Go.Proofs.Ytejgobemlgogiaa
open Go Go.RowKit Go.Proofs
set_option maxHeartbeats 400000
theorem unfD_len (q : Int) (D : List Int) (k : Nat) : (unfD q D k).1.l.length ≤ 200 ∧ (unfD q D k).1.r.length ≤ 200 := by
  unfold unfD
  split
  · rename_i h
    simp only [Bool.and_eq_true, decide_eq_true_eq] at h
    exact ⟨by simp only; omega, by simp only; omega⟩
  · simp [blankC]
theorem decAll_len (m : MachD) (c : ConfD) : (decAll m c).1.l.length ≤ 200 ∧ (decAll m c).1.r.length ≤ 200 := by
  have hb : ∀ k : Int, ((blankC, k) : ConfD × Int).1.l.length ≤ 200 ∧ ((blankC, k) : ConfD × Int).1.r.length ≤ 200 := fun k => by simp [blankC]
  unfold decAll decP
  repeat' split
  all_goals first | exact unfD_len _ _ _ | exact hb _
theorem OwnInts.kept' {base base' : Nat} {w w' : World} {g rv : Value} {xs : List Int} {rs : List RuleD} (h : OwnInts base w g xs) (hr : OwnRules base' w rv rs) (hg : w.grownBy w' rv.ownBlock) : OwnInts base w' g xs :=
  World.ownsRow.kept h hg (own_ne h hr (by decide))
theorem ToConf (w : World) (q : Int) (lv rv : Value) (c : ConfD) (h1 : Ints w lv c.l) (h2 : Ints w rv c.r) : Conf w (.agg #[.int .i64 c.q, lv, rv]) c := ⟨_, _, rfl, h1, h2⟩
/-- A configuration that a call has made. -/
def MadeConf (base : Nat) (w : World) (v : Value) (c : ConfD) : Prop := ∃ lv rv, v = .agg #[.int .i64 c.q, lv, rv] ∧ OwnInts base w lv c.l ∧ OwnInts base w rv c.r ∧ (∀ g, lv.ownBlock = some g → rv.ownBlock ≠ some g)
theorem toConfigM_c (v : Value) (p : ConfD) (w : World) (h : Conf w v p) (hn : p.l.length + p.r.length ≤ 1048576) :
    Calls Try.prog 8 #[v] w fun e w' => ∃ u, e = .returned u ∧ MadeConf w.heap.size w' u p ∧ Ext w w' := by
  refine (toConfig_c v p w h hn).mono ?_
  rintro e w' ⟨nv, wv, rfl, h1, h2, h3, h4⟩
  exact ⟨_, rfl, ⟨_, _, rfl, h1, h2, h3⟩, h4⟩
theorem DecodeFoldM_c (rvm u : Value) (m : MachD) (c : ConfD) (base : Nat) (w : World) (hr : Rules w rvm m.rules) (hu : MadeConf base w u c) :
    Calls Try.prog 9 #[.agg #[.int .i64 m.sy, .int .i64 m.st, rvm], u] w (ConfRes w (decAll m c)) := by
  obtain ⟨lv, rv, rfl, h1, h2, _⟩ := hu
  exact DecodeFold_c rvm m c lv rv w hr h1.ints h2.ints h1.flat h2.flat
theorem specDecodeFoldM_c (rvm u : Value) (m : MachD) (c : ConfD) (base : Nat) (w : World) (hr : Rules w rvm m.rules) (hu : MadeConf base w u c) :
    Calls Try.prog 6 #[.agg #[.int .i64 m.sy, .int .i64 m.st, rvm], u] w (SpecRes w (decAll m c)) := by
  obtain ⟨lv, rv, rfl, h1, h2, _⟩ := hu
  exact specDecodeFold_c rvm m c lv rv w hr h1.ints h2.ints h2.flatS
theorem MadeConf.ext {base : Nat} {w w' : World} {u : Value} {c : ConfD} (h : MadeConf base w u c) (he : Ext w w') : MadeConf base w' u c := by
  obtain ⟨lv, rv, e, h1, h2, h3⟩ := h
  exact ⟨lv, rv, e, h1.ext he, h2.ext he, h3⟩
theorem MadeConf.conf {base : Nat} {w : World} {u : Value} {c : ConfD} (h : MadeConf base w u c) : Conf w u c := by
  obtain ⟨lv, rv, e, h1, h2, h3⟩ := h
  exact ⟨lv, rv, e, h1.ints, h2.ints⟩
/-- A configuration in a block that has been made, and its code. -/
def CutConf (w0 : World) (R : ConfD × Int) (s6 s7 : Value) (w : World) : Prop := ∃ g lv rv, s6 = .pointer (some ⟨g, 0, none⟩) ∧ s7 = .int .i64 R.2 ∧ Blk w g 30 #[.int .i64 R.1.q, lv, rv] ∧ Ext w0 w ∧ w0.heap.size ≤ g ∧ Ints w lv R.1.l ∧ Ints w rv R.1.r
abbrev zeroC : Obj := .cells #[.int .i64 0, .slice none 0 0, .slice none 0 0] 30
theorem CutConf.late {w0 wC : World} {R : ConfD × Int} {lv rv : Value} {base : Nat} (hx : Ext w0 wC) (h1 : OwnInts base wC lv R.1.l) (h2 : OwnInts base wC rv R.1.r) :
    CutConf w0 R (.pointer (some ⟨wC.heap.size, 0, none⟩)) (.int .i64 R.2) (wC.alloc (.cells #[.int .i64 R.1.q, lv, rv] 30)) :=
  ⟨_, lv, rv, rfl, rfl, Blk.new _ _ _ _ rfl, hx.trans (Ext.alloc _ _), hx.size, (h1.ext (Ext.alloc _ _)).ints, (h2.ext (Ext.alloc _ _)).ints⟩
theorem CutConf.early {w0 wC : World} {R : ConfD × Int} {lv rv : Value} {base g : Nat} (hx : Ext w0 wC) (h1 : OwnInts base wC lv R.1.l) (h2 : OwnInts base wC rv R.1.r) (hb : Blk wC g 30 #[.int .i64 0, .slice none 0 0, .slice none 0 0]) (hg : w0.heap.size ≤ g) :
    CutConf w0 R (.pointer (some ⟨g, 0, none⟩)) (.int .i64 R.2) (((wC.setCell ⟨g, 0, none⟩ (.int .i64 R.1.q)).setCell ⟨g, 1, none⟩ lv).setCell ⟨g, 2, none⟩ rv) := by
  have n1 : ∀ k, lv.ownBlock = some k → k ≠ g := fun k hk e => by
    subst e
    exact blk_ne_row hb h1 (by decide) hk.symm
  have n2 : ∀ k, rv.ownBlock = some k → k ≠ g := fun k hk e => by
    subst e
    exact blk_ne_row hb h2 (by decide) hk.symm
  exact ⟨g, lv, rv, rfl, rfl, ((hb.set_ 0 _).set_ 1 _).set_ 2 _, ((hx.setCell hg _).setCell hg _).setCell hg _, hg, (ints_far (ints_far (ints_far h1 n1 _) n1 _) n1 _).ints, (ints_far (ints_far (ints_far h2 n2 _) n2 _) n2 _).ints⟩
theorem Ext.set3 {w0 wC : World} {g : Nat} (hx : Ext w0 wC) (hg : w0.heap.size ≤ g) (x y z : Value) : Ext w0 (((wC.setCell ⟨g, 0, none⟩ x).setCell ⟨g, 1, none⟩ y).setCell ⟨g, 2, none⟩ z) :=
  ((hx.setCell hg _).setCell hg _).setCell hg _
set_option maxRecDepth 20000 in
set_option maxHeartbeats 4000000 in
theorem law3_c (v u : Value) (m : MachD) (c : ConfD) (w : World) (h : Mach w v m) (h' : Conf w u c) :
    Calls Try.prog 3 #[v, u] w fun e w' => e = .returned (.bool true) ∧ Ext w w' := by
  obtain ⟨rv, rfl, hr⟩ := h
  obtain ⟨lv, qv, rfl, hl, hq⟩ := h'
  obtain ⟨Ar, cr, rfl, _, _⟩ := hr.form
  obtain ⟨Al, cl, rfl, _, _⟩ := hl.form
  obtain ⟨Aq, cq, rfl, _, _⟩ := hq.form
  obtain ⟨W, hW⟩ : ∃ W, W = (w.alloc (.cells #[.int .i64 m.sy, .int .i64 m.st, .slice Ar m.rules.length cr] 24)).alloc (.cells #[.int .i64 c.q, .slice Al c.l.length cl, .slice Aq c.r.length cq] 27) := ⟨_, rfl⟩
  have hx0 : Ext w W := by rw [hW]; exact (Ext.alloc _ _).trans (Ext.alloc _ _)
  have bM : Blk W w.heap.size 24 #[.int .i64 m.sy, .int .i64 m.st, .slice Ar m.rules.length cr] := by rw [hW]; exact (Blk.new _ _ _ _ rfl).alloc _
  have bC : Blk W (w.heap.size + 1) 27 #[.int .i64 c.q, .slice Al c.l.length cl, .slice Aq c.r.length cq] := by rw [hW]; exact Blk.new _ _ _ _ (by simp)
  go_enter Try.func3, Try.ntmps3
  go_wp2_with fail
  rw [← hW]
  clear hW
  refine (szMachine_c _ m _ _ ⟨_, rfl, hr.ext hx0⟩ (by omega) (by omega)).mono ?_
  rintro e w1 ⟨rfl, hx1⟩
  by_cases hbig : (1048576 : Int) < m.rules.length
  · rw [if_pos hbig]
    go_wp2
    go_ret
    exact ⟨rfl, hx0.trans hx1⟩
  · rw [if_neg hbig]
    have hlen : m.rules.length ≤ 1048576 := by omega
    have hX1 := hx0.trans hx1
    have d0 := (bC.ext hx1).cell 0
    have d1 := (bC.ext hx1).cell 1
    have d2 := (bC.ext hx1).cell 2
    simp only [List.getElem?_toArray, List.getElem?_cons_zero, List.getElem?_cons_succ] at d0 d1 d2
    clear hbig
    go_wp2_with fail
    refine (szConfig_c _ c _ _ ⟨_, _, rfl, hl.ext hX1, hq.ext hX1⟩ (by omega) (by omega)).mono ?_
    rintro e w2 ⟨rfl, hx2⟩
    have hX2 := hX1.trans hx2
    clear d0 d1 d2
    by_cases hbig : (1048576 - (m.rules.length : Int)) < ((c.l.length + c.r.length : Nat) : Int)
    · rw [szF_no hbig]
      go_wp2
      go_ret
      exact ⟨rfl, hX2⟩
    · rw [szF_yes hbig]
      have hsz : c.l.length + c.r.length ≤ 1048576 := by omega
      have hpos : 0 ≤ 1048576 - (m.rules.length : Int) - ((c.l.length + c.r.length : Nat) : Int) := by omega
      generalize 1048576 - (m.rules.length : Int) - ((c.l.length + c.r.length : Nat) : Int) = lf at *
      have bM2 := (bM.ext hx1).ext hx2
      have bC2 := (bC.ext hx1).ext hx2
      have c0 := bM2.cell 0
      have c1 := bM2.cell 1
      have c2 := bM2.cell 2
      have d0 := bC2.cell 0
      have d1 := bC2.cell 1
      have d2 := bC2.cell 2
      simp only [List.getElem?_toArray, List.getElem?_cons_zero, List.getElem?_cons_succ] at c0 c1 c2 d0 d1 d2
      have hM0 : Mach w2.drew (.agg #[.int .i64 m.sy, .int .i64 m.st, .slice Ar m.rules.length cr]) m := ⟨_, rfl, (hr.ext hX2).ext (Ext.drew _)⟩
      have hC0 : Conf w2.drew (.agg #[.int .i64 c.q, .slice Al c.l.length cl, .slice Aq c.r.length cq]) c := ⟨_, _, rfl, (hl.ext hX2).ext (Ext.drew _), (hq.ext hX2).ext (Ext.drew _)⟩
      have hMz := hM0
      have hCz := hC0
      replace hMz : Mach (w2.alloc zeroC).drew (.agg #[.int .i64 m.sy, .int .i64 m.st, .slice Ar m.rules.length cr]) m := ⟨_, rfl, (hr.ext hX2).ext ((Ext.alloc _ _).trans (Ext.drew _))⟩
      replace hCz : Conf (w2.alloc zeroC).drew (.agg #[.int .i64 c.q, .slice Al c.l.length cl, .slice Aq c.r.length cq]) c := ⟨_, _, rfl, (hl.ext hX2).ext ((Ext.alloc _ _).trans (Ext.drew _)), (hq.ext hX2).ext ((Ext.alloc _ _).trans (Ext.drew _))⟩
      clear hbig bM bC hx0
      obtain ⟨⟨⟨rq, rl, rr⟩, rcode⟩, hRd⟩ : ∃ R, decAll m c = R := ⟨_, rfl⟩
      have HRL : Hid (rl.length ≤ 200 ∧ rr.length ≤ 200) := by
        have := decAll_len m c
        rw [hRd] at this
        exact this
      have HRD := Lib.hid hRd
      clear hRd
      obtain ⟨⟨⟨rq, rl, rr⟩, rcode⟩, hRd⟩ : ∃ R, decAll m c = R := ⟨_, rfl⟩
      have HRL : Hid (rl.length ≤ 200 ∧ rr.length ≤ 200) := by
        have := decAll_len m c
        rw [hRd] at this
        exact this
      have HRD := Lib.hid hRd
      clear hRd
      obtain ⟨⟨⟨rq, rl, rr⟩, rcode⟩, hRd⟩ : ∃ R, decAll m c = R := ⟨_, rfl⟩
      have HRL : Hid (rl.length ≤ 200 ∧ rr.length ≤ 200) := by
        have := decAll_len m c
        rw [hRd] at this
        exact this
      have HRD := Lib.hid hRd
      clear hRd
      obtain ⟨⟨⟨rq, rl, rr⟩, rcode⟩, hRd⟩ : ∃ R, decAll m c = R := ⟨_, rfl⟩
      have HRL : Hid (rl.length ≤ 200 ∧ rr.length ≤ 200) := by
        have := decAll_len m c
        rw [hRd] at this
        exact this
      have HRD := Lib.hid hRd
      clear hRd
      go_upto_region 8 with fail
      go_cut [6, 7] (fun s6 s7 wx => CutConf w2 (⟨rq, rl, rr⟩, rcode) s6 s7 wx)
      case first =>
        go_region_held3 (fun w' => w'.cell? ⟨w.heap.size, 0, none⟩ = some (.int .i64 m.sy) ∧ w'.cell? ⟨w.heap.size, 1, none⟩ = some (.int .i64 m.st) ∧ w'.cell? ⟨w.heap.size, 2, none⟩ = some (.slice Ar m.rules.length cr) ∧ w'.cell? ⟨w.heap.size + 1, 0, none⟩ = some (.int .i64 c.q) ∧ w'.cell? ⟨w.heap.size + 1, 1, none⟩ = some (.slice Al c.l.length cl) ∧ w'.cell? ⟨w.heap.size + 1, 2, none⟩ = some (.slice Aq c.r.length cq))
          (first | go_keep | exact ⟨(hS _ _ _).cell c0, (hS _ _ _).cell c1, (hS _ _ _).cell c2, (hS _ _ _).cell d0, (hS _ _ _).cell d1, (hS _ _ _).cell d2⟩ | exact ⟨(hD).cell c0, (hD).cell c1, (hD).cell c2, (hD).cell d0, (hD).cell d1, (hD).cell d2⟩ | exact ⟨(hC).cell c0, (hC).cell c1, (hC).cell c2, (hC).cell d0, (hC).cell d1, (hC).cell d2⟩ | exact ⟨(hB.trans (Ext.alloc _ zeroC)).cell c0, (hB.trans (Ext.alloc _ zeroC)).cell c1, (hB.trans (Ext.alloc _ zeroC)).cell c2, (hB.trans (Ext.alloc _ zeroC)).cell d0, (hB.trans (Ext.alloc _ zeroC)).cell d1, (hB.trans (Ext.alloc _ zeroC)).cell d2⟩ | exact ⟨(hB).cell c0, (hB).cell c1, (hB).cell c2, (hB).cell d0, (hB).cell d1, (hB).cell d2⟩ | exact ⟨(hA.trans (Ext.alloc _ zeroC)).cell c0, (hA.trans (Ext.alloc _ zeroC)).cell c1, (hA.trans (Ext.alloc _ zeroC)).cell c2, (hA.trans (Ext.alloc _ zeroC)).cell d0, (hA.trans (Ext.alloc _ zeroC)).cell d1, (hA.trans (Ext.alloc _ zeroC)).cell d2⟩ | exact ⟨(hA).cell c0, (hA).cell c1, (hA).cell c2, (hA).cell d0, (hA).cell d1, (hA).cell d2⟩)
          (first
            | (go_at_call 7; ((with_reducible refine (toMachine_c _ m _ hM0 hlen).mono ?_)); rintro e wA ⟨rvA, rfl, hoA, hxA'⟩; have hA := (Ext.drew w2).trans hxA'; have hMA := hoA.rules; have hC1 := hC0.ext hxA')
            | (go_at_call 7; ((with_reducible refine (toMachine_c _ m _ hMz hlen).mono ?_)); rintro e wA ⟨rvA, rfl, hoA, hxA'⟩; have hA := ((Ext.alloc w2 zeroC).trans (Ext.drew _)).trans hxA'; have hMA := hoA.rules; have hC1 := hCz.ext hxA'; have bZA := (Blk.drew (Blk.new w2 w2.heap.size _ _ rfl)).ext hxA'; have hgz : w2.heap.size ≤ w2.heap.size := Nat.le_refl _)
            | (go_at_call 8; ((with_reducible refine (toConfigM_c _ c _ hC1 hsz).mono ?_)); rintro e wB ⟨uB, rfl, hCf, hxB⟩; have hB := hA.trans hxB; have hMf := hMA.ext hxB; have bZB := bZA.ext hxB)
            | (go_at_call 8; ((with_reducible refine (toConfigM_c _ c _ hC1 hsz).mono ?_)); rintro e wB ⟨uB, rfl, hCf, hxB⟩; have hB := hA.trans hxB; have hMf := hMA.ext hxB)
            | (go_at_call 8; ((with_reducible refine (toConfigM_c _ c _ (hC1.ext (Ext.alloc _ zeroC)) hsz).mono ?_)); rintro e wB ⟨uB, rfl, hCf, hxB⟩; have hB := hA.trans ((Ext.alloc _ zeroC).trans hxB); have hMf := hMA.ext ((Ext.alloc _ zeroC).trans hxB); have bZB := (Blk.new wA wA.heap.size _ _ rfl).ext hxB; have hgz := hA.size)
            | (go_at_call 6; ((with_reducible refine (specDecodeFoldM_c _ _ m c _ _ hMf hCf).mono ?_)); rw [HRD.out]; rintro e wC ⟨⟨lvS, rvS, bS, rfl, hlS, hrS⟩, hxC⟩; have hC := hB.trans hxC; have bZC := bZB.ext hxC; obtain ⟨AS, cS, rfl, _, _⟩ := hlS.ints.form; obtain ⟨BS, eS, rfl, _, _⟩ := hrS.ints.form; have hS := Ext.set3 hC hgz; have vc := bZC.cell; have vf := bZC.frozen)
            | (go_at_call 6; ((with_reducible refine (specDecodeFoldM_c _ _ m c _ _ hMf hCf).mono ?_)); rw [HRD.out]; rintro e wC ⟨⟨lvS, rvS, bS, rfl, hlS, hrS⟩, hxC⟩; have hC := hB.trans hxC; obtain ⟨AS, cS, rfl, _, _⟩ := hlS.ints.form; obtain ⟨BS, eS, rfl, _, _⟩ := hrS.ints.form; have hD := hC.trans (Ext.alloc wC (.cells #[.int .i64 rq, .slice AS rl.length cS, .slice BS rr.length eS] 30)))
            | (go_at_call 6; ((with_reducible refine (specDecodeFoldM_c _ _ m c _ _ (hMf.ext (Ext.alloc _ zeroC)) (hCf.ext (Ext.alloc _ zeroC))).mono ?_)); rw [HRD.out]; rintro e wC ⟨⟨lvS, rvS, bS, rfl, hlS, hrS⟩, hxC⟩; have hC := hB.trans ((Ext.alloc _ zeroC).trans hxC); have bZC := (Blk.new wB wB.heap.size _ _ rfl).ext hxC; have hgz := hB.size; obtain ⟨AS, cS, rfl, _, _⟩ := hlS.ints.form; obtain ⟨BS, eS, rfl, _, _⟩ := hrS.ints.form; have hS := Ext.set3 hC hgz; have vc := bZC.cell; have vf := bZC.frozen))
        all_goals
          go_wp2_with fail
          go_meet
          first
            | exact CutConf.early (R := (⟨rq, rl, rr⟩, rcode)) hC hlS hrS bZC hgz
            | exact CutConf.late (R := (⟨rq, rl, rr⟩, rcode)) hC hlS hrS
      case rest =>
        rename World => wS
        obtain ⟨gS, lvS, rvS, rfl, rfl, bS, hxS, hgS, iS1, iS2⟩ := hcut
        simp only at bS iS1 iS2 ⊢
        obtain ⟨AS, cS, rfl, _, _⟩ := iS1.form
        obtain ⟨BS, eS, rfl, _, _⟩ := iS2.form
        have hXC := hX2.trans hxS
        have bMC := bM2.ext hxS
        have bCC := bC2.ext hxS
        clear c0 c1 c2 d0 d1 d2 hM0 hC0 hMz hCz
        have c0 := bMC.cell 0
        have c1 := bMC.cell 1
        have c2 := bMC.cell 2
        simp only [List.getElem?_toArray, List.getElem?_cons_zero, List.getElem?_cons_succ] at c0 c1 c2
        -- region 9
        go_wp2_with fail
        refine (toMachine_c _ m _ ⟨_, rfl, hr.ext hXC⟩ hlen).mono ?_
        rintro e w5 ⟨rv5, rfl, ho5, hx5⟩
        obtain ⟨A5, c5, rfl, _, _⟩ := ho5.rules.form
        obtain ⟨W5, hW5⟩ : ∃ W, W = w5.alloc (.cells #[.int .i64 m.sy, .int .i64 m.st, .slice A5 m.rules.length c5] 35) := ⟨_, rfl⟩
        have hxW5 : Ext w5 W5 := by rw [hW5]; exact Ext.alloc _ _
        have bX : Blk W5 w5.heap.size 35 #[.int .i64 m.sy, .int .i64 m.st, .slice A5 m.rules.length c5] := by rw [hW5]; exact Blk.new _ _ _ _ rfl
        have hE5 := hx5.trans hxW5
        have hX5 := hXC.trans hE5
        have oX := ho5.ext hxW5
        have bC5 := bCC.ext hE5
        clear c0 c1 c2
        have d0 := bC5.cell 0
        have d1 := bC5.cell 1
        have d2 := bC5.cell 2
        simp only [List.getElem?_toArray, List.getElem?_cons_zero, List.getElem?_cons_succ] at d0 d1 d2
        rw [hW5] at d0 d1 d2
        -- region 10
        go_wp2_with fail
        rw [← hW5]
        clear hW5 d0 d1 d2
        refine (toConfig_c _ c _ ⟨_, _, rfl, hl.ext hX5, hq.ext hX5⟩ hsz).mono ?_
        rintro e w6 ⟨lv6, rv6, rfl, ol6, or6, ap6, hx6⟩
        have fl6 := ol6.flat
        have fr6 := or6.flat
        obtain ⟨A6, c6, rfl, _, _⟩ := ol6.ints.form
        obtain ⟨B6, e6, rfl, _, _⟩ := or6.ints.form
        obtain ⟨V, hV⟩ : ∃ W, W = w6.alloc (.cells #[.int .i64 c.q, .slice A6 c.l.length c6, .slice B6 c.r.length e6] 30) := ⟨_, rfl⟩
        have hxV : Ext w6 V := by rw [hV]; exact Ext.alloc _ _
        have bY : Blk V w6.heap.size 30 #[.int .i64 c.q, .slice A6 c.l.length c6, .slice B6 c.r.length e6] := by rw [hV]; exact Blk.new _ _ _ _ rfl
        have hE6 := hE5.trans (hx6.trans hxV)
        have bX6 := bX.ext (hx6.trans hxV)
        have oX6 := oX.ext (hx6.trans hxV)
        have oL6 := ol6.ext hxV
        have oR6 := or6.ext hxV
        have c0 := bX6.cell 0
        have c1 := bX6.cell 1
        have c2 := bX6.cell 2
        simp only [List.getElem?_toArray, List.getElem?_cons_zero, List.getElem?_cons_succ] at c0 c1 c2
        rw [hV] at c0 c1 c2
        -- region 11
        go_wp2_with fail
        rw [← hV]
        clear hV c0 c1 c2
        refine (DecodeFold_c _ m c _ _ V oX6.rules oL6.ints oR6.ints fl6 fr6).mono ?_
        rw [HRD.out]
        rintro e w7 ⟨lv7, rv7, rfl, ol7, or7, ap7, hx7⟩
        simp only at ol7 or7
        obtain ⟨A7, c7, rfl, _, _⟩ := ol7.ints.form
        obtain ⟨B7, e7, rfl, _, _⟩ := or7.ints.form
        obtain ⟨W7, hW7⟩ : ∃ W, W = w7.alloc (.cells #[.int .i64 rq, .slice A7 rl.length c7, .slice B7 rr.length e7] 30) := ⟨_, rfl⟩
        have hxW7 : Ext w7 W7 := by rw [hW7]; exact Ext.alloc _ _
        have bG : Blk W7 w7.heap.size 30 #[.int .i64 rq, .slice A7 rl.length c7, .slice B7 rr.length e7] := by rw [hW7]; exact Blk.new _ _ _ _ rfl
        have hx77 := hx7.trans hxW7
        have hE7 := hE6.trans hx77
        have oG1 := ol7.ext hxW7
        have oG2 := or7.ext hxW7
        have bS7 := bS.ext hE7
        have bX7 := bX6.ext hx77
        have bY7 := bY.ext hx77
        have oX7 := oX6.ext hx77
        have oY1 := oL6.ext hx77
        have oY2 := oR6.ext hx77
        have hPg : Conf W7 (.agg #[.int .i64 rq, .slice A7 rl.length c7, .slice B7 rr.length e7]) ⟨rq, rl, rr⟩ := ⟨_, _, rfl, oG1.ints, oG2.ints⟩
        have hPs : Conf W7 (.agg #[.int .i64 rq, .slice AS rl.length cS, .slice BS rr.length eS]) ⟨rq, rl, rr⟩ := ⟨_, _, rfl, iS1.ext hE7, iS2.ext hE7⟩
        have hdp : decide ((⟨rq, rl, rr⟩ : ConfD) = ⟨rq, rl, rr⟩) = true := by simp
        have hcc : (rcode != rcode) = false := by simp
        have c0 := bS7.cell 0
        have c1 := bS7.cell 1
        have c2 := bS7.cell 2
        simp only [List.getElem?_toArray, List.getElem?_cons_zero, List.getElem?_cons_succ] at c0 c1 c2
        rw [hW7] at c0 c1 c2
        -- region 12
        go_wp2_with fail
        rw [← hW7]
        clear hW7 c0 c1 c2
        refine (eqConfig_c _ _ _ ⟨rq, rl, rr⟩ ⟨rq, rl, rr⟩ hPg hPs).mono ?_
        rintro e w8 ⟨rfl, hx8⟩
        have hE8 := hE7.trans hx8
        have hXw8 := hXC.trans hE8
        have c0 := (bX7.ext hx8).cell 0
        have c1 := (bX7.ext hx8).cell 1
        have c2 := (bX7.ext hx8).cell 2
        have d0 := (bMC.ext hE8).cell 0
        have d1 := (bMC.ext hE8).cell 1
        have d2 := (bMC.ext hE8).cell 2
        simp only [List.getElem?_toArray, List.getElem?_cons_zero, List.getElem?_cons_succ] at c0 c1 c2 d0 d1 d2
        have hMr : Mach w8.drew (.agg #[.int .i64 m.sy, .int .i64 m.st, .slice Ar m.rules.length cr]) m := ⟨_, rfl, (hr.ext hXw8).ext (Ext.drew _)⟩
        have hMx : Mach w8 (.agg #[.int .i64 m.sy, .int .i64 m.st, .slice A5 m.rules.length c5]) m := ⟨_, rfl, oX7.rules.ext hx8⟩
        have hdm : decide (m = m) = true := by simp
        have hdc : decide (c = c) = true := by simp
        -- region 14
        go_wp2_with fail
        go_region_held3 (fun w' => w'.cell? ⟨w5.heap.size, 0, none⟩ = some (.int .i64 m.sy) ∧ w'.cell? ⟨w5.heap.size, 1, none⟩ = some (.int .i64 m.st) ∧ w'.cell? ⟨w5.heap.size, 2, none⟩ = some (.slice A5 m.rules.length c5) ∧ w'.cell? ⟨w.heap.size, 0, none⟩ = some (.int .i64 m.sy) ∧ w'.cell? ⟨w.heap.size, 1, none⟩ = some (.int .i64 m.st) ∧ w'.cell? ⟨w.heap.size, 2, none⟩ = some (.slice Ar m.rules.length cr))
          (first | go_keep | exact ⟨hx9.cell c0, hx9.cell c1, hx9.cell c2, hx9.cell d0, hx9.cell d1, hx9.cell d2⟩ | exact ⟨hx10.cell c0, hx10.cell c1, hx10.cell c2, hx10.cell d0, hx10.cell d1, hx10.cell d2⟩)
          (first
            | (go_at_call 7; ((with_reducible refine (toMachine_c _ m _ hMr hlen).mono ?_)); rintro e w9 ⟨rv9, rfl, ho9, hx9'⟩; have hx9 := (Ext.drew w8).trans hx9'; have hM9 : Mach w9 (.agg #[.int .i64 m.sy, .int .i64 m.st, rv9]) m := ⟨_, rfl, ho9.rules⟩; have hM9x := hMx.ext hx9)
            | (go_at_call 11; ((with_reducible refine (eqMachine_c _ _ _ m m hM9x hM9).mono ?_)); rintro e w10 ⟨rfl, hx10'⟩; have hx10 := hx9.trans hx10'))
        have hxA := hx8.trans hx10
        have hE10 := hE7.trans hxA
        have hXw10 := hXC.trans hE10
        have oX10 := oX7.ext hxA
        have oG10 := oG1.ext hxA
        have oG20 := oG2.ext hxA
        have oY10 := oY1.ext hxA
        have oY20 := oY2.ext hxA
        have bY10 := bY7.ext hxA
        have bX10 := bX7.ext hxA
        have bG10 := bG.ext hxA
        clear c0 c1 c2 d0 d1 d2
        have c0 := bY10.cell 0
        have c1 := bY10.cell 1
        have c2 := bY10.cell 2
        have d0 := (bCC.ext hE10).cell 0
        have d1 := (bCC.ext hE10).cell 1
        have d2 := (bCC.ext hE10).cell 2
        simp only [List.getElem?_toArray, List.getElem?_cons_zero, List.getElem?_cons_succ] at c0 c1 c2 d0 d1 d2
        have hCr : Conf w10.drew (.agg #[.int .i64 c.q, .slice Al c.l.length cl, .slice Aq c.r.length cq]) c := ⟨_, _, rfl, (hl.ext hXw10).ext (Ext.drew _), (hq.ext hXw10).ext (Ext.drew _)⟩
        have hCx : Conf w10 (.agg #[.int .i64 c.q, .slice A6 c.l.length c6, .slice B6 c.r.length e6]) c := ⟨_, _, rfl, oY10.ints, oY20.ints⟩
        -- region 16
        go_wp2_with fail
        go_region_held3 (fun w' => w'.cell? ⟨w6.heap.size, 0, none⟩ = some (.int .i64 c.q) ∧ w'.cell? ⟨w6.heap.size, 1, none⟩ = some (.slice A6 c.l.length c6) ∧ w'.cell? ⟨w6.heap.size, 2, none⟩ = some (.slice B6 c.r.length e6) ∧ w'.cell? ⟨w.heap.size + 1, 0, none⟩ = some (.int .i64 c.q) ∧ w'.cell? ⟨w.heap.size + 1, 1, none⟩ = some (.slice Al c.l.length cl) ∧ w'.cell? ⟨w.heap.size + 1, 2, none⟩ = some (.slice Aq c.r.length cq))
          (first | go_keep | exact ⟨hx11.cell c0, hx11.cell c1, hx11.cell c2, hx11.cell d0, hx11.cell d1, hx11.cell d2⟩ | exact ⟨hx12.cell c0, hx12.cell c1, hx12.cell c2, hx12.cell d0, hx12.cell d1, hx12.cell d2⟩)
          (first
            | (go_at_call 8; ((with_reducible refine (toConfigM_c _ c _ hCr hsz).mono ?_)); rintro e w11 ⟨u11, rfl, hC11, hx11'⟩; have hx11 := (Ext.drew w10).trans hx11'; have hC11x := hCx.ext hx11)
            | (go_at_call 10; ((with_reducible refine (eqConfig_c _ _ _ c c hC11x hC11.conf).mono ?_)); rintro e w12 ⟨rfl, hx12'⟩; have hx12 := hx11.trans hx12'))
        have hE12 := hE10.trans hx12
        have oX12 := oX10.ext hx12
        have oG12 := oG10.ext hx12
        have oG22 := oG20.ext hx12
        have oY12 := oY10.ext hx12
        have oY22 := oY20.ext hx12
        have bY12 := bY10.ext hx12
        have bX12 := bX10.ext hx12
        have bG12 := bG10.ext hx12
        clear c0 c1 c2 d0 d1 d2
        have c0 := bX12.cell 0
        have c1 := bX12.cell 1
        have c2 := bX12.cell 2
        simp only [List.getElem?_toArray, List.getElem?_cons_zero, List.getElem?_cons_succ] at c0 c1 c2
        -- region 19
        go_wp2_with fail
        refine (markMachine_c wS.heap.size m.sy m.st _ m.rules 1 _ oX12 hE12.size (by omega) (by omega)).mono ?_
        rintro e w13 ⟨rfl, hb13, hg13⟩
        have hE13 : Ext wS w13 := Below.trans hE12 hb13
        have oG13 := OwnInts.kept' oG12 oX12 hg13
        have oG23 := OwnInts.kept' oG22 oX12 hg13
        have oY13 := OwnInts.kept' oY12 oX12 hg13
        have oY23 := OwnInts.kept' oY22 oX12 hg13
        have bG13 := Blk.apart bG12 oX12 (by decide) hg13
        have bY13 := Blk.apart bY12 oX12 (by decide) hg13
        have hsz12 : W5.heap.size ≤ w12.heap.size := by have a1 := (hx6.trans hxV).size; have a2 := hx77.size; have a3 := hxA.size; have a4 := hx12.size; omega
        have hsz13 : W5.heap.size ≤ w13.heap.size := by have a5 := hg13.size; omega
        have hVsz : V.heap.size ≤ w13.heap.size := by have a2 := hx77.size; have a3 := hxA.size; have a4 := hx12.size; have a5 := hg13.size; omega
        clear c0 c1 c2
        have c0 := bY13.cell 0
        have c1 := bY13.cell 1
        have c2 := bY13.cell 2
        simp only [List.getElem?_toArray, List.getElem?_cons_zero, List.getElem?_cons_succ] at c0 c1 c2
        -- region 20
        go_wp2_with fail
        refine (markConfig_c W5.heap.size c.q _ _ c.l c.r _ _ oY13 oY23 ap6 hsz13 (by omega) (by omega)).mono ?_
        rintro e w14 ⟨rfl, _, _, hb14, ht14⟩
        have hE14 : Ext wS w14 := Below.trans hE13 (Below.mono hb14 hE5.size)
        have y1 : ∀ g, V.heap.size ≤ g → (Value.slice A6 c.l.length c6).ownBlock ≠ some g := fun g hg e => by have := (oL6.lt g e).2; omega
        have y2 : ∀ g, V.heap.size ≤ g → (Value.slice B6 c.r.length e6).ownBlock ≠ some g := fun g hg e => by have := (oR6.lt g e).2; omega
        have oG14 : OwnInts V.heap.size w14 (.slice A7 rl.length c7) rl := ht14.own oG13 (fun g hg => ⟨y1 g (oG13.lt g hg).1, y2 g (oG13.lt g hg).1⟩)
        have oG24 : OwnInts V.heap.size w14 (.slice B7 rr.length e7) rr := ht14.own oG23 (fun g hg => ⟨y1 g (oG23.lt g hg).1, y2 g (oG23.lt g hg).1⟩)
        have hgv : V.heap.size ≤ w7.heap.size := hx7.size
        have bG14 : Blk w14 w7.heap.size 30 #[.int .i64 rq, .slice A7 rl.length c7, .slice B7 rr.length e7] := (ht14.2 _ bG13.lt (y1 _ hgv) (y2 _ hgv)).trans bG13
        have bS14 := bS.ext hE14
        have hk1 : decide ((1 : Int) + 3 * (m.rules.length : Int) + (c.l.length : Int) + (c.r.length : Int) < 0) = false := by simp; omega
        have hPg1 : Conf w14 (.agg #[.int .i64 rq, .slice A7 rl.length c7, .slice B7 rr.length e7]) ⟨rq, rl, rr⟩ := ⟨_, _, rfl, oG14.ints, oG24.ints⟩
        have hPs1 : Conf w14 (.agg #[.int .i64 rq, .slice AS rl.length cS, .slice BS rr.length eS]) ⟨rq, rl, rr⟩ := ⟨_, _, rfl, iS1.ext hE14, iS2.ext hE14⟩
        clear c0 c1 c2
        have c0 := bG14.cell 0
        have c1 := bG14.cell 1
        have c2 := bG14.cell 2
        have d0 := bS14.cell 0
        have d1 := bS14.cell 1
        have d2 := bS14.cell 2
        simp only [List.getElem?_toArray, List.getElem?_cons_zero, List.getElem?_cons_succ] at c0 c1 c2 d0 d1 d2
        -- region 21
        go_wp2_with fail
        refine (eqConfig_c _ _ _ ⟨rq, rl, rr⟩ ⟨rq, rl, rr⟩ hPg1 hPs1).mono ?_
        rintro e w15 ⟨rfl, hx15⟩
        have hE15 := hE14.trans hx15
        have oG15 := oG14.ext hx15
        have oG25 := oG24.ext hx15
        have bG15 := bG14.ext hx15
        have hsz15 : V.heap.size ≤ w15.heap.size := by have a1 := ht14.1; have a2 := hx15.size; omega
        have hVw : wS.heap.size ≤ V.heap.size := hE6.size
        clear c0 c1 c2 d0 d1 d2
        have c0 := bG15.cell 0
        have c1 := bG15.cell 1
        have c2 := bG15.cell 2
        simp only [List.getElem?_toArray, List.getElem?_cons_zero, List.getElem?_cons_succ] at c0 c1 c2
        -- region 24
        go_wp2_with fail
        refine (markConfig_c V.heap.size rq _ _ rl rr 1 _ oG15 oG25 ap7 hsz15 (by omega) (by have := HRL.out; omega)).mono ?_
        rintro e w16' ⟨rfl, oN1, oN2, hb16, ht16⟩
        have hE16' : Ext wS w16' := Below.trans hE15 (Below.mono hb16 hVw)
        have z1 : some w7.heap.size ≠ (Value.slice A7 rl.length c7).ownBlock := blk_ne_row bG15 oG15 (by decide)
        have z2 : some w7.heap.size ≠ (Value.slice B7 rr.length e7).ownBlock := blk_ne_row bG15 oG25 (by decide)
        have bG16' : Blk w16' w7.heap.size 30 #[.int .i64 rq, .slice A7 rl.length c7, .slice B7 rr.length e7] := (ht16.2 _ bG15.lt (fun e => z1 e.symm) (fun e => z2 e.symm)).trans bG15
        clear c0 c1 c2
        have c0 := bG16'.cell 0
        have c1 := bG16'.cell 1
        have c2 := bG16'.cell 2
        simp only [List.getElem?_toArray, List.getElem?_cons_zero, List.getElem?_cons_succ] at c0 c1 c2
        have iN1 : Ints w16' (.slice A7 rl.length c7) (nums 1 rl.length) := by have := oN1.ints; exact this
        have iN2 : Ints w16' (.slice B7 rr.length e7) (nums (1 + rl.length) rr.length) := by have := oN2.ints; exact this
        have HN1 := Lib.hid (nums_length 1 rl.length)
        have HN2 := Lib.hid (nums_length (1 + (rl.length : Int)) rr.length)
        have HS1 : Hid (nums 1 rl.length = nums 1 (nums 1 rl.length).length) := by unfold Hid; rw [HN1.out]
        have HS2 : Hid (nums (1 + (rl.length : Int)) rr.length = nums (1 + ((nums 1 rl.length).length : Int)) (nums (1 + (rl.length : Int)) rr.length).length) := by unfold Hid; rw [HN2.out, HN1.out]
        have hk2 : decide ((1 : Int) + (rl.length : Int) + (rr.length : Int) < 0) = false := by simp; omega
        -- region 26
        go_wp2_with fail
        refine (heldConfig_c rq _ _ (nums 1 rl.length) (nums (1 + rl.length) rr.length) 1 _ iN1 iN2 (by omega) (by rw [HN1.out, HN2.out]; have := HRL.out; omega) HS1.out HS2.out).mono ?_
        rintro e w16 ⟨rfl, hx16⟩
        rw [HN1.out, HN2.out]
        have hE16 := hE16'.trans hx16
        have hXw16 := hXC.trans hE16
        have bM16 := bMC.ext hE16
        have bC16 := bCC.ext hE16
        clear c0 c1 c2
        have c0 := bM16.cell 0
        have c1 := bM16.cell 1
        have c2 := bM16.cell 2
        have d0 := bC16.cell 0
        have d1 := bC16.cell 1
        have d2 := bC16.cell 2
        simp only [List.getElem?_toArray, List.getElem?_cons_zero, List.getElem?_cons_succ] at c0 c1 c2 d0 d1 d2
        have hM0 : Mach w16.drew (.agg #[.int .i64 m.sy, .int .i64 m.st, .slice Ar m.rules.length cr]) m := ⟨_, rfl, (hr.ext hXw16).ext (Ext.drew _)⟩
        have hC0 : Conf w16.drew (.agg #[.int .i64 c.q, .slice Al c.l.length cl, .slice Aq c.r.length cq]) c := ⟨_, _, rfl, (hl.ext hXw16).ext (Ext.drew _), (hq.ext hXw16).ext (Ext.drew _)⟩
        have hMz : Mach (w16.alloc zeroC).drew (.agg #[.int .i64 m.sy, .int .i64 m.st, .slice Ar m.rules.length cr]) m := ⟨_, rfl, (hr.ext hXw16).ext ((Ext.alloc _ _).trans (Ext.drew _))⟩
        have hCz : Conf (w16.alloc zeroC).drew (.agg #[.int .i64 c.q, .slice Al c.l.length cl, .slice Aq c.r.length cq]) c := ⟨_, _, rfl, (hl.ext hXw16).ext ((Ext.alloc _ _).trans (Ext.drew _)), (hq.ext hXw16).ext ((Ext.alloc _ _).trans (Ext.drew _))⟩
        -- region 31
        go_upto_region 31 with fail
        go_cut [15, 16] (fun s6 s7 wx => CutConf w16 (⟨rq, rl, rr⟩, rcode) s6 s7 wx)
        case first =>
          go_region_held3 (fun w' => w'.cell? ⟨w.heap.size, 0, none⟩ = some (.int .i64 m.sy) ∧ w'.cell? ⟨w.heap.size, 1, none⟩ = some (.int .i64 m.st) ∧ w'.cell? ⟨w.heap.size, 2, none⟩ = some (.slice Ar m.rules.length cr) ∧ w'.cell? ⟨w.heap.size + 1, 0, none⟩ = some (.int .i64 c.q) ∧ w'.cell? ⟨w.heap.size + 1, 1, none⟩ = some (.slice Al c.l.length cl) ∧ w'.cell? ⟨w.heap.size + 1, 2, none⟩ = some (.slice Aq c.r.length cq))
            (first | go_keep | exact ⟨(hS _ _ _).cell c0, (hS _ _ _).cell c1, (hS _ _ _).cell c2, (hS _ _ _).cell d0, (hS _ _ _).cell d1, (hS _ _ _).cell d2⟩ | exact ⟨(hD).cell c0, (hD).cell c1, (hD).cell c2, (hD).cell d0, (hD).cell d1, (hD).cell d2⟩ | exact ⟨(hC).cell c0, (hC).cell c1, (hC).cell c2, (hC).cell d0, (hC).cell d1, (hC).cell d2⟩ | exact ⟨(hB.trans (Ext.alloc _ zeroC)).cell c0, (hB.trans (Ext.alloc _ zeroC)).cell c1, (hB.trans (Ext.alloc _ zeroC)).cell c2, (hB.trans (Ext.alloc _ zeroC)).cell d0, (hB.trans (Ext.alloc _ zeroC)).cell d1, (hB.trans (Ext.alloc _ zeroC)).cell d2⟩ | exact ⟨(hB).cell c0, (hB).cell c1, (hB).cell c2, (hB).cell d0, (hB).cell d1, (hB).cell d2⟩ | exact ⟨(hA.trans (Ext.alloc _ zeroC)).cell c0, (hA.trans (Ext.alloc _ zeroC)).cell c1, (hA.trans (Ext.alloc _ zeroC)).cell c2, (hA.trans (Ext.alloc _ zeroC)).cell d0, (hA.trans (Ext.alloc _ zeroC)).cell d1, (hA.trans (Ext.alloc _ zeroC)).cell d2⟩ | exact ⟨(hA).cell c0, (hA).cell c1, (hA).cell c2, (hA).cell d0, (hA).cell d1, (hA).cell d2⟩)
            (first
              | (go_at_call 7; ((with_reducible refine (toMachine_c _ m _ hM0 hlen).mono ?_)); rintro e wA ⟨rvA, rfl, hoA, hxA'⟩; have hA := (Ext.drew w16).trans hxA'; have hMA := hoA.rules; have hC1 := hC0.ext hxA')
              | (go_at_call 7; ((with_reducible refine (toMachine_c _ m _ hMz hlen).mono ?_)); rintro e wA ⟨rvA, rfl, hoA, hxA'⟩; have hA := ((Ext.alloc w16 zeroC).trans (Ext.drew _)).trans hxA'; have hMA := hoA.rules; have hC1 := hCz.ext hxA'; have bZA := (Blk.drew (Blk.new w16 w16.heap.size _ _ rfl)).ext hxA'; have hgz : w16.heap.size ≤ w16.heap.size := Nat.le_refl _)
              | (go_at_call 8; ((with_reducible refine (toConfigM_c _ c _ hC1 hsz).mono ?_)); rintro e wB ⟨uB, rfl, hCf, hxB⟩; have hB := hA.trans hxB; have hMf := hMA.ext hxB; have bZB := bZA.ext hxB)
              | (go_at_call 8; ((with_reducible refine (toConfigM_c _ c _ hC1 hsz).mono ?_)); rintro e wB ⟨uB, rfl, hCf, hxB⟩; have hB := hA.trans hxB; have hMf := hMA.ext hxB)
              | (go_at_call 8; ((with_reducible refine (toConfigM_c _ c _ (hC1.ext (Ext.alloc _ zeroC)) hsz).mono ?_)); rintro e wB ⟨uB, rfl, hCf, hxB⟩; have hB := hA.trans ((Ext.alloc _ zeroC).trans hxB); have hMf := hMA.ext ((Ext.alloc _ zeroC).trans hxB); have bZB := (Blk.new wA wA.heap.size _ _ rfl).ext hxB; have hgz := hA.size)
              | (go_at_call 9; ((with_reducible refine (DecodeFoldM_c _ _ m c _ _ hMf hCf).mono ?_)); rw [HRD.out]; rintro e wC ⟨lvS, rvS, rfl, hlS, hrS, hapS, hxC⟩; have hC := hB.trans hxC; have bZC := bZB.ext hxC; obtain ⟨AS, cS, rfl, _, _⟩ := hlS.ints.form; obtain ⟨BS, eS, rfl, _, _⟩ := hrS.ints.form; have hS := Ext.set3 hC hgz; have vc := bZC.cell; have vf := bZC.frozen)
              | (go_at_call 9; ((with_reducible refine (DecodeFoldM_c _ _ m c _ _ hMf hCf).mono ?_)); rw [HRD.out]; rintro e wC ⟨lvS, rvS, rfl, hlS, hrS, hapS, hxC⟩; have hC := hB.trans hxC; obtain ⟨AS, cS, rfl, _, _⟩ := hlS.ints.form; obtain ⟨BS, eS, rfl, _, _⟩ := hrS.ints.form; have hD := hC.trans (Ext.alloc wC (.cells #[.int .i64 rq, .slice AS rl.length cS, .slice BS rr.length eS] 30)))
              | (go_at_call 9; ((with_reducible refine (DecodeFoldM_c _ _ m c _ _ (hMf.ext (Ext.alloc _ zeroC)) (hCf.ext (Ext.alloc _ zeroC))).mono ?_)); rw [HRD.out]; rintro e wC ⟨lvS, rvS, rfl, hlS, hrS, hapS, hxC⟩; have hC := hB.trans ((Ext.alloc _ zeroC).trans hxC); have bZC := (Blk.new wB wB.heap.size _ _ rfl).ext hxC; have hgz := hB.size; obtain ⟨AS, cS, rfl, _, _⟩ := hlS.ints.form; obtain ⟨BS, eS, rfl, _, _⟩ := hrS.ints.form; have hS := Ext.set3 hC hgz; have vc := bZC.cell; have vf := bZC.frozen))
          all_goals
            go_wp2_with fail
            go_meet
            first
              | exact CutConf.early (R := (⟨rq, rl, rr⟩, rcode)) hC hlS hrS bZC hgz
              | exact CutConf.late (R := (⟨rq, rl, rr⟩, rcode)) hC hlS hrS
        case rest =>
          rename World => wh
          obtain ⟨gH, lvH, rvH, rfl, rfl, bH, hxH, hgH, iH1, iH2⟩ := hcut
          simp only at bH iH1 iH2 ⊢
          obtain ⟨AH, cH, rfl, _, _⟩ := iH1.form
          obtain ⟨BH, eH, rfl, _, _⟩ := iH2.form
          have hEH := hE16.trans hxH
          have hPh : Conf wh (.agg #[.int .i64 rq, .slice AH rl.length cH, .slice BH rr.length eH]) ⟨rq, rl, rr⟩ := ⟨_, _, rfl, iH1, iH2⟩
          have hPs2 : Conf wh (.agg #[.int .i64 rq, .slice AS rl.length cS, .slice BS rr.length eS]) ⟨rq, rl, rr⟩ := ⟨_, _, rfl, iS1.ext hEH, iS2.ext hEH⟩
          have bSH := bS.ext hEH
          clear c0 c1 c2 d0 d1 d2 hM0 hC0 hMz hCz
          have c0 := bH.cell 0
          have c1 := bH.cell 1
          have c2 := bH.cell 2
          have d0 := bSH.cell 0
          have d1 := bSH.cell 1
          have d2 := bSH.cell 2
          simp only [List.getElem?_toArray, List.getElem?_cons_zero, List.getElem?_cons_succ] at c0 c1 c2 d0 d1 d2
          -- region 32
          go_wp2_with fail
          refine (eqConfig_c _ _ _ ⟨rq, rl, rr⟩ ⟨rq, rl, rr⟩ hPh hPs2).mono ?_
          rintro e w17 ⟨rfl, hx17⟩
          have hLast := (hx16.trans hxH).trans hx17
          have bG17 := bG16'.ext hLast
          clear c0 c1 c2 d0 d1 d2
          have c0 := bG17.cell 0
          have c1 := bG17.cell 1
          have c2 := bG17.cell 2
          simp only [List.getElem?_toArray, List.getElem?_cons_zero, List.getElem?_cons_succ] at c0 c1 c2
          -- region 35
          go_wp2_with fail
          refine (heldConfig_c rq _ _ (nums 1 rl.length) (nums (1 + rl.length) rr.length) 1 _ (iN1.ext hLast) (iN2.ext hLast) (by omega) (by rw [HN1.out, HN2.out]; have := HRL.out; omega) HS1.out HS2.out).mono ?_
          rintro e w18 ⟨rfl, hx18⟩
          rw [HN1.out, HN2.out]
          go_wp2
          go_ret
          exact ⟨rfl, ((hXC.trans hE16').trans hLast).trans hx18⟩
end Go.Proofs.Ytejgobemlgogiaa
