/- Contract: the program's configuration for which one of the machine with two symbols stands, at a place where a symbol begins.
Contract: the program's beginning of the run of the machine with two symbols. The machine is valid and the configuration is one of its.
Contract: the program's text of the configuration for which one of the machine with two symbols stands. The library's tables are as their text lays them. -/
import Derived.Test.YthhjbmlkncdigaaGreatDoorB26
import Derived.Deep.DeepCutAuto
import Derived.Test.YthhjbmlkncdigaaGreatDoorB14
import Derived.Test.YthhjbmlkncdigaaGreatDoorB20
import Derived.Test.YthhjbmlkncdigaaGreatDoorB15
import Derived.DeepKeys4
section
set_option linter.unusedSimpArgs false
set_option linter.unusedVariables false
namespace Go.Proofs.YthhjbmlkncdigaaGreatDoor
open Go Go.RowKit Go.Proofs Go.Maps
set_option maxHeartbeats 400000
/-- The configuration for which one stands, and the code. -/
def decBi (m : MachD) (p : BP) (x : ConfD) : ConfD × Int :=
  match decR (bitsD m.sy).toNat m.sy x.l, decF (bitsD m.sy).toNat m.sy x.r with
  | some l, some r => (⟨p.a, l, r⟩, 0)
  | _, _ => (blankC, 9)
theorem txtP_start {m : MachD} {p : BP} (h : p.k = 0 ∧ p.b = 0) (x : ConfD) : txtP m p x = if (decBi m p x).2 = 0 then confT (decBi m p x).1 else [] := by
  unfold txtP decBi
  rw [if_pos h]
  cases decR (bitsD m.sy).toNat m.sy x.l <;> cases decF (bitsD m.sy).toNat m.sy x.r <;> rfl
/-- A place in a block that has been made, and the number of bits. -/
def CutPl (W : World) (p : BP) (B : Int) (s8 s9 : Value) (wx : World) : Prop := ∃ g, s8 = .pointer (some ⟨g, 0, none⟩) ∧ s9 = .int .i64 B ∧ Blk wx g 80 #[.int .i64 p.k, .int .i64 p.a, .int .i64 p.b, .int .i64 p.c] ∧ Ext W wx
set_option maxRecDepth 20000 in
set_option maxHeartbeats 4000000 in
theorem decodeBinary_c (base : Nat) (w : World) (m : MachD) (mv : Value) (bx : Nat) (sy st : Int) (rs : List RuleD) (ps : List BP) (r2 pv : Value) (bm : Nat) (c : ConfD) (lv qv : Value) (i : Nat) (p : BP)
    (hst : PlBi base w bx sy st rs ps r2 pv bm) (hr : Rules w mv m.rules) (hm : machOk m = true) (hi : c.q = i) (hp : ps[i]? = some p) (hpb : p.b = 0) (hl : Ints w lv c.l) (hq : Ints w qv c.r) (fl : Flat lv) (fr : Flat qv)
    (b1 : c.l.length ≤ 200) (b3 : c.r.length ≤ 200) (hz1 : ∀ z ∈ c.l, 0 ≤ z ∧ z ≤ 1) (hz2 : ∀ z ∈ c.r, 0 ≤ z ∧ z ≤ 1) :
    Calls Tryz.prog 36 #[.agg #[.int .i64 m.sy, .int .i64 m.st, mv], .pointer (some ⟨bx, 0, none⟩), .agg #[.int .i64 c.q, lv, qv]] w (PlaRes w.heap.size w (decBi m p c)) := by
  obtain ⟨s1, s2, s3, s4, _⟩ := machOk_all hm
  obtain ⟨Am, cm, rfl, _, _⟩ := hr.form
  obtain ⟨Al, cl, rfl, _, _⟩ := hl.form
  obtain ⟨Aq, cq, rfl, _, _⟩ := hq.form
  have HZ1 := Lib.hid hz1
  have HZ2 := Lib.hid hz2
  have hBr := bitsD_range m.sy
  obtain ⟨B, hB⟩ : ∃ B : Nat, bitsD m.sy = (B : Int) := ⟨(bitsD m.sy).toNat, by omega⟩
  have hB3 : Hid (B = 1 ∨ B = 2 ∨ B = 3) := Lib.hid (by omega)
  obtain ⟨R, hR⟩ : ∃ R, R = decBi m p c := ⟨_, rfl⟩
  rw [← hR]
  have HR : Hid (R = match decR B m.sy c.l, decF B m.sy c.r with
    | some l, some r => (⟨p.a, l, r⟩, 0)
    | _, _ => (blankC, 9)) := by unfold Hid; rw [hR]; unfold decBi; rw [hB, Int.toNat_natCast]
  clear hz1 hz2 hR
  obtain ⟨k, hk⟩ : ∃ k, w.heap.size = k := ⟨_, rfl⟩
  obtain ⟨W, hW⟩ : ∃ W, ((w.alloc (.cells #[.int .i64 m.sy, .int .i64 m.st, .slice Am m.rules.length cm] 35)).alloc (.cells #[.int .i64 c.q, .slice Al c.l.length cl, .slice Aq c.r.length cq] 37)).alloc (.cells #[.int .i64 0, .slice none 0 0, .slice none 0 0] 37) = W := ⟨_, rfl⟩
  have hX : Ext w W := by rw [← hW]; exact ((Ext.alloc _ _).trans (Ext.alloc _ _)).trans (Ext.alloc _ _)
  have bM : Blk W k 35 #[.int .i64 m.sy, .int .i64 m.st, .slice Am m.rules.length cm] := by rw [← hW]; exact ((Blk.new _ _ _ _ hk).alloc _).alloc _
  have bC : Blk W (k + 1) 37 #[.int .i64 c.q, .slice Al c.l.length cl, .slice Aq c.r.length cq] := by rw [← hW]; exact (Blk.new _ _ _ _ (by simp [hk])).alloc _
  have bO : Blk W (k + 2) 37 #[.int .i64 0, .slice none 0 0, .slice none 0 0] := by rw [← hW]; exact Blk.new _ _ _ _ (by simp [hk])
  have zD := Ext.drew W
  have H := hst.ext (hX.trans zD)
  obtain ⟨Ap, cp, rfl, hp1, hp2, _⟩ := (ownsRow_row H.places).form
  obtain ⟨gp, rfl, _, _, hP⟩ := placesB_at H.places hp
  have x3 := H.blk.cell 3
  have c0 := (bC.ext zD).cell 0
  have m0 := (bM.ext zD).cell 0
  have m1 := (bM.ext zD).cell 1
  have m2 := (bM.ext zD).cell 2
  simp only [List.getElem?_toArray, List.getElem?_cons_zero, List.getElem?_cons_succ] at x3 c0 m0 m1 m2
  have k0 := (hP 0 (by omega)).trans (by rfl)
  have k1 := (hP 1 (by omega)).trans (by rfl)
  have k2 := (hP 2 (by omega)).trans (by rfl)
  have k3 := (hP 3 (by omega)).trans (by rfl)
  simp only [Nat.add_zero] at k0
  obtain ⟨pk, pa, pb, pc⟩ := p
  simp only at hpb k0 k1 k2 k3
  subst hpb
  have hr1 := hr.ext hX
  have BO := fun X (hx : Ext W X) => bitsOf_c (.agg #[.int .i64 m.sy, .int .i64 m.st, .slice Am m.rules.length cm]) m X ⟨_, rfl, hr1.ext hx⟩ s2
  rw [hB] at BO
  rw [hi] at c0
  have i2 : (i : Int) < (ps.length : Int) := by have := (List.getElem?_eq_some_iff.1 hp).1; omega
  have HI := Lib.hid hi
  have hWs : k + 2 < W.heap.size := bO.lt
  have HWS := Lib.hid hWs
  clear hWs hP hp
  have hBB : (1 : Int) ≤ (B : Int) ∧ (B : Int) ≤ 3 := by omega
  clear hB hBr hi
  have hkk : w.heap.size ≤ k + 2 := by omega
  go_enter Tryz.func36, Tryz.ntmps36
  go_upto_region 1 with fail
  try rw [hW]
  try rw [hk]
  clear hW
  go_cut [8, 9] (fun s8 s9 wx => CutPl W ⟨pk, pa, 0, pc⟩ (B : Int) s8 s9 wx)
  case first =>
    refine wp_region_ordT 11 (readsT [0, 1, 2, 3, 4, 5, 6, 7, 8] (.fork 9 (.stir 10 .done) 10 (.stir 9 .done))) (by kernel_rfl) (by kernel_rfl) (fun _ _ _ _ _ h => h) ?_
    simp only [readsT]
    iterate 9 (refine wpOrdT_read (v := ?_) (by rfl) (Or.inl ⟨by rfl, fun x hx => ?_⟩) ?_; rotate_left; (· have a0 := hx.cell x3; have a1 := hx.cell c0; have a2 := hx.cell m0; have a3 := hx.cell m1; have a4 := hx.cell m2; have a5 := hx.cell k0; have a6 := hx.cell k1; have a7 := hx.cell k2; have a8 := hx.cell k3; go_simp; try with_reducible rfl); try simp only [Act.put, List.setIfInBounds_toArray, List.set_cons_zero, List.set_cons_succ])
    refine wpOrdT_forks (by rfl) (by rfl) (fun K hK => ?_) (fun K hK => ?_)
    · go_simp
      go_at_call 57
      refine (BO _ zD).mono ?_
      rintro e w3 ⟨rfl, hx3⟩
      refine hK (Ext W.drew) _ _ (fun _ h => h) hx3 ?_
      clear hK K
      refine wpOrdT_keep (by rfl) (fun K hK => ?_)
      go_simp
      refine hK _ _ (hx3.trans (Ext.alloc _ _)) ?_
      clear hK K
      refine wpOrdT_done ?_
      try simp only [List.drop_succ_cons, List.drop_zero]
      go_wp2_with fail
      go_meet
      exact ⟨_, rfl, rfl, Blk.new _ _ _ _ rfl, (zD.trans hx3).trans (Ext.alloc _ _)⟩
    · go_simp
      refine hK (Ext W.drew) _ _ (fun _ h => h) (Ext.alloc _ _) ?_
      clear hK K
      refine wpOrdT_keep (by rfl) (fun K hK => ?_)
      go_simp
      go_at_call 57
      refine (BO _ ((Ext.alloc _ _).trans (Ext.drew _))).mono ?_
      rintro e w3 ⟨rfl, hx3⟩
      have hx3' : Ext W.drew w3 := (show Ext W.drew (W.alloc (.cells #[.int .i64 0, .int .i64 0, .int .i64 0, .int .i64 0] 80)).drew from Ext.alloc _ _).trans hx3
      refine hK _ _ hx3' ?_
      clear hK K
      have bZ : Blk w3 W.heap.size 80 #[.int .i64 0, .int .i64 0, .int .i64 0, .int .i64 0] := ((Blk.new _ _ _ _ rfl : Blk (W.alloc (.cells #[.int .i64 0, .int .i64 0, .int .i64 0, .int .i64 0] 80)) W.heap.size 80 #[.int .i64 0, .int .i64 0, .int .i64 0, .int .i64 0]).ext (Ext.drew _)).ext hx3
      have z0 := bZ.cell
      have z1 := bZ.frozen
      refine wpOrdT_done ?_
      try simp only [List.drop_succ_cons, List.drop_zero]
      go_wp2_with fail
      go_meet
      have hle : W.heap.size ≤ W.heap.size := Nat.le_refl _
      exact ⟨_, rfl, rfl, (((bZ.set_ 0 _).set_ 1 _).set_ 2 _).set_ 3 _, ((((zD.trans hx3').setCell hle _).setCell hle _).setCell hle _).setCell hle _⟩
  case rest =>
    rename World => wx
    obtain ⟨g8, rfl, rfl, bQ, hXx⟩ := hcut
    clear BO x3 c0 m0 m1 m2 k0 k1 k2 k3 zD H
    have zX := Ext.drew wx
    have hXd := hXx.trans zX
    have bQd := bQ.ext zX
    have bCd := bC.ext hXd
    have c1 := bCd.cell 1
    have c2 := bCd.cell 2
    simp only [List.getElem?_toArray, List.getElem?_cons_zero, List.getElem?_cons_succ] at c1 c2
    have hlX := hl.ext (hX.trans hXd)
    have hqX := hq.ext (hX.trans hXd)
    have bMd := bM.ext hXd
    have bOd := bO.ext hXd
    have hEd := hX.trans hXd
    have HX2 := Lib.hid hXd.size
    go_upto_region 2 with fail
    refine wp_region_ordT 6 (readsT [0, 1, 3, 4] (.stir 2 (.stir 5 .done))) (by kernel_rfl) (by kernel_rfl) (fun _ _ _ _ _ h => h) ?_
    simp only [readsT]
    generalize wx.drew = X at *
    iterate 4 (refine wpOrdT_read (v := ?_) (by rfl) (Or.inl ⟨by rfl, fun x hx => ?_⟩) ?_; rotate_left; (· have a1 := hx.cell c1; have a2 := hx.cell c2; go_simp; try with_reducible rfl); try simp only [Act.put, List.setIfInBounds_toArray, List.set_cons_zero, List.set_cons_succ])
    refine wpOrdT_keep (by rfl) (fun K hK => ?_)
    go_simp
    go_at_call 70
    refine (CloneF_c _ c.l X hlX fl (by omega)).mono ?_
    rintro e w4 ⟨u4, rfl, o4, _, hx4⟩
    refine hK _ _ hx4 ?_
    clear hK K
    refine wpOrdT_keep (by rfl) (fun K hK => ?_)
    go_simp
    go_at_call 70
    refine (CloneF_c _ c.r w4 (hqX.ext hx4) fr (by omega)).mono ?_
    rintro e w5 ⟨u5, rfl, o5, _, hx5⟩
    refine hK _ _ (hx4.trans hx5) ?_
    clear hK K
    refine wpOrdT_done ?_
    try simp only [List.drop_succ_cons, List.drop_zero]
    obtain ⟨A4, c4, rfl, _, _⟩ := o4.ints.form
    obtain ⟨A5, c5, rfl, _, _⟩ := o5.ints.form
    have hx45 := hx4.trans hx5
    have bQ5 := bQd.ext hx45
    have q1 := bQ5.cell 1
    have q2 := bQ5.cell 2
    have m0 := (bMd.ext hx45).cell 0
    simp only [List.getElem?_toArray, List.getElem?_cons_zero, List.getElem?_cons_succ] at q1 q2 m0
    clear c1 c2
    have hE5 := hEd.trans hx45
    have o45 := o4.ext hx5
    have DL := decodedLeft_c (.slice A4 c.l.length c4) c.l B m.sy w5 o45.ints o45.flat HZ1.out hB3.out (by omega)
    have fl5 := o5.flat
    go_wp2
    go_loopw [10, 11, 35] (fun s10 s11 s35 wr => s10 = .slice A4 c.l.length c4 ∧ s11 = .slice A5 c.r.length c5 ∧ s35 = .int .i64 0 ∧ wr = w5) (fun _ _ _ _ => 0)
    case atStart => exact ⟨rfl, rfl, rfl, rfl⟩
    case round =>
      obtain ⟨rfl, rfl, rfl, rfl⟩ := hrel
      rename World => w5
      go_wp2_with fail
      refine DL.mono ?_
      rintro e w6 ⟨hres1, hx6⟩
      clear DL
      have m0 := hx6.cell m0
      have o56 := o5.ext hx6
      have DS := decodedSide_c (.slice A5 c.r.length c5) c.r B m.sy w6 o56.ints HZ2.out hB3.out (by omega)
      have q1 := hx6.cell q1
      have bO6 := (bOd.ext hx45).ext hx6
      have hE6 := hE5.trans hx6
      generalize decR B m.sy c.l = d1 at *
      generalize decF B m.sy c.r = d2 at *
      have hk6 : k ≤ w5.heap.size := by have := hE5.size; omega
      rcases hres1 with ⟨rfl, rfl⟩ | ⟨l, u6, rfl, rfl, o6⟩
      · have HF : Hid (R = (blankC, 9)) := by unfold Hid; rw [HR.out]
        go_wp2_with fail
        refine DS.mono ?_
        rintro e w7 ⟨hres2, hx7⟩
        have bO7 := bO6.ext hx7
        have ob := bO7.cell
        have of_ := bO7.frozen
        have hE7 := hE6.trans hx7
        have HF2 : Hid (∀ x y z : Value, PlaRes k w R (.returned (.tuple #[.agg #[.int .i64 0, .slice none 0 0, .slice none 0 0], .int .i64 9])) (((w7.setCell ⟨k + 1 + 1, 0, none⟩ x).setCell ⟨k + 1 + 1, 1, none⟩ y).setCell ⟨k + 1 + 1, 2, none⟩ z)) := by
          unfold Hid
          intro x y z
          rw [HF.out]
          exact ⟨_, _, rfl, World.ownsRow_nil .., World.ownsRow_nil .., (fun g hg => by simp [Value.ownBlock] at hg), ((hE7.setCell hkk _).setCell hkk _).setCell hkk _⟩
        rcases hres2 with ⟨_, rfl⟩ | ⟨l2, u7, _, rfl, o7⟩
        · go_wp2
          exact bodyPost_ret (v := .tuple #[.agg #[.int .i64 0, .slice none 0 0, .slice none 0 0], .int .i64 9]) (by simp [results, Tryz.results36, go_sem, ob]) rfl (by rw [hk]; exact HF2.out _ _ _)
        · obtain ⟨A7, c7, rfl, _, _⟩ := o7.ints.form
          go_wp2
          exact bodyPost_ret (v := .tuple #[.agg #[.int .i64 0, .slice none 0 0, .slice none 0 0], .int .i64 9]) (by simp [results, Tryz.results36, go_sem, ob]) rfl (by rw [hk]; exact HF2.out _ _ _)
      · obtain ⟨A6, c6, rfl, _, _⟩ := id o6.ints.form
        go_wp2_with fail
        refine DS.mono ?_
        rintro e w7 ⟨hres2, hx7⟩
        have bO7 := bO6.ext hx7
        have ob := bO7.cell
        have of_ := bO7.frozen
        have hE7 := hE6.trans hx7
        have q1 := hx7.cell q1
        rcases hres2 with ⟨rfl, rfl⟩ | ⟨l2, u7, rfl, rfl, o7⟩
        · have HF : Hid (R = (blankC, 9)) := by unfold Hid; rw [HR.out]
          have HF2 : Hid (∀ x y z : Value, PlaRes k w R (.returned (.tuple #[.agg #[.int .i64 0, .slice none 0 0, .slice none 0 0], .int .i64 9])) (((w7.setCell ⟨k + 1 + 1, 0, none⟩ x).setCell ⟨k + 1 + 1, 1, none⟩ y).setCell ⟨k + 1 + 1, 2, none⟩ z)) := by
            unfold Hid
            intro x y z
            rw [HF.out]
            exact ⟨_, _, rfl, World.ownsRow_nil .., World.ownsRow_nil .., (fun g hg => by simp [Value.ownBlock] at hg), ((hE7.setCell hkk _).setCell hkk _).setCell hkk _⟩
          go_wp2
          exact bodyPost_ret (v := .tuple #[.agg #[.int .i64 0, .slice none 0 0, .slice none 0 0], .int .i64 9]) (by simp [results, Tryz.results36, go_sem, ob]) rfl (by rw [hk]; exact HF2.out _ _ _)
        · obtain ⟨A7, c7, rfl, _, _⟩ := id o7.ints.form
          have HF : Hid (R = (⟨pa, l, l2⟩, 0)) := by unfold Hid; rw [HR.out]
          have o67 : OwnInts k w7 (.slice A6 l.length c6) l := ownsRow_ext (ownsRow_base o6 hk6) hx7
          have o77 : OwnInts k w7 (.slice A7 l2.length c7) l2 := ownsRow_base o7 (by have := hx6.size; omega)
          have f1 := own_far_blk o67 bO7 (by decide)
          have f2 := own_far_blk o77 bO7 (by decide)
          have HF2 : Hid (∀ x y z : Value, PlaRes k w R (.returned (.tuple #[.agg #[.int .i64 pa, .slice A6 l.length c6, .slice A7 l2.length c7], .int .i64 0])) (((w7.setCell ⟨k + 1 + 1, 0, none⟩ x).setCell ⟨k + 1 + 1, 1, none⟩ y).setCell ⟨k + 1 + 1, 2, none⟩ z)) := by
            unfold Hid
            intro x y z
            rw [HF.out]
            refine ⟨_, _, rfl, ownsRow_far (ownsRow_far (ownsRow_far o67 f1 _) f1 _) f1 _, ownsRow_far (ownsRow_far (ownsRow_far o77 f2 _) f2 _) f2 _, fun g' h1 h2 => ?_, ((hE7.setCell hkk _).setCell hkk _).setCell hkk _⟩
            have a := (World.ownsRow.lt o6 g' h1).2
            have b := (World.ownsRow.lt o7 g' h2).1
            omega
          go_wp2
          exact bodyPost_ret (v := .tuple #[.agg #[.int .i64 pa, .slice A6 l.length c6, .slice A7 l2.length c7], .int .i64 0]) (by simp [results, Tryz.results36, go_sem, ob]) rfl (by rw [hk]; exact HF2.out _ _ _)
end Go.Proofs.YthhjbmlkncdigaaGreatDoor
end
section
set_option linter.unusedSimpArgs false
set_option linter.unusedVariables false
namespace Go.Proofs.YthhjbmlkncdigaaGreatDoor
open Go Go.RowKit Go.Proofs Go.Maps
set_option maxHeartbeats 400000
theorem PlaRes.far {base : Nat} {w W w' : World} {r : ConfD × Int} {e : Ending} {g : Nat} {cs : Array Value} (h : PlaRes base W r e w') (hb : Blk W g 37 cs) (hX : Ext w W) (hg : w.heap.size ≤ g) :
    ∃ lv rv, e = .returned (.tuple #[.agg #[.int .i64 r.1.q, lv, rv], .int .i64 r.2]) ∧ (∃ nl cl nr cr Al Ar, lv = .slice Al nl cl ∧ rv = .slice Ar nr cr) ∧ Blk w' g 37 cs ∧ ∀ x y z : Value, PlaRes base w r (.returned (.tuple #[.agg #[.int .i64 r.1.q, lv, rv], .int .i64 r.2])) (((w'.setCell ⟨g, 0, none⟩ x).setCell ⟨g, 1, none⟩ y).setCell ⟨g, 2, none⟩ z) := by
  obtain ⟨lv, rv, he, h1, h2, h3, h4⟩ := h
  have hbw := hb.ext h4
  have f1 := own_far_blk h1 hbw (by decide)
  have f2 := own_far_blk h2 hbw (by decide)
  obtain ⟨A1, c1, e1, _, _⟩ := h1.ints.form
  obtain ⟨A2, c2, e2, _, _⟩ := h2.ints.form
  exact ⟨lv, rv, he, ⟨_, _, _, _, _, _, e1, e2⟩, hbw, fun x y z => ⟨_, _, rfl, ownsRow_far (ownsRow_far (ownsRow_far h1 f1 _) f1 _) f1 _, ownsRow_far (ownsRow_far (ownsRow_far h2 f2 _) f2 _) f2 _, h3, (((hX.trans h4).setCell hg _).setCell hg _).setCell hg _⟩⟩
theorem confB_all {m : MachD} {c : ConfD} (h : confB m c = true) : (0 ≤ c.q ∧ c.q < m.st) ∧ (c.l.length ≤ 200 ∧ ∀ z ∈ c.l, 0 ≤ z ∧ z ≤ m.sy - 1) ∧ (c.r.length ≤ 200 ∧ ∀ z ∈ c.r, 0 ≤ z ∧ z ≤ m.sy - 1) := by
  obtain ⟨hg, hf, _⟩ := conf_good h
  exact ⟨⟨hg.q0, hg.q1⟩, ⟨hf.1, fun z hz => by have := hg.l z hz; omega⟩, ⟨hf.2, fun z hz => by have := hg.r z hz; omega⟩⟩
set_option maxRecDepth 20000 in
set_option maxHeartbeats 4000000 in
theorem BinaryConfig_c (m : MachD) (c : ConfD) (mv lv rv : Value) (w : World) (hm : machOk m = true) (hc : confB m c = true) (hr : Rules w mv m.rules) (hl : Ints w lv c.l) (hq : Ints w rv c.r) (fl : Flat lv) (fr : Flat rv) :
    Calls Tryz.prog 30 #[.agg #[.int .i64 m.sy, .int .i64 m.st, mv], .agg #[.int .i64 c.q, lv, rv]] w (PlaRes w.heap.size w (startBi m c)) := by
  obtain ⟨s1, s2, s3, s4, hrl⟩ := machOk_all hm
  obtain ⟨⟨q0, q1⟩, ⟨b1, b2⟩, ⟨b3, b4⟩⟩ := confB_all hc
  clear hrl
  obtain ⟨Am, cm, rfl, _, _⟩ := hr.form
  obtain ⟨Al, cl, rfl, _, _⟩ := hl.form
  obtain ⟨Aq, cq, rfl, _, _⟩ := hq.form
  have HB2 : Hid (∀ z ∈ c.l.reverse, 0 ≤ z ∧ z ≤ 7) := Lib.hid (fun z hz => by have := b2 z (List.mem_reverse.1 hz); omega)
  have HB4 : Hid (∀ z ∈ c.r, 0 ≤ z ∧ z ≤ 7) := Lib.hid (fun z hz => by have := b4 z hz; omega)
  clear b2 b4
  obtain ⟨k, hk⟩ : ∃ k, w.heap.size = k := ⟨_, rfl⟩
  obtain ⟨W, hW⟩ : ∃ W, ((w.alloc (.cells #[.int .i64 m.sy, .int .i64 m.st, .slice Am m.rules.length cm] 35)).alloc (.cells #[.int .i64 c.q, .slice Al c.l.length cl, .slice Aq c.r.length cq] 37)).alloc (.cells #[.int .i64 0, .slice none 0 0, .slice none 0 0] 37) = W := ⟨_, rfl⟩
  have hX : Ext w W := by rw [← hW]; exact ((Ext.alloc _ _).trans (Ext.alloc _ _)).trans (Ext.alloc _ _)
  have bM : Blk W k 35 #[.int .i64 m.sy, .int .i64 m.st, .slice Am m.rules.length cm] := by rw [← hW]; exact ((Blk.new _ _ _ _ hk).alloc _).alloc _
  have bC : Blk W (k + 1) 37 #[.int .i64 c.q, .slice Al c.l.length cl, .slice Aq c.r.length cq] := by rw [← hW]; exact (Blk.new _ _ _ _ (by simp [hk])).alloc _
  have bO : Blk W (k + 2) 37 #[.int .i64 0, .slice none 0 0, .slice none 0 0] := by rw [← hW]; exact Blk.new _ _ _ _ (by simp [hk])
  have hV := ValidConfig_c _ _ m c W ⟨_, rfl, hr.ext hX⟩ ⟨_, _, rfl, hl.ext hX, hq.ext hX⟩
  rw [show (machOk m && confB m c) = true by rw [hm, hc]; rfl] at hV
  have m0 := bM.cell 0
  have m1 := bM.cell 1
  have m2 := bM.cell 2
  have c0 := bC.cell 0
  have c1 := bC.cell 1
  have c2 := bC.cell 2
  simp only [List.getElem?_toArray, List.getElem?_cons_zero, List.getElem?_cons_succ] at m0 m1 m2 c0 c1 c2
  have HSX := Lib.hid (startBi_pla m c)
  have HM := Lib.hid hm
  clear hc
  go_enter Tryz.func30, Tryz.ntmps30
  go_wp2_with fail
  try rw [hW]
  try rw [hk]
  clear hW
  refine hV.mono ?_
  rintro e w1 ⟨rfl, hx1⟩
  have m0 := hx1.cell m0
  have m1 := hx1.cell m1
  have m2 := hx1.cell m2
  go_wp2_with fail
  refine (binary_c _ m w1 ⟨_, rfl, (hr.ext hX).ext hx1⟩ HM.out).mono ?_
  rintro e w2 ⟨hres, hx2⟩
  have hX2 := (hX.trans hx1).trans hx2
  have bO2 := (bO.ext hx1).ext hx2
  have m0 := hx2.cell m0
  have m1 := hx2.cell m1
  have m2 := hx2.cell m2
  have hkk : w.heap.size ≤ k + 2 := by omega
  rcases hres with ⟨hn, rfl⟩ | ⟨s, bx, bm, rv1, pv1, hs, rfl, hst, hok, l1, l2⟩
  · have HE : Hid (startBi m c = (blankC, 5)) := by unfold Hid; rw [HSX.out, hn]
    have ob := bO2.cell
    have of_ := bO2.frozen
    go_wp2
    rw [HE.out]
    exact bodyPost_ret (v := .tuple #[.agg #[.int .i64 0, .slice none 0 0, .slice none 0 0], .int .i64 5]) (by simp [results, Tryz.results30, go_sem, ob]) rfl ⟨_, _, rfl, World.ownsRow_nil .., World.ownsRow_nil .., (fun g hg => by simp [Value.ownBlock] at hg), ((hX2.setCell hkk _).setCell hkk _).setCell hkk _⟩
  · have HE : Hid (startBi m c = plaBi 2 s.1.length s.2 s.1 ⟨0, c.q, 0, 0⟩ (codesR (bitsD m.sy) c.l) (codesB (bitsD m.sy) c.r)) := by unfold Hid; rw [HSX.out, hs]
    have BO := bitsOf_c (.agg #[.int .i64 m.sy, .int .i64 m.st, .slice Am m.rules.length cm]) m w2 ⟨_, rfl, hr.ext hX2⟩ s2
    go_wp2_with fail
    refine BO.mono ?_
    rintro e w3 ⟨rfl, hx3⟩
    clear BO
    obtain ⟨hB1, hB3⟩ := bitsD_range m.sy
    have HLL := Lib.hid (codesR_length (bitsD m.sy) c.l)
    have HLR := Lib.hid (codesB_length (bitsD m.sy) c.r)
    have HBK := Lib.hid (codes_back (bitsD m.sy) c.l)
    have HBL := Lib.hid (codesB_length (bitsD m.sy) c.l.reverse)
    generalize bitsD m.sy = B at *
    have hMul : ∀ n : Nat, n ≤ 200 → n * B.toNat ≤ 600 := fun n hn => by
      have := Nat.mul_le_mul hn (by omega : B.toNat ≤ 3); omega
    have hX3 := hX2.trans (hx3.trans (Ext.drew w3))
    have c0 := (hx2.trans (hx3.trans (Ext.drew w3))).cell (hx1.cell c0)
    have c1 := (hx2.trans (hx3.trans (Ext.drew w3))).cell (hx1.cell c1)
    have c2 := (hx2.trans (hx3.trans (Ext.drew w3))).cell (hx1.cell c2)
    have st3 := hst.ext (hx3.trans (Ext.drew w3))
    have bO3 := bO2.ext (hx3.trans (Ext.drew w3))
    have hl3 := hl.ext hX3
    have hq3 := hq.ext hX3
    go_wp2_with fail
    refine wp_region_ordT 17 (readsT [0, 1, 2, 4, 5, 7, 10, 11, 12] (.stir 3 (.stir 6 (.stir 8 (.stir 9 (.stir 13 (.stir 14 (readsT [15, 16] .done)))))))) (by kernel_rfl) (by kernel_rfl) (fun _ _ _ _ _ h => h) ?_
    simp only [readsT]
    generalize w3.drew = X at *
    iterate 9 (refine wpOrdT_read (v := ?_) (by rfl) (Or.inl ⟨by rfl, fun x hx => ?_⟩) ?_; rotate_left; (· have a0 := hx.cell c0; have a1 := hx.cell c1; have a2 := hx.cell c2; go_simp; try with_reducible rfl); try simp only [Act.put, List.setIfInBounds_toArray, List.set_cons_zero, List.set_cons_succ])
    refine wpOrdT_keep (by rfl) (fun K hK => ?_)
    go_simp
    go_at_call 34
    refine (startOf_c _ _).mono ?_
    rintro e w4 ⟨rfl, hx4⟩
    refine hK _ _ hx4 ?_
    clear hK K
    simp only [BP.v]
    refine wpOrdT_keep (by rfl) (fun K hK => ?_)
    go_simp
    go_at_call 59
    refine (reversed_c _ c.l w4 (hl3.ext hx4) fl (by omega)).mono ?_
    rintro e w5 ⟨u5, rfl, o5, hx5⟩
    refine hK _ _ (hx4.trans hx5) ?_
    clear hK K
    refine wpOrdT_keep (by rfl) (fun K hK => ?_)
    go_simp
    go_at_call 60
    refine (coded_c u5 c.l.reverse B w5 o5.ints HB2.out hB1 hB3 (by simp; omega)).mono ?_
    rintro e w6 ⟨u6, rfl, o6, hx6⟩
    refine hK _ _ (hx4.trans (hx5.trans hx6)) ?_
    clear hK K
    refine wpOrdT_keep (by rfl) (fun K hK => ?_)
    go_simp
    go_at_call 59
    refine (reversed_c u6 _ w6 o6.ints o6.flat (by rw [HBL.out, List.length_reverse]; have := hMul _ b1; omega)).mono ?_
    rintro e w7 ⟨u7, rfl, o7, hx7⟩
    rw [HBK.out] at o7
    refine hK _ _ (hx4.trans (hx5.trans (hx6.trans hx7))) ?_
    clear hK K
    have hX47 := hx4.trans (hx5.trans (hx6.trans hx7))
    refine wpOrdT_keep (by rfl) (fun K hK => ?_)
    go_simp
    go_at_call 60
    refine (coded_c _ c.r B w7 (hq3.ext hX47) HB4.out hB1 hB3 (by omega)).mono ?_
    rintro e w8 ⟨u8, rfl, o8, hx8⟩
    refine hK _ _ (hX47.trans hx8) ?_
    clear hK K
    have hX48 := hX47.trans hx8
    have hPC := placedBi_c w.heap.size w1.heap.size w8 bx 2 s.1.length s.2 s.1 ⟨0, c.q, 0, 0⟩ rv1 pv1 bm (codesR B c.l) (codesB B c.r) u7 u8 (st3.ext hX48)
      (ownsRow_ext (ownsRow_base o7 (by have := hX3.size; have := (hx4.trans (hx5.trans hx6)).size; omega)) hx8) (ownsRow_base o8 (by have := hX3.size; have := hX47.size; omega))
      (fun g' h1 h2 => by
        have a := (World.ownsRow.lt o7 g' h1).2
        have b := (World.ownsRow.lt o8 g' h2).1
        omega) (by rw [HLL.out]; have := hMul _ b1; omega) (by rw [HLR.out]; have := hMul _ b3; omega) (by simp [SmBi, smallBi]; omega) (by omega) (by omega) (by omega) (by omega)
    rw [← HE.out] at hPC
    have bO8 := bO3.ext hX48
    have hX8 := hX3.trans hX48
    simp only [BP.v] at hPC
    refine wpOrdT_keep (by rfl) (fun K hK => ?_)
    go_simp
    go_at_call 58
    refine hPC.mono ?_
    rintro e w9 hres
    have hx9 : Ext w8 w9 := by obtain ⟨_, _, _, _, _, _, h⟩ := hres; exact h
    obtain ⟨lv5, rv5, rfl, ⟨nl, cl5, nr, cr5, Al5, Ar5, rfl, rfl⟩, b5, hdone⟩ := hres.far bO8 hX8 hkk
    refine hK _ _ (hX48.trans hx9) ?_
    clear hK K hPC
    have HD := Lib.hid hdone
    clear hdone hres
    iterate 2 (refine wpOrdT_read (v := ?_) (by rfl) (Or.inl ⟨by rfl, fun x hx => ?_⟩) ?_; rotate_left; (· go_simp; try with_reducible rfl); try simp only [Act.put, List.setIfInBounds_toArray, List.set_cons_zero, List.set_cons_succ])
    refine wpOrdT_done ?_
    try simp only [List.drop_succ_cons, List.drop_zero]
    have ob := b5.cell
    have of_ := b5.frozen
    go_wp2
    exact bodyPost_ret (v := .tuple #[.agg #[.int .i64 (startBi m c).1.q, .slice Al5 nl cl5, .slice Ar5 nr cr5], .int .i64 (startBi m c).2]) (by simp [results, Tryz.results30, go_sem, ob]) rfl (HD.out _ _ _)
end Go.Proofs.YthhjbmlkncdigaaGreatDoor
end
section
set_option linter.unusedSimpArgs false
set_option linter.unusedVariables false
namespace Go.Proofs.YthhjbmlkncdigaaGreatDoor
open Go Go.RowKit Go.Proofs Go.Maps
set_option maxHeartbeats 400000
theorem biGuard : Tryz.prog.eqGuardType Tryz.prog.depth 80 = false := by kernel_rfl
theorem biLits (p : BP) (hs : SmBi p) : p.v.formed Tryz.prog 80 = true ∧ Tryz.prog.keyLits (Tryz.prog.types.size + 1) 80 p.v.cells.toList = some [.int .i64 p.k, .int .i64 p.a, .int .i64 p.b, .int .i64 p.c] := by
  obtain ⟨h0, h1, h2, h3⟩ := hs
  have w0 := smallBi_wf h0
  have w1 := smallBi_wf h1
  have w2 := smallBi_wf h2
  have w3 := smallBi_wf h3
  have c4 : Tryz.prog.cellsOf 80 = 4 := by kernel_rfl
  have c1 : Tryz.prog.cellsOf 2 = 1 := by kernel_rfl
  obtain ⟨d, hd⟩ : ∃ d, Tryz.prog.types.size = d + 1 := ⟨Tryz.prog.types.size - 1, by decide +kernel⟩
  refine ⟨by simp [Value.formed, BP.v, Tryz.underlying80, c4], ?_⟩
  rw [hd]
  simp [Program.keyLits, BP.v, Value.cells, Tryz.underlying80, Tryz.underlying2, c4, c1, w0, w1, w2, w3]
theorem biNeq_run (w : World) (p q : BP) (hp : SmBi p) (hq : SmBi q) : (binOp .neq 80 p.v q.v).run Tryz.prog w = .ok (.bool (decide (p ≠ q))) w := by
  obtain ⟨f1, l1⟩ := biLits p hp
  obtain ⟨f2, l2⟩ := biLits q hq
  have hk : Tryz.prog.keyTypeAt 8 80 = true := by kernel_rfl
  obtain ⟨r, hr, hiff⟩ := run_equalIn_deep (P := Tryz.prog) 9992 8 80 hk w _ _ p.v q.v _ _ f1 f2 l1 l2
  have e : (binOp .neq 80 p.v q.v).run Tryz.prog w = ((Op.equalIn 10000 80 p.v q.v).run Tryz.prog w).andThen fun b w' => .ok (.bool (!b)) w' := by
    unfold BP.v
    exact run_neq_struct ..
  rw [e, show (10000 : Nat) = 9992 + 8 from rfl, hr]
  have hb : (!r) = decide (p ≠ q) := by
    cases r with
    | true =>
      have h := hiff.1 rfl
      simp at h
      obtain ⟨a, b, c, d⟩ := h
      have : p = q := by
        cases p; cases q
        simp_all
      simp [this]
    | false =>
      have h : ¬ p = q := fun e => by
        subst e
        exact absurd (hiff.2 rfl) (by simp)
      simp [h]
  show Result.ok _ _ = _
  rw [hb]
def startP (a : Int) : BP := ⟨0, a, 0, 0⟩
/-- What the closure of BinaryTexts needs of its variables. -/
structure BiEnv (w : World) (bv bp : Nat) (m : MachD) (s : List BP × List RuleD) : Prop where
  ptr : ∃ bx base rv pv bm, Blk w bv 71 #[.pointer (some ⟨bx, 0, none⟩)] ∧ PlBi base w bx 2 s.1.length s.2 s.1 rv pv bm
  mac : ∃ A c, Blk w bp 35 #[.int .i64 m.sy, .int .i64 m.st, .slice A m.rules.length c] ∧ Rules w (.slice A m.rules.length c) m.rules
theorem BiEnv.ext {w w' : World} {bv bp : Nat} {m : MachD} {s : List BP × List RuleD} (h : BiEnv w bv bp m s) (he : Ext w w') : BiEnv w' bv bp m s := by
  obtain ⟨⟨bx, base, r2, pv, bm, h2, h3⟩, A, c, h1, h4⟩ := h
  exact ⟨⟨bx, base, r2, pv, bm, h2.ext he, h3.ext he⟩, A, c, h1.ext he, h4.ext he⟩
theorem startP_small {m : MachD} (hm : machOk m = true) {p : BP} (hp : BiOk m p) : SmBi (startP p.a) := by
  have h := hp.small hm
  have z : smallBi 0 := ⟨by decide, by decide⟩
  exact ⟨z, h.2.1, z, z⟩
theorem decBi_dig {m : MachD} (hm : machOk m = true) {p : BP} (hp : BiOk m p) (hk : p.k = 0) {c : ConfD} (b1 : c.l.length ≤ 200) (b3 : c.r.length ≤ 200) (h1 : ∀ z ∈ c.l, 0 ≤ z ∧ z ≤ 1) (h2 : ∀ z ∈ c.r, 0 ≤ z ∧ z ≤ 1) (h : (decBi m p c).2 = 0) : CDig (decBi m p c).1 := by
  obtain ⟨s1, s2, s3, s4, _⟩ := machOk_all hm
  have ha : 0 ≤ p.a ∧ p.a < m.st := by
    rcases hp with ⟨_, a, b, _⟩ | ⟨e, _⟩ | ⟨e, _⟩
    · exact ⟨a, b⟩
    · omega
    · omega
  unfold decBi at h ⊢
  cases hl : decR (bitsD m.sy).toNat m.sy c.l with
  | none => rw [hl] at h; simp at h
  | some l =>
    cases hr : decF (bitsD m.sy).toNat m.sy c.r with
    | none => rw [hl, hr] at h; simp at h
    | some r =>
      obtain ⟨a1, a2⟩ := decR_all (bitsN m.sy) h1 hl
      obtain ⟨a3, a4⟩ := decF_all (bitsN m.sy) h2 hr
      exact ⟨ha.1, by show p.a ≤ 999; omega, by show l.length ≤ 200; omega, fun z hz => by have := a1 z hz; omega, by show r.length ≤ 200; omega, fun z hz => by have := a3 z hz; omega⟩
set_option maxRecDepth 20000 in
set_option maxHeartbeats 4000000 in
theorem binText_c (bv bp : Nat) (m : MachD) (s : List BP × List RuleD) (c : ConfD) (lv qv : Value) (w : World) (hm : machOk m = true) (hok : ∀ p ∈ s.1, BiOk m p) (hE : BiEnv w bv bp m s) (hc : confB (binM s) c = true) (hl : Ints w lv c.l) (hq : Ints w qv c.r) (fl : Flat lv) (fr : Flat qv) (hT : Tab w) :
    Calls Tryz.prog 33 #[.agg #[.int .i64 c.q, lv, qv], .pointer (some ⟨bv, 0, none⟩), .pointer (some ⟨bp, 0, none⟩)] w fun e w' => e = .returned (.string (bsS (txtB m s c))) ∧ Ext w w' := by
  obtain ⟨Al, cl, rfl, _, _⟩ := hl.form
  obtain ⟨Aq, cq, rfl, _, _⟩ := hq.form
  obtain ⟨⟨q0, q1⟩, ⟨b1, b2⟩, ⟨b3, b4⟩⟩ := confB_all (m := binM s) hc
  obtain ⟨i, hi⟩ : ∃ i : Nat, c.q = i := ⟨c.q.toNat, by omega⟩
  have hil : i < s.1.length := by have : c.q < (s.1.length : Int) := q1; omega
  obtain ⟨p, hp⟩ : ∃ p, s.1[i]? = some p := ⟨_, List.getElem?_eq_getElem hil⟩
  have hpk : BiOk m p := hok p (List.mem_of_getElem? hp)
  have HTX : Hid (txtB m s c = txtP m p c) := Lib.hid (by
    unfold txtB
    rw [hi, Int.toNat_natCast, List.getD_eq_getElem?_getD, hp]
    rfl)
  have hB1 : ∀ z ∈ c.l, 0 ≤ z ∧ z ≤ 1 := fun z hz => by have : 0 ≤ z ∧ z ≤ 2 - 1 := b2 z hz; omega
  have hB2 : ∀ z ∈ c.r, 0 ≤ z ∧ z ≤ 1 := fun z hz => by have : 0 ≤ z ∧ z ≤ 2 - 1 := b4 z hz; omega
  have HDG : Hid (p.k = 0 → (decBi m p c).2 = 0 → CDig (decBi m p c).1) := Lib.hid (fun h0 => decBi_dig hm hpk h0 b1 b3 hB1 hB2)
  have HSP := Lib.hid (start_place hpk)
  have HB1 := Lib.hid hB1
  have HB2 := Lib.hid hB2
  have NQ := fun w' => biNeq_run w' p (startP p.a) (hpk.small hm) (startP_small hm hpk)
  obtain ⟨nb, hnb⟩ : ∃ nb, decide (p ≠ startP p.a) = nb := ⟨_, rfl⟩
  rw [hnb] at NQ
  have HNB : Hid ((nb = false → p = startP p.a) ∧ (nb = true → p ≠ startP p.a)) := Lib.hid ⟨fun h => by simpa [h] using hnb, fun h => by simpa [h] using hnb⟩
  clear hnb
  obtain ⟨g, hg⟩ : ∃ g, w.heap.size = g := ⟨_, rfl⟩
  obtain ⟨W, hW⟩ : ∃ W, W = w.alloc (.cells #[.int .i64 c.q, .slice Al c.l.length cl, .slice Aq c.r.length cq] 37) := ⟨_, rfl⟩
  have hX : Ext w W := by rw [hW]; exact Ext.alloc _ _
  have HWS : Hid (W.heap.size = g + 1) := Lib.hid (by rw [hW]; simp [hg])
  have bC : Blk W g 37 #[.int .i64 c.q, .slice Al c.l.length cl, .slice Aq c.r.length cq] := by rw [hW]; exact Blk.new _ _ _ _ hg
  obtain ⟨⟨bx, base, r2, pv, bm, bP, hst⟩, Am, cm, bM, hRm⟩ := hE.ext hX
  obtain ⟨Ap, cp, rfl, hp1, hp2, _⟩ := (ownsRow_row hst.places).form
  obtain ⟨gp, rfl, _, _, hP⟩ := placesB_at hst.places hp
  have DO := fun X (hx : Ext W X) (hpb : p.b = 0) => decodeBinary_c base X m (.slice Am m.rules.length cm) bx 2 s.1.length s.2 s.1 r2 _ bm c (.slice Al c.l.length cl) (.slice Aq c.r.length cq) i p (hst.ext hx) (hRm.ext hx) hm hi hp hpb (hl.ext (hX.trans hx)) (hq.ext (hX.trans hx)) fl fr b1 b3 HB1.out HB2.out
  have x3 := hst.blk.cell 3
  have xp := bP.cell 0
  have c0 := bC.cell 0
  have c1 := bC.cell 1
  have c2 := bC.cell 2
  have m0 := bM.cell 0
  have m1 := bM.cell 1
  have m2 := bM.cell 2
  simp only [List.getElem?_toArray, List.getElem?_cons_zero, List.getElem?_cons_succ] at x3 xp c0 c1 c2 m0 m1 m2
  have k0 := (hP 0 (by omega)).trans (by rfl)
  have k1 := (hP 1 (by omega)).trans (by rfl)
  have k2 := (hP 2 (by omega)).trans (by rfl)
  have k3 := (hP 3 (by omega)).trans (by rfl)
  simp only [Nat.add_zero] at k0
  have HT := Lib.hid (hT.ext hX)
  rw [HTX.out]
  obtain ⟨pk, pa, pb, pc⟩ := p
  simp only [BP.v, startP] at NQ k0 k1 k2 k3
  rw [hi] at c0
  have zD := Ext.drew W
  have e3 := zD.cell x3
  have ep := zD.cell xp
  have e0 := zD.cell c0
  have h0 := zD.cell k0
  have h1 := zD.cell k1
  have h2 := zD.cell k2
  have h3 := zD.cell k3
  have HI := Lib.hid hi
  have i1 : (0 : Int) ≤ (i : Int) := by omega
  have i2 : (i : Int) < (s.1.length : Int) := by omega
  clear hi hp hP hE hst hok hc b2 b4 hB1 hB2 q0 q1 hpk
  go_enter Tryz.func33, Tryz.ntmps33
  go_upto_region 1 with fail
  try rw [← hW]
  try rw [hg]
  clear hW
  refine wp_region_ordT 9 (readsT [0, 1, 2, 3, 4, 5, 6, 7] (.stir 8 .done)) (by kernel_rfl) (by kernel_rfl) (fun _ _ _ _ _ h => h) ?_
  simp only [readsT]
  iterate 8 (refine wpOrdT_read (v := ?_) (by rfl) (Or.inl ⟨by rfl, fun x hx => ?_⟩) ?_; rotate_left; (· have u0 := hx.cell h0; have u1 := hx.cell h1; have u2 := hx.cell h2; have u3 := hx.cell h3; have v3 := hx.cell e3; have vp := hx.cell ep; have v0 := hx.cell e0; go_simp; try with_reducible rfl); try simp only [Act.put, List.setIfInBounds_toArray, List.set_cons_zero, List.set_cons_succ])
  refine wpOrdT_stir (by rfl) (fun K hK => ?_)
  go_simp
  refine hK _ _ (Ext.alloc _ _) ?_
  clear hK K
  try simp only [Act.put, List.setIfInBounds_toArray, List.set_cons_zero, List.set_cons_succ]
  refine wpOrdT_done ?_
  try simp only [List.drop_succ_cons, List.drop_zero]
  have hgs : W.heap.size = g + 1 := HWS.out
  have hDs : W.drew.heap.size = g + 1 := hgs
  obtain ⟨V, hV⟩ : ∃ V, V = (W.alloc (.cells #[.int .i64 pk, .int .i64 pa, .int .i64 pb, .int .i64 pc] 80)).drew := ⟨_, rfl⟩
  have hXV : Ext W V := by rw [hV]; exact (Ext.alloc _ _).trans (Ext.drew _)
  have bT : Blk V (g + 1) 80 #[.int .i64 pk, .int .i64 pa, .int .i64 pb, .int .i64 pc] := by rw [hV]; exact (Blk.new _ _ _ _ hgs).drew
  clear h0 h1 h2 h3 e3 ep e0 k0 k1 k2 k3
  have zV := Ext.drew V
  have q0 := bT.cell 0
  have q1 := bT.cell 1
  have q2 := bT.cell 2
  have q3 := bT.cell 3
  simp only [List.getElem?_toArray, List.getElem?_cons_zero, List.getElem?_cons_succ] at q0 q1 q2 q3
  have q0 := zV.cell q0
  have q1 := zV.cell q1
  have q2 := zV.cell q2
  have q3 := zV.cell q3
  have LK := startOf_c pa V.drew
  have hXVd := hXV.trans zV
  simp only [BP.v] at LK
  go_upto_region 2 with fail
  try rw [← hV]
  try rw [hDs]
  clear hV hDs
  refine wp_region_ordT 4 (readsT [0, 1, 2] (.stir 3 .done)) (by kernel_rfl) (by kernel_rfl) (fun _ _ _ _ _ h => h) ?_
  simp only [readsT]
  iterate 3 (refine wpOrdT_read (v := ?_) (by rfl) (Or.inl ⟨by rfl, fun x hx => ?_⟩) ?_; rotate_left; (· have u0 := hx.cell q0; have u1 := hx.cell q1; have u2 := hx.cell q2; have u3 := hx.cell q3; go_simp; try with_reducible rfl); try simp only [Act.put, List.setIfInBounds_toArray, List.set_cons_zero, List.set_cons_succ])
  refine wpOrdT_stir (by rfl) (fun K hK => ?_)
  go_simp
  go_at_call 34
  refine LK.mono ?_
  rintro e w1 ⟨rfl, hx1⟩
  refine hK _ _ hx1 ?_
  clear hK K LK
  try simp only [Act.put, List.setIfInBounds_toArray, List.set_cons_zero, List.set_cons_succ]
  refine wpOrdT_done ?_
  try simp only [List.drop_succ_cons, List.drop_zero]
  clear q0 q1 q2 q3
  have hX1 := hXVd.trans hx1
  have gd := biGuard
  cases nb with
  | false =>
    have hpl := HSP.out.2 (HNB.out.1 rfl)
    have HT2 : Hid (txtP m ⟨pk, pa, pb, pc⟩ c = if (decBi m ⟨pk, pa, pb, pc⟩ c).2 = 0 then confT (decBi m ⟨pk, pa, pb, pc⟩ c).1 else []) := Lib.hid (txtP_start hpl c)
    have DO1 := DO w1 hX1 hpl.2
    have HDG2 := Lib.hid (HDG.out hpl.1)
    obtain ⟨⟨⟨uq, ul, ur⟩, uk⟩, hdec⟩ : ∃ q, decBi m ⟨pk, pa, pb, pc⟩ c = q := ⟨_, rfl⟩
    rw [hdec] at DO1 HT2 HDG2
    have xp := hX1.cell xp
    have c0 := hX1.cell c0
    have c1 := hX1.cell c1
    have c2 := hX1.cell c2
    have m0 := hX1.cell m0
    have m1 := hX1.cell m1
    have m2 := hX1.cell m2
    rw [HI.out] at DO1
    clear hpl DO hdec x3 HNB HDG HSP
    go_wp2_with fail
    refine DO1.mono ?_
    rintro e w2 ⟨lv2, rv2, rfl, o2, p2, hap, hx2⟩
    clear DO1
    simp only at o2 p2 ⊢
    have hX2 := hX1.trans hx2
    have CT0 := fun (hd : CDig ⟨uq, ul, ur⟩) => configText0_c lv2 rv2 ⟨uq, ul, ur⟩ w2 o2.ints p2.ints hd o2.flat (HT.out.ext hX2)
    have CT1 := fun (hd : uk ≠ 0) => configText1_c lv2 rv2 ⟨uq, ul, ur⟩ uk w2 o2.ints p2.ints hd
    obtain ⟨A2, k2, rfl, _, _⟩ := id o2.ints.form
    obtain ⟨B2, j2, rfl, _, _⟩ := id p2.ints.form
    by_cases hk : uk = 0
    · have hdg := HDG2.out hk
      have CT := CT0 hdg
      have HT3 : Hid (txtP m ⟨pk, pa, pb, pc⟩ c = confT ⟨uq, ul, ur⟩) := Lib.hid (by rw [HT2.out]; exact if_pos hk)
      subst hk
      clear hdg HDG2 HT2 CT0 CT1
      simp only at CT
      go_wp2_with fail
      refine CT.mono ?_
      rintro e w3 ⟨rfl, hx3⟩
      go_wp2
      go_ret
      rw [HT3.out]
      exact ⟨rfl, (hX.trans hX2).trans hx3⟩
    · have CT := CT1 hk
      have HT3 : Hid (txtP m ⟨pk, pa, pb, pc⟩ c = []) := Lib.hid (by rw [HT2.out]; exact if_neg hk)
      clear HDG2 HT2 CT0 CT1 hk
      simp only at CT
      go_wp2_with fail
      refine CT.mono ?_
      rintro e w3 ⟨rfl, hx3⟩
      go_wp2
      go_ret
      rw [HT3.out]
      exact ⟨rfl, (hX.trans hX2).trans hx3⟩
  | true =>
    have hpl := fun hh => HNB.out.2 rfl (HSP.out.1 hh)
    have HT2 : Hid (txtP m ⟨pk, pa, pb, pc⟩ c = []) := Lib.hid (by
      unfold txtP
      exact if_neg hpl)
    clear hpl DO HNB HSP HDG
    go_wp2
    go_ret
    rw [HT2.out]
    exact ⟨rfl, hX.trans hX1⟩
end Go.Proofs.YthhjbmlkncdigaaGreatDoor
end
