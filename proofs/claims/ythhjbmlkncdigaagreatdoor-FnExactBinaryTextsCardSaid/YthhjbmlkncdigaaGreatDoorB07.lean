/- Contracts of the reference's test of a configuration, and of its maker of the machine on one half of the tape. The machine is valid. -/
import Derived.Test.YthhjbmlkncdigaaGreatDoorB06
import Derived.Test.YthhjbmlkncdigaaGreatDoorB04
section
set_option linter.unusedSimpArgs false
set_option linter.unusedVariables false
namespace Go.Proofs.YthhjbmlkncdigaaGreatDoor
open Go Go.RowKit Go.Proofs
set_option maxHeartbeats 400000
theorem sideOk_nolast {zs : List Int} {sy : Int} (h : (zs.all fun z => inB z 0 (sy - 1)) = false) : sideOk zs sy 200 = false := by simp only [sideOk, h]; simp
set_option maxRecDepth 20000 in
theorem l05Cells_c (b o : Nat) (sy : Int) (v : Value) (zs : List Int) (w : World) (hsy : w.cell? ⟨b, o, none⟩ = some (.int .i64 sy)) (h : Ints w v zs) (s1 : 1 ≤ sy) (s2 : sy ≤ 1000000) :
    Calls Tryz.prog 77 #[.pointer (some ⟨b, o, none⟩), v] w fun e w' => e = .returned (.bool (sideOk zs sy 200)) ∧ Ext w w' := by
  obtain ⟨A, c, rfl, h2, h2'⟩ := h.form
  go_enter Tryz.func77, Tryz.ntmps77
  go_wp2
  go_loopw [5] (fun i wr => ∃ k : Nat, k ≤ zs.length ∧ i = .int .i64 k ∧ Ext w wr ∧ Hid (allTo (fun z => inB z 0 (sy - 1)) zs k)) (fun i _ => zs.length - (intOf i).toNat)
  case atStart => exact ⟨0, Nat.zero_le _, rfl, Ext.refl _, by unfold Hid allTo; simp⟩
  case round =>
    obtain ⟨k, hk, rfl, hx, hall⟩ := hrel
    by_cases hlt : k < zs.length
    · obtain ⟨b', off, rfl, hc⟩ := (h.ext hx).at hlt
      have c0 := cellR (hc k hlt)
      have d0 := cellR (hx.cell hsy)
      have HY := fun he => Lib.hid (allTo_step (p := fun z => inB z 0 (sy - 1)) hall.out hlt he)
      have HN := fun he => Lib.hid (sideOk_nolast (sy := sy) (all_no (p := fun z => inB z 0 (sy - 1)) hlt he))
      generalize zs[k] = z at *
      clear hc
      go_wp2_with fail
      refine wp_region_ext (by kernel_rfl) (by kernel_rfl) ?_
      repeat (go_big_quiet_step ((go_at_call 75; exact Calls.sameR (l00In_c _ _ _ _))))
      refine wpQuiet_nil ?_
      intro w2 hx2
      have hX := hx.trans hx2
      cases hb : inB z 0 (sy - 1) with
      | true =>
        have HY2 := HY hb
        clear HY HN
        go_wp2
        go_roundw
        case rel => exact ⟨k + 1, by omega, by go_num, hX, HY2⟩
        case measure => simp [intOf]; omega
      | false =>
        have HN2 := HN hb
        clear HY HN
        go_wp2
        go_ret
        exact ⟨by rw [HN2.out]; rfl, hX⟩
    · have HA := Lib.hid (allTo_end hall.out (by omega))
      by_cases hl : (zs.length : Int) ≤ 200
      · have hld : decide ((zs.length : Int) ≤ 200) = true := by simp [hl]
        by_cases hz : zs.length = 0
        · have hzb : ((zs.length : Int) == 0) = true := by simp [hz]
          have HE : Hid (sideOk zs sy 200 = true) := by unfold Hid; simp only [sideOk, HA.out, hzb, hld]; rfl
          clear hz
          go_wp2
          go_ret
          exact ⟨by rw [HE.out]; rfl, hx⟩
        · have hzb : ((zs.length : Int) == 0) = false := by rw [beq_eq_false_iff_ne]; omega
          have hl1 : zs.length - 1 < zs.length := by omega
          obtain ⟨b', off, rfl, hc⟩ := (h.ext hx).at hl1
          have c0 := hc (zs.length - 1) hl1
          have HE : Hid (sideOk zs sy 200 = (zs[zs.length - 1] != 0)) := by unfold Hid; simp only [sideOk, HA.out, hzb, hld, lastD_get (show 0 < zs.length by omega)]; rfl
          have i1 : (0 : Int) ≤ (zs.length : Int) - 1 := by omega
          have i2 : ((zs.length : Int) - 1) < (zs.length : Int) := by omega
          have i3 : ((zs.length : Int) - 1).toNat = zs.length - 1 := by omega
          clear hc
          generalize zs[zs.length - 1] = z at *
          go_wp2
          go_ret
          exact ⟨by rw [HE.out]; rfl, hx⟩
      · have hld : decide ((zs.length : Int) ≤ 200) = false := by simp; omega
        have HE : Hid (sideOk zs sy 200 = false) := by unfold Hid; simp only [sideOk, hld]; simp
        go_wp2
        go_ret
        exact ⟨by rw [HE.out]; rfl, hx⟩
/-- A configuration behind a pointer. -/
def ConfP (w : World) (b : Nat) (c : ConfD) : Prop := ∃ lv rv, w.cell? ⟨b, 0, none⟩ = some (.int .i64 c.q) ∧ w.cell? ⟨b, 1, none⟩ = some lv ∧ w.cell? ⟨b, 2, none⟩ = some rv ∧ Ints w lv c.l ∧ Ints w rv c.r
theorem ConfP.ext {w w' : World} {b : Nat} {c : ConfD} (h : ConfP w b c) (he : Ext w w') : ConfP w' b c := by
  obtain ⟨lv, rv, h1, h2, h3, h4, h5⟩ := h
  exact ⟨lv, rv, he.cell h1, he.cell h2, he.cell h3, h4.ext he, h5.ext he⟩
set_option maxRecDepth 20000 in
theorem l05Good_c (b o bc : Nat) (m : MachD) (c : ConfD) (w : World) (hsy : w.cell? ⟨b, o, none⟩ = some (.int .i64 m.sy)) (hst : w.cell? ⟨b, o + 1, none⟩ = some (.int .i64 m.st)) (hc : ConfP w bc c) (s1 : 1 ≤ m.sy) (s2 : m.sy ≤ 1000000) (s3 : 1 ≤ m.st) (s4 : m.st ≤ 1000) :
    Calls Tryz.prog 43 #[.pointer (some ⟨b, o, none⟩), .pointer (some ⟨bc, 0, none⟩)] w fun e w' => e = .returned (.bool (confB m c)) ∧ Ext w w' := by
  obtain ⟨lv, rv, p0, p1, p2, hl, hr⟩ := hc
  obtain ⟨Al, cl, rfl, _, _⟩ := hl.form
  obtain ⟨Ar, cr, rfl, _, _⟩ := hr.form
  have d0 := cellR p0
  have d1 := cellR p1
  have d2 := cellR p2
  have e0 := cellR hsy
  have e1 := cellR hst
  have CL := fun d os => l05Cells_c b o m.sy _ c.l _ (e0 d os) (hl.ext (below_regrown w d os)) s1 s2
  have CR := fun d os => l05Cells_c b o m.sy _ c.r _ (e0 d os) (hr.ext (below_regrown w d os)) s1 s2
  have IN := fun (w : World) => l00In_c c.q 0 (m.st - 1) w
  cases ha : inB c.q 0 (m.st - 1) with
  | false =>
    simp only [ha] at IN
    have HE : Hid (confB m c = false) := by unfold Hid; simp only [confB, ha]; simp
    go_enter Tryz.func43, Tryz.ntmps43
    go_wp2
    refine wp_region_ext (by kernel_rfl) (by kernel_rfl) ?_
    repeat (go_big_quiet_step (first | (go_at_call 75; exact Calls.sameR (IN _)) | (go_at_call 77; exact Calls.extR (CL _ _))))
    refine wpQuiet_nil ?_
    intro w2 hx2
    go_wp2
    go_ret
    exact ⟨by rw [HE.out]; rfl, hx2⟩
  | true =>
    simp only [ha] at IN
    cases hb : sideOk c.l m.sy 200 with
    | false =>
      have HE : Hid (confB m c = false) := by unfold Hid; simp only [confB, hb]; simp
      simp only [hb] at CL
      go_enter Tryz.func43, Tryz.ntmps43
      go_wp2
      refine wp_region_ext (by kernel_rfl) (by kernel_rfl) ?_
      repeat (go_big_quiet_step (first | (go_at_call 75; exact Calls.sameR (IN _)) | (go_at_call 77; exact Calls.extR (CL _ _))))
      refine wpQuiet_nil ?_
      intro w2 hx2
      go_wp2
      go_ret
      exact ⟨by rw [HE.out]; rfl, hx2⟩
    | true =>
      have HE : Hid (confB m c = sideOk c.r m.sy 200) := by unfold Hid; simp only [confB, hb, ha]; simp
      simp only [hb] at CL
      go_enter Tryz.func43, Tryz.ntmps43
      go_wp2
      refine wp_region_ext (by kernel_rfl) (by kernel_rfl) ?_
      repeat (go_big_quiet_step (first | (go_at_call 75; exact Calls.sameR (IN _)) | (go_at_call 77; with_reducible exact Calls.extR (CL _ _)) | (go_at_call 77; with_reducible exact Calls.extR (CR _ _))))
      refine wpQuiet_nil ?_
      intro w2 hx2
      go_wp2
      go_ret
      exact ⟨by rw [HE.out]; rfl, hx2⟩
end Go.Proofs.YthhjbmlkncdigaaGreatDoor
end
