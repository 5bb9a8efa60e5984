/- Contracts of the reference's step of a machine that is a part of a maker.
Contracts of the reference's test of a configuration, and of its maker of the machine on one half of the tape. The machine is valid.
Contract of the reference's copy of a configuration; words for the list of a run's configurations. -/
import Derived.Test.YtfghojbbofobeaaGreatDoorW29
import Derived.Test.YtfghojbbofobeaaGreatDoorW07
import Derived.Test.YtfghojbbofobeaaGreatDoorW04
import Derived.Test.YtfghojbbofobeaaGreatDoorW35
import Derived.Test.YtfghojbbofobeaaGreatDoorW13
import Derived.Test.YtfghojbbofobeaaGreatDoorW12
section
set_option linter.unusedSimpArgs false
set_option linter.unusedVariables false
namespace Go.Proofs.YtfghojbbofobeaaGreatDoor
open Go Go.RowKit Go.Proofs
set_option maxHeartbeats 400000
/-- A machine that is a part of a maker. -/
def MachO (w : World) (b : Nat) (m : MachD) : Prop := ∃ rv, w.cell? ⟨b, 4, none⟩ = some (.int .i64 m.sy) ∧ w.cell? ⟨b, 5, none⟩ = some (.int .i64 m.st) ∧ w.cell? ⟨b, 6, none⟩ = some rv ∧ Rules w rv m.rules
theorem MachO.ext {w w' : World} {b : Nat} {m : MachD} (h : MachO w b m) (he : Ext w w') : MachO w' b m := by
  obtain ⟨rv, h0, h1, h2, h3⟩ := h
  exact ⟨rv, he.cell h0, he.cell h1, he.cell h2, h3.ext he⟩
theorem l05AtO_c (b bc : Nat) (m : MachD) (c : ConfR) (w : World) (hm : MachO w b m) (h : ConfAt w bc c) (q0 : 0 ≤ c.q) (q1 : c.q ≤ 1000) (s0 : 2 ≤ m.sy) (s1 : m.sy ≤ 6) (r0 : 0 ≤ hdR c.r) (r1 : hdR c.r ≤ 6) :
    Calls Tryz.prog 121 #[.pointer (some ⟨b, 4, none⟩), .pointer (some ⟨bc, 0, none⟩)] w fun e w' => e = .returned (.int .i64 (c.q * m.sy + hdR c.r)) ∧ Ext w w' := by
  have hC := h
  obtain ⟨rv, p0, _, _, _⟩ := hm
  obtain ⟨_, _, c0, _, _, _, _⟩ := h
  have d0 := cellR p0
  have d1 := cellR c0
  have hb : 0 ≤ c.q * m.sy ∧ c.q * m.sy ≤ 6000 := ⟨Int.mul_nonneg q0 (by omega), by
    have a1 := Int.mul_le_mul_of_nonneg_right q1 (show 0 ≤ m.sy by omega)
    have a2 := Int.mul_le_mul_of_nonneg_left s1 (show (0 : Int) ≤ 1000 by omega)
    omega⟩
  go_enter Tryz.func121, Tryz.ntmps121
  go_wp2
  refine wp_region_ext (by kernel_rfl) (by kernel_rfl) ?_
  repeat (go_big_quiet_step ((go_at_call 142; exact Calls.sameR (l05Head_c _ _ _ (hC.ext (below_regrown _ _ _))))))
  refine wpQuiet_nil ?_
  intro w2 hx2
  go_wp2
  go_ret
  exact ⟨rfl, hx2⟩
theorem l05AtKO_c (b bc : Nat) (m : MachD) (c : ConfR) (k : Nat) (w : World) (hm : MachO w b m) (h : ConfAt w bc c) (ok : COk m c k) :
    Calls Tryz.prog 121 #[.pointer (some ⟨b, 4, none⟩), .pointer (some ⟨bc, 0, none⟩)] w fun e w' => e = .returned (.int .i64 (k : Int)) ∧ Ext w w' := by
  rw [← ok.ke]
  exact l05AtO_c b bc m c w hm h ok.q0 ok.q1 ok.s0 ok.s1 ok.r0 ok.r1
set_option maxRecDepth 20000 in
theorem l05HaltsO_c (b bc : Nat) (m : MachD) (c : ConfR) (k : Nat) (w : World) (hm : MachO w b m) (h : ConfAt w bc c) (ok : COk m c k) :
    Calls Tryz.prog 91 #[.pointer (some ⟨b, 4, none⟩), .pointer (some ⟨bc, 0, none⟩)] w fun e w' => e = .returned (.bool (decide (m.rules[k]'ok.kl = noR))) ∧ Ext w w' := by
  have hM := hm
  obtain ⟨rv, p0, p1, p2, hr⟩ := hm
  obtain ⟨A, cap, rfl, h2, h2'⟩ := hr.form
  obtain ⟨b', off, rfl, hc⟩ := hr.at ok.kl
  obtain ⟨c0, c1, c2⟩ := hc k ok.kl
  have d0 := cellR c0
  have d1 := cellR c1
  have d2 := cellR c2
  have dM := cellR p2
  have rn := ruleEql_run
  have i1 : (0 : Int) ≤ (k : Int) := by omega
  have i2 : (k : Int) < (m.rules.length : Int) := by have := ok.kl; omega
  have HE : Hid (∀ q, rEq ⟨(m.rules[k]'ok.kl).w, (m.rules[k]'ok.kl).m, (m.rules[k]'ok.kl).n⟩ ⟨0, 0, -1⟩ = q → decide (m.rules[k]'ok.kl = noR) = q) := fun q h => by rw [← h]; rfl
  generalize m.rules[k]'ok.kl = ru at *
  clear c0 c1 c2 hc
  cases hq : rEq ⟨ru.w, ru.m, ru.n⟩ ⟨0, 0, -1⟩
  · go_enter Tryz.func91, Tryz.ntmps91
    go_wp2
    refine wp_region_ext (by kernel_rfl) (by kernel_rfl) ?_
    repeat (go_big_quiet_step ((first | (go_at_call 83; exact Calls.extR (l05None_c _)) | (go_at_call 121; exact Calls.extR (l05AtKO_c _ _ m c k _ (hM.ext (below_regrown _ _ _)) (h.ext (below_regrown _ _ _)) ok)))))
    refine wpQuiet_nil ?_
    intro w2 hx2
    go_wp2
    go_ret
    exact ⟨by rw [HE.out _ hq]; rfl, hx2⟩
  · go_enter Tryz.func91, Tryz.ntmps91
    go_wp2
    refine wp_region_ext (by kernel_rfl) (by kernel_rfl) ?_
    repeat (go_big_quiet_step ((first | (go_at_call 83; exact Calls.extR (l05None_c _)) | (go_at_call 121; exact Calls.extR (l05AtKO_c _ _ m c k _ (hM.ext (below_regrown _ _ _)) (h.ext (below_regrown _ _ _)) ok)))))
    refine wpQuiet_nil ?_
    intro w2 hx2
    go_wp2
    go_ret
    exact ⟨by rw [HE.out _ hq]; rfl, hx2⟩
set_option maxRecDepth 20000 in
set_option maxHeartbeats 4000000 in
theorem l05StepO_c (b bc : Nat) (m : MachD) (c : ConfR) (k : Nat) (w : World) (hm : MachO w b m) (h : ConfAt w bc c) (ok : COk m c k) (hl9 : c.l.length ≤ 200) :
    Calls Tryz.prog 92 #[.pointer (some ⟨b, 4, none⟩), .pointer (some ⟨bc, 0, none⟩)] w fun e w' => ∃ v, e = .returned (.tuple #[v, .bool (decide ((stepC (m.rules[k]'ok.kl) c).l.length ≤ 200) && decide ((stepC (m.rules[k]'ok.kl) c).r.length ≤ 200))]) ∧ ConfV w' v (stepC (m.rules[k]'ok.kl) c) ∧ Ext w w' := by
  obtain ⟨W, hW⟩ : ∃ W, W = w.alloc (.cells #[.int .i64 0, .slice none 0 0, .slice none 0 0] 52) := ⟨_, rfl⟩
  have hX : Ext w W := by rw [hW]; exact Ext.alloc _ _
  have bR : Blk W w.heap.size 52 #[.int .i64 0, .slice none 0 0, .slice none 0 0] := by rw [hW]; exact Blk.new _ _ _ _ rfl
  have hM := hm.ext hX
  have hC := h.ext hX
  have hM0 := hM
  have hM1 := hM.ext (Ext.drew _)
  have hC1 := hC.ext (Ext.drew _)
  have hM2 := (hM.ext (Ext.alloc _ (.cells #[.int .i64 0, .int .i64 0, .int .i64 0] 150))).ext (Ext.drew _)
  have hC2 := (hC.ext (Ext.alloc _ (.cells #[.int .i64 0, .int .i64 0, .int .i64 0] 150))).ext (Ext.drew _)
  obtain ⟨rv, p0, p1, p2, hr⟩ := hM
  obtain ⟨A, cap, rfl, h2, h2'⟩ := hr.form
  obtain ⟨b', off, rfl, hc⟩ := hr.at ok.kl
  obtain ⟨c0, c1, c2⟩ := hc k ok.kl
  have i1 : (0 : Int) ≤ (k : Int) := by omega
  have i2 : (k : Int) < (m.rules.length : Int) := by have := ok.kl; omega
  generalize m.rules[k]'ok.kl = ru at *
  clear hc
  go_enter Tryz.func92, Tryz.ntmps92
  go_wp2_with fail
  rw [← hW]
  clear hW
  go_region_held3 (fun w' => w'.cell? ⟨b, 6, none⟩ = some (.slice (some ⟨b', off, none⟩) m.rules.length cap) ∧ w'.cell? ⟨b', off + k * 3, none⟩ = some (.int .i64 ru.w) ∧ w'.cell? ⟨b', off + k * 3 + 1, none⟩ = some (.int .i64 ru.m) ∧ w'.cell? ⟨b', off + k * 3 + 2, none⟩ = some (.int .i64 ru.n))
    (first | go_keep | exact ⟨t0, t1, t2, t3⟩ | exact ⟨HX3.cell p2, HX3.cell c0, HX3.cell c1, HX3.cell c2⟩)
    (first
      | (go_at_call 121; ((with_reducible refine (l05AtKO_c _ _ m c k _ hM1 hC1 ok).mono ?_)); rintro e w2 ⟨rfl, hx2⟩; have HX2 := (Ext.drew W).trans hx2; have t0 := HX2.cell p2; have t1 := HX2.cell c0; have t2 := HX2.cell c1; have t3 := HX2.cell c2)
      | (go_at_call 121; ((with_reducible refine (l05AtKO_c _ _ m c k _ hM2 hC2 ok).mono ?_)); rintro e w2 ⟨rfl, hx2⟩; have HX2 := ((Ext.alloc W _).trans (Ext.drew _)).trans hx2; have bU := Blk.ext (Blk.ext (Blk.new W W.heap.size 150 #[.int .i64 0, .int .i64 0, .int .i64 0] rfl) (Ext.drew _)) hx2; have u0 := bU.cell 0; have u1 := bU.cell 1; have u2 := bU.cell 2; have f0 := bU.frozen 0; have f1 := bU.frozen 1; have f2 := bU.frozen 2; simp only [List.getElem?_toArray, List.getElem?_cons_zero, List.getElem?_cons_succ] at u0 u1 u2; have HX3 := ((HX2.setCell (p := ⟨W.heap.size, 0, none⟩) (Nat.le_refl _) (.int .i64 ru.w)).setCell (p := ⟨W.heap.size, 1, none⟩) (Nat.le_refl _) (.int .i64 ru.m)).setCell (p := ⟨W.heap.size, 2, none⟩) (Nat.le_refl _) (.int .i64 ru.n); have bV := ((bU.set_ 0 (.int .i64 ru.w)).set_ 1 (.int .i64 ru.m)).set_ 2 (.int .i64 ru.n); have t0 := HX2.cell p2; have t1 := HX2.cell c0; have t2 := HX2.cell c1; have t3 := HX2.cell c2))
  all_goals
    first
      | (show Exit.then _ _ _ _ (w2.alloc _); have HX3 := HX2.trans (Ext.alloc w2 (.cells #[.int .i64 ru.w, .int .i64 ru.m, .int .i64 ru.n] 150)); have bV := Blk.new w2 w2.heap.size 150 #[.int .i64 ru.w, .int .i64 ru.m, .int .i64 ru.n] rfl; generalize w2.alloc (.cells #[.int .i64 ru.w, .int .i64 ru.m, .int .i64 ru.n] 150) = V at *; generalize w2.heap.size = gr at *)
      | (generalize ((w2.setCell ⟨W.heap.size, 0, none⟩ (.int .i64 ru.w)).setCell ⟨W.heap.size, 1, none⟩ (.int .i64 ru.m)).setCell ⟨W.heap.size, 2, none⟩ (.int .i64 ru.n) = V at *; have bV' : Blk V W.heap.size 150 #[.int .i64 ru.w, .int .i64 ru.m, .int .i64 ru.n] := bV; clear bV; have bV := bV'; clear bV' bU u0 u1 u2 f0 f1 f2; generalize W.heap.size = gr at *)
    have hCV := hC.ext HX3
    have bRV := bR.ext HX3
    have hXV := hX.trans HX3
    have hgV := bRV.lt
    clear t0 t1 t2 t3 hM1 hM2 hC1 hC2 p0 p1 p2 c0 c1 c2 hr hx2 HX2 HX3
    obtain ⟨lv, rv, q0, q1, q2, hL, hR⟩ := hCV
    obtain ⟨AL, cL, rfl, _, _⟩ := hL.form
    obtain ⟨AR, cR, rfl, _, _⟩ := hR.form
    have g0 := bV.cell 0
    have g1 := bV.cell 1
    have g2 := bV.cell 2
    simp only [List.getElem?_toArray, List.getElem?_cons_zero, List.getElem?_cons_succ] at g0 g1 g2
    have ll := hl9
    have rl := ok.rl
    have hbc : bc < V.heap.size := World.block_lt_of_cell? V _ q0
    have hgr : gr < V.heap.size := bV.lt
    obtain ⟨V2, hV2⟩ : ∃ X, X = V.alloc (.cells #[.int .i64 ru.n, .slice none 0 0, .slice none 0 0] 52) := ⟨_, rfl⟩
    have EX2 : Ext V V2 := by rw [hV2]; exact Ext.alloc _ _
    have bO2 : Blk V2 V.heap.size 52 #[.int .i64 ru.n, .slice none 0 0, .slice none 0 0] := by rw [hV2]; exact Blk.new _ _ _ _ rfl
    have q2' := EX2.cell q2
    go_wp2_with fail
    rw [← hV2]
    clear hV2
    refine (l05Rest_c _ _ _ (hR.ext EX2) (by omega)).mono ?_
    rintro e w3 ⟨ur, rfl, ho3, hx3⟩
    obtain ⟨dr, hdr⟩ : ∃ d, d = List.drop 1 c.r := ⟨_, rfl⟩
    have hdl : dr.length ≤ 1000 := by rw [hdr]; simp; omega
    rw [← hdr] at ho3
    have HDR := Lib.hid hdr
    clear hdr
    have EX3 := EX2.trans hx3
    have bO3 := bO2.ext hx3
    obtain ⟨Au, cu, rfl, _, _⟩ := ho3.ints.form
    clear q2'
    by_cases hmv : 0 < ru.m
    · have e1 := EX3.cell g1
      have e0 := EX3.cell g0
      have eq1 := EX3.cell q1
      have hL4 := (hL.ext EX3).ext (Ext.drew _)
      have ne1 : gr ≠ V.heap.size := by omega
      have ne2 : bc ≠ V.heap.size := by omega
      go_wp2_with fail
      go_region_held3 (fun w' => w'.cell? ⟨gr, 0, none⟩ = some (.int .i64 ru.w) ∧ w'.cell? ⟨bc, 1, none⟩ = some (.slice AL c.l.length cL))
        (first | go_keep | exact ⟨EX4.cell g0, EX4.cell q1⟩ | exact ⟨EX5.cell g0, EX5.cell q1⟩)
        ((go_at_call 123; ((with_reducible refine (l05Push_c ru.w _ c.l _ hL4 (by omega)).mono ?_)); rintro e w4 ⟨ul, rfl, ho4, hx4⟩; obtain ⟨Al4, cl4, rfl, _, _⟩ := ho4.ints.form; have EX4 := (EX3.trans (Ext.drew w3)).trans hx4; have bO4 := Blk.ext (Blk.ext bO3 (Ext.drew w3)) hx4; have o1 := bO4.cell 1; have of1 := bO4.frozen 1; have EX5 := EX4.setCell (p := ⟨V.heap.size, 1, none⟩) (Nat.le_refl _) (.slice Al4 (trim (ru.w :: c.l)).length cl4); have bO5 := bO4.set_ 1 (.slice Al4 (trim (ru.w :: c.l)).length cl4); simp only [List.getElem?_toArray, List.getElem?_cons_zero, List.getElem?_cons_succ] at o1))
      all_goals
        have o4 : OwnInts _ _ _ _ := ownsRow_far ho4 (own_far_blk ho4 bO4 (by decide)) (.slice Al4 (trim (ru.w :: c.l)).length cl4) (p := ⟨V.heap.size, 1, none⟩)
        have o3 : OwnInts _ _ _ _ := ownsRow_far ((OwnInts.ext ho3 (Ext.drew w3)).ext hx4) (own_far_blk ((OwnInts.ext ho3 (Ext.drew w3)).ext hx4) bO4 (by decide)) (.slice Al4 (trim (ru.w :: c.l)).length cl4) (p := ⟨V.heap.size, 1, none⟩)
        have o4' : OwnInts _ _ _ (trim (ru.w :: c.l)) := ownsRow_far o4 (own_far_blk o4 bO5 (by decide)) (.slice Au dr.length cu) (p := ⟨V.heap.size, 2, none⟩)
        have o3' : OwnInts _ _ _ dr := ownsRow_far o3 (own_far_blk o3 bO5 (by decide)) (.slice Au dr.length cu) (p := ⟨V.heap.size, 2, none⟩)
        have EX := EX5.setCell (p := ⟨V.heap.size, 2, none⟩) (Nat.le_refl _) (.slice Au dr.length cu)
        have bO5' : Blk (w4.setCell ⟨V.heap.size, 1, none⟩ (.slice Al4 (trim (ru.w :: c.l)).length cl4)) V.heap.size 52 #[.int .i64 ru.n, .slice Al4 (trim (ru.w :: c.l)).length cl4, .slice none 0 0] := bO5
        have v0 := bO5'.cell 2
        have vf := bO5'.frozen 2
        simp only [List.getElem?_toArray, List.getElem?_cons_zero, List.getElem?_cons_succ] at v0
        have bO : Blk ((w4.setCell ⟨V.heap.size, 1, none⟩ (.slice Al4 (trim (ru.w :: c.l)).length cl4)).setCell ⟨V.heap.size, 2, none⟩ (.slice Au dr.length cu)) V.heap.size 52 #[.int .i64 ru.n, .slice Al4 (trim (ru.w :: c.l)).length cl4, .slice Au dr.length cu] := bO5'.set_ 2 (.slice Au dr.length cu)
        go_wp2_with fail
        generalize (w4.setCell ⟨V.heap.size, 1, none⟩ (.slice Al4 (trim (ru.w :: c.l)).length cl4)).setCell ⟨V.heap.size, 2, none⟩ (.slice Au dr.length cu) = X at *
        have hXX := hXV.trans EX
        have bRX := bRV.ext EX
        obtain ⟨D1, D2⟩ := conf_done (n := ru.n) hXX (Nat.le_refl _) bRX o4' o3'
        have HD1 : Hid (ConfV (((X.setCell ⟨w.heap.size, 0, none⟩ (.int .i64 ru.n)).setCell ⟨w.heap.size, 1, none⟩ (.slice Al4 (trim (ru.w :: c.l)).length cl4)).setCell ⟨w.heap.size, 2, none⟩ (.slice Au (dr).length cu)) (.agg #[.int .i64 ru.n, .slice Al4 (trim (ru.w :: c.l)).length cl4, .slice Au (dr).length cu]) (stepC ru c)) := by
          unfold Hid stepC
          rw [if_pos hmv, ← HDR.out]
          exact D1
        have HD2 := Lib.hid D2
        have HSL : Hid ((stepC ru c).l.length = (trim (ru.w :: c.l)).length) := by unfold Hid stepC; rw [if_pos hmv, ← HDR.out]
        have HSR : Hid ((stepC ru c).r.length = (dr).length) := by unfold Hid stepC; rw [if_pos hmv, ← HDR.out]
        have ln1 : (trim (ru.w :: c.l)).length ≤ 9223372036854775807 := by have := trim_len (ru.w :: c.l); simp at this; omega
        have ln2 : (dr).length ≤ 9223372036854775807 := by omega
        clear D1 D2 o4' o3'
        generalize (trim (ru.w :: c.l)).length = nl at *
        generalize (dr).length = nr at *
        have eO0 := bO.cell 0
        have eO1 := bO.cell 1
        have eO2 := bO.cell 2
        have r0 := bRX.cell 0
        have r1 := bRX.cell 1
        have r2 := bRX.cell 2
        have rf0 := bRX.frozen 0
        have rf1 := bRX.frozen 1
        have rf2 := bRX.frozen 2
        simp only [List.getElem?_toArray, List.getElem?_cons_zero, List.getElem?_cons_succ] at eO0 eO1 eO2 r0 r1 r2
        have neg : w.heap.size ≠ V.heap.size := by omega
        have bOf := ((bO.far (p := ⟨w.heap.size, 0, none⟩) neg.symm (.int .i64 ru.n)).far (p := ⟨w.heap.size, 1, none⟩) neg.symm (.slice Al4 nl cl4)).far (p := ⟨w.heap.size, 2, none⟩) neg.symm (.slice Au nr cu)
        have y0 := bOf.cell 0
        have y1 := bOf.cell 1
        have y2 := bOf.cell 2
        simp only [List.getElem?_toArray, List.getElem?_cons_zero, List.getElem?_cons_succ] at y0 y1 y2
        have d := (((bRX.set_ 0 (.int .i64 ru.n)).set_ 1 (.slice Al4 nl cl4)).set_ 2 (.slice Au nr cu)).cell
        by_cases hl1 : nl ≤ 200
        · have L1 : decide ((nl : Int) ≤ 200) = true := by simp; omega
          have L1' : decide (nl ≤ 200) = true := by simp; omega
          have HL1 := Lib.hid hl1
          clear hl1
          by_cases hl2 : nr ≤ 200
          · have L2 : decide ((nr : Int) ≤ 200) = true := by simp; omega
            have L2' : decide (nr ≤ 200) = true := by simp; omega
            have HL2 := Lib.hid hl2
            clear hl2
            go_region_held3 (fun w' => w'.cell? ⟨V.heap.size, 0, none⟩ = some (.int .i64 ru.n) ∧ w'.cell? ⟨V.heap.size, 1, none⟩ = some (.slice Al4 nl cl4) ∧ w'.cell? ⟨V.heap.size, 2, none⟩ = some (.slice Au nr cu)) (first | go_keep | exact ⟨y0, y1, y2⟩) (fail)
            all_goals
              go_wp2
              refine bodyPost_ret (v := .tuple #[.agg #[.int .i64 ru.n, .slice Al4 nl cl4, .slice Au nr cu], .bool true]) (by simp [results, Tryz.results92, go_sem, d]) rfl ⟨_, ?_, by first | exact HD1.out | exact HD1.out.ext (Ext.drew _), by first | exact HD2.out | exact HD2.out.trans (Ext.drew _)⟩
              simp [HSL.out, HSR.out, HL1.out, HL2.out]
          · have L2 : decide ((nr : Int) ≤ 200) = false := by simp; omega
            have L2' : decide (nr ≤ 200) = false := by simp; omega
            have HL2 := Lib.hid hl2
            clear hl2
            go_region_held3 (fun w' => w'.cell? ⟨V.heap.size, 0, none⟩ = some (.int .i64 ru.n) ∧ w'.cell? ⟨V.heap.size, 1, none⟩ = some (.slice Al4 nl cl4) ∧ w'.cell? ⟨V.heap.size, 2, none⟩ = some (.slice Au nr cu)) (first | go_keep | exact ⟨y0, y1, y2⟩) (fail)
            all_goals
              go_wp2
              refine bodyPost_ret (v := .tuple #[.agg #[.int .i64 ru.n, .slice Al4 nl cl4, .slice Au nr cu], .bool false]) (by simp [results, Tryz.results92, go_sem, d]) rfl ⟨_, ?_, by first | exact HD1.out | exact HD1.out.ext (Ext.drew _), by first | exact HD2.out | exact HD2.out.trans (Ext.drew _)⟩
              simp [HSL.out, HSR.out, HL1.out, HL2.out]
        · have L1 : decide ((nl : Int) ≤ 200) = false := by simp; omega
          have L1' : decide (nl ≤ 200) = false := by simp; omega
          have HL1 := Lib.hid hl1
          clear hl1
          refine wp_region_ordTS (fun w' => w'.cell? ⟨V.heap.size, 0, none⟩ = some (.int .i64 ru.n) ∧ w'.cell? ⟨V.heap.size, 1, none⟩ = some (.slice Al4 nl cl4) ∧ w'.cell? ⟨V.heap.size, 2, none⟩ = some (.slice Au nr cu)) 12 (readsT [0, 1, 2, 3, 4, 5, 6, 7, 8, 9, 10] (.stir 11 .done)) (by kernel_rfl) (by kernel_rfl) (fun _ _ _ _ _ h => h) ⟨eO0, eO1, eO2⟩ ?_
          simp only [readsT]
          iterate 6
            refine wpOrdT_read (v := ?_) (by rfl) (Or.inl ⟨by rfl, fun x hx => ?_⟩) ?_
            rotate_left
            · obtain ⟨a1, a2, a3⟩ := hx
              go_simp
              try simp only [L1]
              try with_reducible rfl
            try simp only [Act.put, List.setIfInBounds_toArray, List.set_cons_zero, List.set_cons_succ]
          iterate 4
            refine wpOrdT_read (v := undef) (by rfl) (Or.inr ⟨by rfl, by rfl⟩) ?_
            try simp only [Act.put, List.setIfInBounds_toArray, List.set_cons_zero, List.set_cons_succ]
          refine wpOrdT_read (v := ?_) (by rfl) (Or.inl ⟨by rfl, fun x hx => ?_⟩) ?_
          rotate_left
          · go_simp
            try with_reducible rfl
          try simp only [Act.put, List.setIfInBounds_toArray, List.set_cons_zero, List.set_cons_succ]
          refine wpOrdT_keep (by rfl) (fun K hK => ?_)
          go_simp
          refine hK _ _ ⟨y0, y1, y2⟩ ?_
          clear hK K
          refine wpOrdT_done ?_
          try simp only [List.drop_succ_cons, List.drop_zero]
          go_wp2
          refine bodyPost_ret (v := .tuple #[.agg #[.int .i64 ru.n, .slice Al4 nl cl4, .slice Au nr cu], .bool false]) (by simp [results, Tryz.results92, go_sem, d]) rfl ⟨_, ?_, by first | exact HD1.out | exact HD1.out.ext (Ext.drew _), by first | exact HD2.out | exact HD2.out.trans (Ext.drew _)⟩
          simp [HSL.out, HSR.out, HL1.out]
    · have e1 := EX3.cell g1
      have e0 := EX3.cell g0
      have eq1 := EX3.cell q1
      have hdm : decide (0 < ru.m) = false := by simp; omega
      have ho3l := dr.length
      by_cases hll : c.l.length = 0
      · have hz : c.l = [] := by simpa using hll
        have HN : Hid (hdR c.l = 0) := by unfold Hid; rw [hz]; rfl
        have hzd : decide ((0 : Int) < (c.l.length : Int)) = false := by simp; omega
        have hzd' : decide (0 < c.l.length) = false := by simp; omega
        clear hz hll
        go_wp2_with fail
        refine (l05Push_c ru.w _ dr _ ho3.ints (by omega)).mono ?_
        rintro e w4 ⟨u4, rfl, ho4, hx4⟩
        have hl4 := trim_len (ru.w :: dr)
        simp only [List.length_cons] at hl4
        obtain ⟨A4, c4, rfl, _, _⟩ := ho4.ints.form
        go_wp2_with fail
        refine (l05Push_c 0 _ _ _ ho4.ints (by omega)).mono ?_
        rintro e w5 ⟨u5, rfl, ho5, hx5⟩
        have hl5 := trim_len (0 :: trim (ru.w :: dr))
        simp only [List.length_cons] at hl5
        obtain ⟨A5, c5, rfl, _, _⟩ := ho5.ints.form
        have EX5 := (EX3.trans hx4).trans hx5
        have bO5 := (bO3.ext hx4).ext hx5
        generalize hrr : trim (0 :: trim (ru.w :: dr)) = rr at *
        have HRR := Lib.hid hrr
        clear hrr
        have v0 := bO5.cell 2
        have vf := bO5.frozen 2
        simp only [List.getElem?_toArray, List.getElem?_cons_zero, List.getElem?_cons_succ] at v0
        have o5 : OwnInts _ _ _ rr := ownsRow_far ho5 (own_far_blk ho5 bO5 (by decide)) (.slice A5 rr.length c5) (p := ⟨V.heap.size, 2, none⟩)
        have EX6 := EX5.setCell (p := ⟨V.heap.size, 2, none⟩) (Nat.le_refl _) (.slice A5 rr.length c5)
        have bO6 : Blk (w5.setCell ⟨V.heap.size, 2, none⟩ (.slice A5 rr.length c5)) V.heap.size 52 #[.int .i64 ru.n, .slice none 0 0, .slice A5 rr.length c5] := bO5.set_ 2 (.slice A5 rr.length c5)
        have eq6 := EX6.cell q1
        go_wp2_with fail
        generalize w5.setCell ⟨V.heap.size, 2, none⟩ (.slice A5 rr.length c5) = w6 at *
        refine (l05Rest_c _ _ _ (hL.ext EX6) (by omega)).mono ?_
        rintro e w7 ⟨u7, rfl, ho7, hx7⟩
        obtain ⟨dl, hdl'⟩ : ∃ d, d = List.drop 1 c.l := ⟨_, rfl⟩
        have hdll : dl.length ≤ 199 := by rw [hdl']; simp; omega
        rw [← hdl'] at ho7
        have HDL := Lib.hid hdl'
        clear hdl'
        obtain ⟨A7, c7, rfl, _, _⟩ := ho7.ints.form
        have EX7 := EX6.trans hx7
        have bO7 := bO6.ext hx7
        have o5' := OwnInts.ext o5 hx7
        have v1 := bO7.cell 1
        have vf1 := bO7.frozen 1
        simp only [List.getElem?_toArray, List.getElem?_cons_zero, List.getElem?_cons_succ] at v1
        have oL : OwnInts _ _ _ dl := ownsRow_far ho7 (own_far_blk ho7 bO7 (by decide)) (.slice A7 dl.length c7) (p := ⟨V.heap.size, 1, none⟩)
        have oR : OwnInts _ _ _ rr := ownsRow_far o5' (own_far_blk o5' bO7 (by decide)) (.slice A7 dl.length c7) (p := ⟨V.heap.size, 1, none⟩)
        have EX := EX7.setCell (p := ⟨V.heap.size, 1, none⟩) (Nat.le_refl _) (.slice A7 dl.length c7)
        have bO : Blk (w7.setCell ⟨V.heap.size, 1, none⟩ (.slice A7 dl.length c7)) V.heap.size 52 #[.int .i64 ru.n, .slice A7 dl.length c7, .slice A5 rr.length c5] := bO7.set_ 1 (.slice A7 dl.length c7)
        go_wp2_with fail
        generalize w7.setCell ⟨V.heap.size, 1, none⟩ (.slice A7 dl.length c7) = X at *
        have hXX := hXV.trans EX
        have bRX := bRV.ext EX
        obtain ⟨D1, D2⟩ := conf_done (n := ru.n) hXX (Nat.le_refl _) bRX oL oR
        have HD1 : Hid (ConfV (((X.setCell ⟨w.heap.size, 0, none⟩ (.int .i64 ru.n)).setCell ⟨w.heap.size, 1, none⟩ (.slice A7 (dl).length c7)).setCell ⟨w.heap.size, 2, none⟩ (.slice A5 (rr).length c5)) (.agg #[.int .i64 ru.n, .slice A7 (dl).length c7, .slice A5 (rr).length c5]) (stepC ru c)) := by
          unfold Hid stepC
          rw [if_neg (by omega), ← HDL.out, ← HDR.out, HN.out, HRR.out]
          exact D1
        have HD2 := Lib.hid D2
        have HSL : Hid ((stepC ru c).l.length = (dl).length) := by unfold Hid stepC; rw [if_neg (by omega), ← HDL.out, ← HDR.out, HN.out, HRR.out]
        have HSR : Hid ((stepC ru c).r.length = (rr).length) := by unfold Hid stepC; rw [if_neg (by omega), ← HDL.out, ← HDR.out, HN.out, HRR.out]
        have ln1 : (dl).length ≤ 9223372036854775807 := by omega
        have ln2 : (rr).length ≤ 9223372036854775807 := by omega
        have LN : (dl).length ≤ 200 := by omega
        clear D1 D2 oL oR
        generalize (dl).length = nl at *
        generalize (rr).length = nr at *
        have eO0 := bO.cell 0
        have eO1 := bO.cell 1
        have eO2 := bO.cell 2
        have r0 := bRX.cell 0
        have r1 := bRX.cell 1
        have r2 := bRX.cell 2
        have rf0 := bRX.frozen 0
        have rf1 := bRX.frozen 1
        have rf2 := bRX.frozen 2
        simp only [List.getElem?_toArray, List.getElem?_cons_zero, List.getElem?_cons_succ] at eO0 eO1 eO2 r0 r1 r2
        have neg : w.heap.size ≠ V.heap.size := by omega
        have bOf := ((bO.far (p := ⟨w.heap.size, 0, none⟩) neg.symm (.int .i64 ru.n)).far (p := ⟨w.heap.size, 1, none⟩) neg.symm (.slice A7 nl c7)).far (p := ⟨w.heap.size, 2, none⟩) neg.symm (.slice A5 nr c5)
        have y0 := bOf.cell 0
        have y1 := bOf.cell 1
        have y2 := bOf.cell 2
        simp only [List.getElem?_toArray, List.getElem?_cons_zero, List.getElem?_cons_succ] at y0 y1 y2
        have d := (((bRX.set_ 0 (.int .i64 ru.n)).set_ 1 (.slice A7 nl c7)).set_ 2 (.slice A5 nr c5)).cell
        by_cases hl1 : nl ≤ 200
        · have L1 : decide ((nl : Int) ≤ 200) = true := by simp; omega
          have L1' : decide (nl ≤ 200) = true := by simp; omega
          have HL1 := Lib.hid hl1
          clear hl1
          by_cases hl2 : nr ≤ 200
          · have L2 : decide ((nr : Int) ≤ 200) = true := by simp; omega
            have L2' : decide (nr ≤ 200) = true := by simp; omega
            have HL2 := Lib.hid hl2
            clear hl2
            go_region_held3 (fun w' => w'.cell? ⟨V.heap.size, 0, none⟩ = some (.int .i64 ru.n) ∧ w'.cell? ⟨V.heap.size, 1, none⟩ = some (.slice A7 nl c7) ∧ w'.cell? ⟨V.heap.size, 2, none⟩ = some (.slice A5 nr c5)) (first | go_keep | exact ⟨y0, y1, y2⟩) (fail)
            all_goals
              go_wp2
              refine bodyPost_ret (v := .tuple #[.agg #[.int .i64 ru.n, .slice A7 nl c7, .slice A5 nr c5], .bool true]) (by simp [results, Tryz.results92, go_sem, d]) rfl ⟨_, ?_, by first | exact HD1.out | exact HD1.out.ext (Ext.drew _), by first | exact HD2.out | exact HD2.out.trans (Ext.drew _)⟩
              simp [HSL.out, HSR.out, HL1.out, HL2.out]
          · have L2 : decide ((nr : Int) ≤ 200) = false := by simp; omega
            have L2' : decide (nr ≤ 200) = false := by simp; omega
            have HL2 := Lib.hid hl2
            clear hl2
            go_region_held3 (fun w' => w'.cell? ⟨V.heap.size, 0, none⟩ = some (.int .i64 ru.n) ∧ w'.cell? ⟨V.heap.size, 1, none⟩ = some (.slice A7 nl c7) ∧ w'.cell? ⟨V.heap.size, 2, none⟩ = some (.slice A5 nr c5)) (first | go_keep | exact ⟨y0, y1, y2⟩) (fail)
            all_goals
              go_wp2
              refine bodyPost_ret (v := .tuple #[.agg #[.int .i64 ru.n, .slice A7 nl c7, .slice A5 nr c5], .bool false]) (by simp [results, Tryz.results92, go_sem, d]) rfl ⟨_, ?_, by first | exact HD1.out | exact HD1.out.ext (Ext.drew _), by first | exact HD2.out | exact HD2.out.trans (Ext.drew _)⟩
              simp [HSL.out, HSR.out, HL1.out, HL2.out]
        · exact absurd LN hl1
      · obtain ⟨bl, ol, rfl, hcl⟩ := hL.at (k := 0) (by omega)
        have dl0 := EX3.cell (hcl 0 (by omega))
        simp only [Nat.add_zero] at dl0
        have HN : Hid (hdR c.l = c.l[0]) := by unfold Hid hdR; rw [List.getD_eq_getElem?_getD, List.getElem?_eq_getElem (by omega)]; rfl
        have hl0 : (0 : Int) < (c.l.length : Int) := by omega
        generalize c.l[0] = near at *
        clear hcl
        go_wp2_with fail
        refine (l05Push_c ru.w _ dr _ ho3.ints (by omega)).mono ?_
        rintro e w4 ⟨u4, rfl, ho4, hx4⟩
        have hl4 := trim_len (ru.w :: dr)
        simp only [List.length_cons] at hl4
        obtain ⟨A4, c4, rfl, _, _⟩ := ho4.ints.form
        go_wp2_with fail
        refine (l05Push_c near _ _ _ ho4.ints (by omega)).mono ?_
        rintro e w5 ⟨u5, rfl, ho5, hx5⟩
        have hl5 := trim_len (near :: trim (ru.w :: dr))
        simp only [List.length_cons] at hl5
        obtain ⟨A5, c5, rfl, _, _⟩ := ho5.ints.form
        have EX5 := (EX3.trans hx4).trans hx5
        have bO5 := (bO3.ext hx4).ext hx5
        generalize hrr : trim (near :: trim (ru.w :: dr)) = rr at *
        have HRR := Lib.hid hrr
        clear hrr
        have v0 := bO5.cell 2
        have vf := bO5.frozen 2
        simp only [List.getElem?_toArray, List.getElem?_cons_zero, List.getElem?_cons_succ] at v0
        have o5 : OwnInts _ _ _ rr := ownsRow_far ho5 (own_far_blk ho5 bO5 (by decide)) (.slice A5 rr.length c5) (p := ⟨V.heap.size, 2, none⟩)
        have EX6 := EX5.setCell (p := ⟨V.heap.size, 2, none⟩) (Nat.le_refl _) (.slice A5 rr.length c5)
        have bO6 : Blk (w5.setCell ⟨V.heap.size, 2, none⟩ (.slice A5 rr.length c5)) V.heap.size 52 #[.int .i64 ru.n, .slice none 0 0, .slice A5 rr.length c5] := bO5.set_ 2 (.slice A5 rr.length c5)
        have eq6 := EX6.cell q1
        go_wp2_with fail
        generalize w5.setCell ⟨V.heap.size, 2, none⟩ (.slice A5 rr.length c5) = w6 at *
        refine (l05Rest_c _ _ _ (hL.ext EX6) (by omega)).mono ?_
        rintro e w7 ⟨u7, rfl, ho7, hx7⟩
        obtain ⟨dl, hdl'⟩ : ∃ d, d = List.drop 1 c.l := ⟨_, rfl⟩
        have hdll : dl.length ≤ 199 := by rw [hdl']; simp; omega
        rw [← hdl'] at ho7
        have HDL := Lib.hid hdl'
        clear hdl'
        obtain ⟨A7, c7, rfl, _, _⟩ := ho7.ints.form
        have EX7 := EX6.trans hx7
        have bO7 := bO6.ext hx7
        have o5' := OwnInts.ext o5 hx7
        have v1 := bO7.cell 1
        have vf1 := bO7.frozen 1
        simp only [List.getElem?_toArray, List.getElem?_cons_zero, List.getElem?_cons_succ] at v1
        have oL : OwnInts _ _ _ dl := ownsRow_far ho7 (own_far_blk ho7 bO7 (by decide)) (.slice A7 dl.length c7) (p := ⟨V.heap.size, 1, none⟩)
        have oR : OwnInts _ _ _ rr := ownsRow_far o5' (own_far_blk o5' bO7 (by decide)) (.slice A7 dl.length c7) (p := ⟨V.heap.size, 1, none⟩)
        have EX := EX7.setCell (p := ⟨V.heap.size, 1, none⟩) (Nat.le_refl _) (.slice A7 dl.length c7)
        have bO : Blk (w7.setCell ⟨V.heap.size, 1, none⟩ (.slice A7 dl.length c7)) V.heap.size 52 #[.int .i64 ru.n, .slice A7 dl.length c7, .slice A5 rr.length c5] := bO7.set_ 1 (.slice A7 dl.length c7)
        go_wp2_with fail
        generalize w7.setCell ⟨V.heap.size, 1, none⟩ (.slice A7 dl.length c7) = X at *
        have hXX := hXV.trans EX
        have bRX := bRV.ext EX
        obtain ⟨D1, D2⟩ := conf_done (n := ru.n) hXX (Nat.le_refl _) bRX oL oR
        have HD1 : Hid (ConfV (((X.setCell ⟨w.heap.size, 0, none⟩ (.int .i64 ru.n)).setCell ⟨w.heap.size, 1, none⟩ (.slice A7 (dl).length c7)).setCell ⟨w.heap.size, 2, none⟩ (.slice A5 (rr).length c5)) (.agg #[.int .i64 ru.n, .slice A7 (dl).length c7, .slice A5 (rr).length c5]) (stepC ru c)) := by
          unfold Hid stepC
          rw [if_neg (by omega), ← HDL.out, ← HDR.out, HN.out, HRR.out]
          exact D1
        have HD2 := Lib.hid D2
        have HSL : Hid ((stepC ru c).l.length = (dl).length) := by unfold Hid stepC; rw [if_neg (by omega), ← HDL.out, ← HDR.out, HN.out, HRR.out]
        have HSR : Hid ((stepC ru c).r.length = (rr).length) := by unfold Hid stepC; rw [if_neg (by omega), ← HDL.out, ← HDR.out, HN.out, HRR.out]
        have ln1 : (dl).length ≤ 9223372036854775807 := by omega
        have ln2 : (rr).length ≤ 9223372036854775807 := by omega
        have LN : (dl).length ≤ 200 := by omega
        clear D1 D2 oL oR
        generalize (dl).length = nl at *
        generalize (rr).length = nr at *
        have eO0 := bO.cell 0
        have eO1 := bO.cell 1
        have eO2 := bO.cell 2
        have r0 := bRX.cell 0
        have r1 := bRX.cell 1
        have r2 := bRX.cell 2
        have rf0 := bRX.frozen 0
        have rf1 := bRX.frozen 1
        have rf2 := bRX.frozen 2
        simp only [List.getElem?_toArray, List.getElem?_cons_zero, List.getElem?_cons_succ] at eO0 eO1 eO2 r0 r1 r2
        have neg : w.heap.size ≠ V.heap.size := by omega
        have bOf := ((bO.far (p := ⟨w.heap.size, 0, none⟩) neg.symm (.int .i64 ru.n)).far (p := ⟨w.heap.size, 1, none⟩) neg.symm (.slice A7 nl c7)).far (p := ⟨w.heap.size, 2, none⟩) neg.symm (.slice A5 nr c5)
        have y0 := bOf.cell 0
        have y1 := bOf.cell 1
        have y2 := bOf.cell 2
        simp only [List.getElem?_toArray, List.getElem?_cons_zero, List.getElem?_cons_succ] at y0 y1 y2
        have d := (((bRX.set_ 0 (.int .i64 ru.n)).set_ 1 (.slice A7 nl c7)).set_ 2 (.slice A5 nr c5)).cell
        by_cases hl1 : nl ≤ 200
        · have L1 : decide ((nl : Int) ≤ 200) = true := by simp; omega
          have L1' : decide (nl ≤ 200) = true := by simp; omega
          have HL1 := Lib.hid hl1
          clear hl1
          by_cases hl2 : nr ≤ 200
          · have L2 : decide ((nr : Int) ≤ 200) = true := by simp; omega
            have L2' : decide (nr ≤ 200) = true := by simp; omega
            have HL2 := Lib.hid hl2
            clear hl2
            go_region_held3 (fun w' => w'.cell? ⟨V.heap.size, 0, none⟩ = some (.int .i64 ru.n) ∧ w'.cell? ⟨V.heap.size, 1, none⟩ = some (.slice A7 nl c7) ∧ w'.cell? ⟨V.heap.size, 2, none⟩ = some (.slice A5 nr c5)) (first | go_keep | exact ⟨y0, y1, y2⟩) (fail)
            all_goals
              go_wp2
              refine bodyPost_ret (v := .tuple #[.agg #[.int .i64 ru.n, .slice A7 nl c7, .slice A5 nr c5], .bool true]) (by simp [results, Tryz.results92, go_sem, d]) rfl ⟨_, ?_, by first | exact HD1.out | exact HD1.out.ext (Ext.drew _), by first | exact HD2.out | exact HD2.out.trans (Ext.drew _)⟩
              simp [HSL.out, HSR.out, HL1.out, HL2.out]
          · have L2 : decide ((nr : Int) ≤ 200) = false := by simp; omega
            have L2' : decide (nr ≤ 200) = false := by simp; omega
            have HL2 := Lib.hid hl2
            clear hl2
            go_region_held3 (fun w' => w'.cell? ⟨V.heap.size, 0, none⟩ = some (.int .i64 ru.n) ∧ w'.cell? ⟨V.heap.size, 1, none⟩ = some (.slice A7 nl c7) ∧ w'.cell? ⟨V.heap.size, 2, none⟩ = some (.slice A5 nr c5)) (first | go_keep | exact ⟨y0, y1, y2⟩) (fail)
            all_goals
              go_wp2
              refine bodyPost_ret (v := .tuple #[.agg #[.int .i64 ru.n, .slice A7 nl c7, .slice A5 nr c5], .bool false]) (by simp [results, Tryz.results92, go_sem, d]) rfl ⟨_, ?_, by first | exact HD1.out | exact HD1.out.ext (Ext.drew _), by first | exact HD2.out | exact HD2.out.trans (Ext.drew _)⟩
              simp [HSL.out, HSR.out, HL1.out, HL2.out]
        · exact absurd LN hl1
end Go.Proofs.YtfghojbbofobeaaGreatDoor
end
section
set_option linter.unusedSimpArgs false
set_option linter.unusedVariables false
namespace Go.Proofs.YtfghojbbofobeaaGreatDoor
open Go Go.RowKit Go.Proofs
set_option maxHeartbeats 400000
theorem sideOk_nolast {zs : List Int} {sy : Int} (h : (zs.all fun z => inB z 0 (sy - 1)) = false) : sideOk zs sy 200 = false := by simp only [sideOk, h]; simp
set_option maxRecDepth 20000 in
theorem l05Cells_c (b o : Nat) (sy : Int) (v : Value) (zs : List Int) (w : World) (hsy : w.cell? ⟨b, o, none⟩ = some (.int .i64 sy)) (h : Ints w v zs) (s1 : 1 ≤ sy) (s2 : sy ≤ 1000000) :
    Calls Tryz.prog 93 #[.pointer (some ⟨b, o, none⟩), v] w fun e w' => e = .returned (.bool (sideOk zs sy 200)) ∧ Ext w w' := by
  obtain ⟨A, c, rfl, h2, h2'⟩ := h.form
  go_enter Tryz.func93, Tryz.ntmps93
  go_wp2
  go_loopw [5] (fun i wr => ∃ k : Nat, k ≤ zs.length ∧ i = .int .i64 k ∧ Ext w wr ∧ Hid (allTo (fun z => inB z 0 (sy - 1)) zs k)) (fun i _ => zs.length - (intOf i).toNat)
  case atStart => exact ⟨0, Nat.zero_le _, rfl, Ext.refl _, by unfold Hid allTo; simp⟩
  case round =>
    obtain ⟨k, hk, rfl, hx, hall⟩ := hrel
    by_cases hlt : k < zs.length
    · obtain ⟨b', off, rfl, hc⟩ := (h.ext hx).at hlt
      have c0 := cellR (hc k hlt)
      have d0 := cellR (hx.cell hsy)
      have HY := fun he => Lib.hid (allTo_step (p := fun z => inB z 0 (sy - 1)) hall.out hlt he)
      have HN := fun he => Lib.hid (sideOk_nolast (sy := sy) (all_no (p := fun z => inB z 0 (sy - 1)) hlt he))
      generalize zs[k] = z at *
      clear hc
      go_wp2_with fail
      refine wp_region_ext (by kernel_rfl) (by kernel_rfl) ?_
      repeat (go_big_quiet_step ((go_at_call 45; exact Calls.sameR (l00In_c _ _ _ _))))
      refine wpQuiet_nil ?_
      intro w2 hx2
      have hX := hx.trans hx2
      cases hb : inB z 0 (sy - 1) with
      | true =>
        have HY2 := HY hb
        clear HY HN
        go_wp2
        go_roundw
        case rel => exact ⟨k + 1, by omega, by go_num, hX, HY2⟩
        case measure => simp [intOf]; omega
      | false =>
        have HN2 := HN hb
        clear HY HN
        go_wp2
        go_ret
        exact ⟨by rw [HN2.out]; rfl, hX⟩
    · have HA := Lib.hid (allTo_end hall.out (by omega))
      by_cases hl : (zs.length : Int) ≤ 200
      · have hld : decide ((zs.length : Int) ≤ 200) = true := by simp [hl]
        by_cases hz : zs.length = 0
        · have hzb : ((zs.length : Int) == 0) = true := by simp [hz]
          have HE : Hid (sideOk zs sy 200 = true) := by unfold Hid; simp only [sideOk, HA.out, hzb, hld]; rfl
          clear hz
          go_wp2
          go_ret
          exact ⟨by rw [HE.out]; rfl, hx⟩
        · have hzb : ((zs.length : Int) == 0) = false := by rw [beq_eq_false_iff_ne]; omega
          have hl1 : zs.length - 1 < zs.length := by omega
          obtain ⟨b', off, rfl, hc⟩ := (h.ext hx).at hl1
          have c0 := hc (zs.length - 1) hl1
          have HE : Hid (sideOk zs sy 200 = (zs[zs.length - 1] != 0)) := by unfold Hid; simp only [sideOk, HA.out, hzb, hld, lastD_get (show 0 < zs.length by omega)]; rfl
          have i1 : (0 : Int) ≤ (zs.length : Int) - 1 := by omega
          have i2 : ((zs.length : Int) - 1) < (zs.length : Int) := by omega
          have i3 : ((zs.length : Int) - 1).toNat = zs.length - 1 := by omega
          clear hc
          generalize zs[zs.length - 1] = z at *
          go_wp2
          go_ret
          exact ⟨by rw [HE.out]; rfl, hx⟩
      · have hld : decide ((zs.length : Int) ≤ 200) = false := by simp; omega
        have HE : Hid (sideOk zs sy 200 = false) := by unfold Hid; simp only [sideOk, hld]; simp
        go_wp2
        go_ret
        exact ⟨by rw [HE.out]; rfl, hx⟩
/-- A configuration behind a pointer. -/
def ConfP (w : World) (b : Nat) (c : ConfD) : Prop := ∃ lv rv, w.cell? ⟨b, 0, none⟩ = some (.int .i64 c.q) ∧ w.cell? ⟨b, 1, none⟩ = some lv ∧ w.cell? ⟨b, 2, none⟩ = some rv ∧ Ints w lv c.l ∧ Ints w rv c.r
theorem ConfP.ext {w w' : World} {b : Nat} {c : ConfD} (h : ConfP w b c) (he : Ext w w') : ConfP w' b c := by
  obtain ⟨lv, rv, h1, h2, h3, h4, h5⟩ := h
  exact ⟨lv, rv, he.cell h1, he.cell h2, he.cell h3, h4.ext he, h5.ext he⟩
end Go.Proofs.YtfghojbbofobeaaGreatDoor
end
section
set_option linter.unusedSimpArgs false
set_option linter.unusedVariables false
namespace Go.Proofs.YtfghojbbofobeaaGreatDoor
open Go Go.RowKit Go.Proofs
set_option maxHeartbeats 400000
theorem run_confM {M : MachD} (hm : machOk M = true) {x : ConfD} (hx : confB M x = true) {i : Nat} (h : RunsTo M x i) : confB M (cfgI M x i) = true := by
  obtain ⟨hg, hf, ht⟩ := conf_good hx
  refine conf_back (cfg_good hm hg i h.no) ?_ (tidy_cfg ht i)
  have := h.fit i (Nat.le_refl _)
  simpa [fitI] using this
set_option maxRecDepth 20000 in
set_option maxHeartbeats 4000000 in
theorem ownConfig_c (bc : Nat) (c : ConfD) (w : World) (h : ConfP w bc c) (hl : c.l.length ≤ 1048576) (hr : c.r.length ≤ 1048576) :
    Calls Tryz.prog 90 #[.pointer (some ⟨bc, 0, none⟩)] w fun e w' => ∃ v, e = .returned v ∧ ConfV w' v (cR c) ∧ Ext w w' := by
  obtain ⟨lv0, rv0, p0, p1, p2, hl0, hr0⟩ := h
  obtain ⟨Al, cl, rfl, _, _⟩ := hl0.form
  obtain ⟨Ar, cr, rfl, _, _⟩ := hr0.form
  obtain ⟨W, hW⟩ : ∃ W, W = w.alloc (.cells #[.int .i64 0, .slice none 0 0, .slice none 0 0] 52) := ⟨_, rfl⟩
  have hX : Ext w W := by rw [hW]; exact Ext.alloc _ _
  have bR : Blk W w.heap.size 52 #[.int .i64 0, .slice none 0 0, .slice none 0 0] := by rw [hW]; exact Blk.new _ _ _ _ rfl
  have hXd := hX.trans (Ext.drew W)
  have c0 := hXd.cell p0
  have c1 := hXd.cell p1
  have c2 := hXd.cell p2
  have hlD := hl0.ext hXd
  have hrD := hr0.ext hXd
  clear p0 p1 p2
  go_enter Tryz.func90, Tryz.ntmps90
  go_wp2_with fail
  rw [← hW]
  clear hW
  refine wp_region_ordT 14 (readsT [0, 1, 2, 3, 4, 5, 6, 7, 9, 10, 11, 12] (.stir 8 (.stir 13 .done))) (by kernel_rfl) (by kernel_rfl) (fun _ _ _ _ _ h => h) ?_
  simp only [readsT]
  iterate 12 (refine wpOrdT_read (v := ?_) (by rfl) (Or.inl ⟨by rfl, fun x hx => ?_⟩) ?_; rotate_left; (· have a1 := hx.cell c0; have a2 := hx.cell c1; have a3 := hx.cell c2; go_simp; try with_reducible rfl); try simp only [Act.put, List.setIfInBounds_toArray, List.set_cons_zero, List.set_cons_succ])
  refine wpOrdT_keep (by rfl) (fun K hK => ?_)
  go_simp
  go_at_call 119
  refine (l00OwnA_c _ c.l W.drew hlD hl).mono ?_
  rintro e w1 ⟨u1, rfl, ho1, hx1⟩
  obtain ⟨A1, k1, rfl, _, _⟩ := ho1.ints.form
  refine hK _ _ hx1 ?_
  clear hK K
  refine wpOrdT_keep (by rfl) (fun K hK => ?_)
  go_simp
  go_at_call 119
  refine (l00OwnA_c _ c.r w1 (hrD.ext hx1) hr).mono ?_
  rintro e w2 ⟨u2, rfl, ho2, hx2⟩
  obtain ⟨A2, k2, rfl, _, _⟩ := ho2.ints.form
  refine hK _ _ (hx1.trans hx2) ?_
  clear hK K
  refine wpOrdT_done ?_
  try simp only [List.drop_succ_cons, List.drop_zero]
  have EX := (Ext.drew W).trans (hx1.trans hx2)
  have bR2 := bR.ext EX
  obtain ⟨D1, D2⟩ := conf_done (n := c.q) (hX.trans EX) (Nat.le_refl _) bR2 (ho1.ext hx2) ho2
  have HD1 := Lib.hid D1
  have HD2 := Lib.hid D2
  clear D1 D2
  have r0 := bR2.cell 0
  have r1 := bR2.cell 1
  have r2 := bR2.cell 2
  have rf0 := bR2.frozen 0
  have rf1 := bR2.frozen 1
  have rf2 := bR2.frozen 2
  simp only [List.getElem?_toArray, List.getElem?_cons_zero, List.getElem?_cons_succ] at r0 r1 r2
  have d := (((bR2.set_ 0 (.int .i64 c.q)).set_ 1 (.slice A1 c.l.length k1)).set_ 2 (.slice A2 c.r.length k2)).cell
  go_wp2
  exact bodyPost_ret (v := .agg #[.int .i64 c.q, .slice A1 c.l.length k1, .slice A2 c.r.length k2]) (by simp [results, Tryz.results90, go_sem, d]) rfl ⟨_, rfl, HD1.out, HD2.out⟩
/-- The cells of a configuration whose sides are values. -/
def triC (q : Int) (u : Value × Value) : List Value := [.int .i64 q, u.1, u.2]
theorem tri_len {α : Type} (f : Nat → List α) (h : ∀ i, (f i).length = 3) (n : Nat) : ((List.range n).flatMap f).length = n * 3 := by
  induction n with
  | zero => rfl
  | succ n ih => rw [List.range_succ, List.flatMap_append, List.length_append, ih]; simp [h]; omega
theorem tri_get {α : Type} (f : Nat → List α) (h : ∀ i, (f i).length = 3) (n i j : Nat) (hi : i < n) (hj : j < 3) : ((List.range n).flatMap f)[i * 3 + j]? = (f i)[j]? := by
  induction n with
  | zero => omega
  | succ n ih =>
    rw [List.range_succ, List.flatMap_append]
    by_cases c : i < n
    · rw [List.getElem?_append_left (by rw [tri_len f h]; omega)]; exact ih c
    · have : i = n := by omega
      subst this
      rw [List.getElem?_append_right (by rw [tri_len f h]; omega), tri_len f h]
      simp
theorem ownrow_ne {w : World} {b1 b2 s1 s2 n1 n2 : Nat} {e1 e2 : TypeId} {v1 v2 : Value} {x1 x2 : List Value} (h1 : w.ownsRow b1 e1 s1 v1 n1 x1) (h2 : w.ownsRow b2 e2 s2 v2 n2 x2) (he : e1 ≠ e2) : ∀ g, v1.ownBlock = some g → v2.ownBlock ≠ some g := by
  intro g hg1 hg2
  rcases h1.2 with ⟨rfl, _⟩ | ⟨g1, c1, cur1, rfl, _, hh1, _⟩
  · simp [Value.ownBlock] at hg1
  · rcases h2.2 with ⟨rfl, _⟩ | ⟨g2, c2, cur2, rfl, _, hh2, _⟩
    · simp [Value.ownBlock] at hg2
    · simp [Value.ownBlock] at hg1 hg2
      subst hg1
      subst hg2
      rw [hh1] at hh2
      cases hh2
      exact he rfl
/-- The list of a run's configurations. -/
structure CfL (base : Nat) (W : World) (M : MachD) (x : ConfD) (vs : Nat → Value × Value) (tv : Value) (n : Nat) : Prop where
  own : W.ownsRow base 52 3 tv n ((List.range n).flatMap fun i => triC (cfgI M x i).q (vs i))
  sides : ∀ i, i < n → ∃ bl br, OwnInts bl W (vs i).1 (cfgI M x i).l ∧ OwnInts br W (vs i).2 (cfgI M x i).r
section
variable {base : Nat} {W W' : World} {M : MachD} {x : ConfD} {vs : Nat → Value × Value} {tv : Value} {n : Nat}
theorem CfL.ext (h : CfL base W M x vs tv n) (he : Ext W W') : CfL base W' M x vs tv n :=
  ⟨ownsRow_ext h.own he, fun i hi => by obtain ⟨bl, br, h1, h2⟩ := h.sides i hi; exact ⟨bl, br, h1.ext he, h2.ext he⟩⟩
theorem CfL.set (h : CfL base W M x vs tv n) {p : Addr} {cs : Array Value} (hb : Blk W p.block 52 cs) (hn : tv.ownBlock ≠ some p.block) (u : Value) : CfL base (W.setCell p u) M x vs tv n :=
  ⟨ownsRow_far h.own (fun k hk e => hn (by rw [← e]; exact hk)) u, fun i hi => by
    obtain ⟨bl, br, h1, h2⟩ := h.sides i hi
    exact ⟨bl, br, ownsRow_far h1 (own_far_blk h1 hb (by decide)) u, ownsRow_far h2 (own_far_blk h2 hb (by decide)) u⟩⟩
theorem tri_same (M : MachD) (x : ConfD) (vs : Nat → Value × Value) (u : Value × Value) (n : Nat) : ∀ m, m ≤ n → (List.range m).flatMap (fun i => triC (cfgI M x i).q (if i = n then u else vs i)) = (List.range m).flatMap (fun i => triC (cfgI M x i).q (vs i)) := by
  intro m
  induction m with
  | zero => intro _; rfl
  | succ m ih =>
    intro hm
    rw [List.range_succ, List.flatMap_append, List.flatMap_append, ih (by omega)]
    have : m ≠ n := by omega
    simp [this]
theorem CfL.push (h : CfL base W M x vs tv n) {v' lv rv : Value} {bl br : Nat} (hg : W.grownBy W' tv.ownBlock) (ho : W'.ownsRow base 52 3 v' (n + 1) (((List.range n).flatMap fun i => triC (cfgI M x i).q (vs i)) ++ triC (cfgI M x n).q (lv, rv)))
    (hl : OwnInts bl W lv (cfgI M x n).l) (hr : OwnInts br W rv (cfgI M x n).r) : CfL base W' M x (fun i => if i = n then (lv, rv) else vs i) v' (n + 1) := by
  have hs : ∀ {b : Nat} {v : Value} {zs : List Int}, OwnInts b W v zs → OwnInts b W' v zs := fun {b v zs} o => own_same o (fun g hgl => hg.block g (o.lt g hgl).2 (fun e => ownrow_ne o h.own (by decide) g hgl e.symm))
  refine ⟨?_, fun i hi => ?_⟩
  · have e : (List.range (n + 1)).flatMap (fun i => triC (cfgI M x i).q (if i = n then (lv, rv) else vs i)) = ((List.range n).flatMap fun i => triC (cfgI M x i).q (vs i)) ++ triC (cfgI M x n).q (lv, rv) := by
      rw [List.range_succ, List.flatMap_append, tri_same M x vs (lv, rv) n n (Nat.le_refl _)]
      simp
    rw [e]
    exact ho
  · by_cases c : i = n
    · subst c
      simp only [if_pos]
      exact ⟨bl, br, hs hl, hs hr⟩
    · simp only [if_neg c]
      obtain ⟨b1, b2, h1, h2⟩ := h.sides i (by omega)
      exact ⟨b1, b2, hs h1, hs h2⟩
/-- The cells of one of them. -/
theorem CfL.at (h : CfL base W M x vs tv n) {i : Nat} (hi : i < n) : ∃ g c, tv = .slice (some ⟨g, 0, none⟩) n c ∧ W.cell? ⟨g, i * 3, none⟩ = some (.int .i64 (cfgI M x i).q) ∧ W.cell? ⟨g, i * 3 + 1, none⟩ = some (vs i).1 ∧ W.cell? ⟨g, i * 3 + 2, none⟩ = some (vs i).2 := by
  have hf : ∀ i, (triC (cfgI M x i).q (vs i)).length = 3 := fun _ => rfl
  have key : ∀ j, j < 3 → i * 3 + j < n * 3 := fun j hj => by omega
  obtain ⟨A, c, rfl, _, _, _⟩ := (ownsRow_row h.own).form
  obtain ⟨g, rfl, _, _⟩ := own_at h.own (by omega)
  refine ⟨g, c, rfl, ?_, ?_, ?_⟩
  · have := tri_get (fun i => triC (cfgI M x i).q (vs i)) hf n i 0 hi (by omega)
    rw [Nat.add_zero] at this
    rw [h.own.cellAt (i * 3) (key 0 (by omega)), this]; rfl
  · rw [h.own.cellAt (i * 3 + 1) (key 1 (by omega)), tri_get (fun i => triC (cfgI M x i).q (vs i)) hf n i 1 hi (by omega)]; rfl
  · rw [h.own.cellAt (i * 3 + 2) (key 2 (by omega)), tri_get (fun i => triC (cfgI M x i).q (vs i)) hf n i 2 hi (by omega)]; rfl
end
end Go.Proofs.YtfghojbbofobeaaGreatDoor
end
