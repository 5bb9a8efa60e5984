/- Contracts of the reference's step of a machine that is a part of a maker.
Plain words on runs: positions of the head, the tape around it, and runs that come again moved by some cells.
Plain words on configurations of a machine: one that is valid, and the reference's step of it. -/
import Derived.Test.YthhjbmlkncdigaaGreatDoorB15
import Derived.Test.YthhjbmlkncdigaaGreatDoorB10
section
set_option linter.unusedSimpArgs false
set_option linter.unusedVariables false
namespace Go.Proofs.YthhjbmlkncdigaaGreatDoor
open Go Go.RowKit Go.Proofs
set_option maxHeartbeats 400000
/-- A machine that is a part of a maker. -/
def MachO (w : World) (b : Nat) (m : MachD) : Prop := ∃ rv, w.cell? ⟨b, 4, none⟩ = some (.int .i64 m.sy) ∧ w.cell? ⟨b, 5, none⟩ = some (.int .i64 m.st) ∧ w.cell? ⟨b, 6, none⟩ = some rv ∧ Rules w rv m.rules
theorem MachO.ext {w w' : World} {b : Nat} {m : MachD} (h : MachO w b m) (he : Ext w w') : MachO w' b m := by
  obtain ⟨rv, h0, h1, h2, h3⟩ := h
  exact ⟨rv, he.cell h0, he.cell h1, he.cell h2, h3.ext he⟩
theorem l05AtO_c (b bc : Nat) (m : MachD) (c : ConfR) (w : World) (hm : MachO w b m) (h : ConfAt w bc c) (q0 : 0 ≤ c.q) (q1 : c.q ≤ 1000) (s0 : 2 ≤ m.sy) (s1 : m.sy ≤ 6) (r0 : 0 ≤ hdR c.r) (r1 : hdR c.r ≤ 6) :
    Calls Tryz.prog 109 #[.pointer (some ⟨b, 4, none⟩), .pointer (some ⟨bc, 0, none⟩)] w fun e w' => e = .returned (.int .i64 (c.q * m.sy + hdR c.r)) ∧ Ext w w' := by
  have hC := h
  obtain ⟨rv, p0, _, _, _⟩ := hm
  obtain ⟨_, _, c0, _, _, _, _⟩ := h
  have d0 := cellR p0
  have d1 := cellR c0
  have hb : 0 ≤ c.q * m.sy ∧ c.q * m.sy ≤ 6000 := ⟨Int.mul_nonneg q0 (by omega), by
    have a1 := Int.mul_le_mul_of_nonneg_right q1 (show 0 ≤ m.sy by omega)
    have a2 := Int.mul_le_mul_of_nonneg_left s1 (show (0 : Int) ≤ 1000 by omega)
    omega⟩
  go_enter Tryz.func109, Tryz.ntmps109
  go_wp2
  refine wp_region_ext (by kernel_rfl) (by kernel_rfl) ?_
  repeat (go_big_quiet_step ((go_at_call 129; exact Calls.sameR (l05Head_c _ _ _ (hC.ext (below_regrown _ _ _))))))
  refine wpQuiet_nil ?_
  intro w2 hx2
  go_wp2
  go_ret
  exact ⟨rfl, hx2⟩
theorem l05AtKO_c (b bc : Nat) (m : MachD) (c : ConfR) (k : Nat) (w : World) (hm : MachO w b m) (h : ConfAt w bc c) (ok : COk m c k) :
    Calls Tryz.prog 109 #[.pointer (some ⟨b, 4, none⟩), .pointer (some ⟨bc, 0, none⟩)] w fun e w' => e = .returned (.int .i64 (k : Int)) ∧ Ext w w' := by
  rw [← ok.ke]
  exact l05AtO_c b bc m c w hm h ok.q0 ok.q1 ok.s0 ok.s1 ok.r0 ok.r1
set_option maxRecDepth 20000 in
theorem l05HaltsO_c (b bc : Nat) (m : MachD) (c : ConfR) (k : Nat) (w : World) (hm : MachO w b m) (h : ConfAt w bc c) (ok : COk m c k) :
    Calls Tryz.prog 84 #[.pointer (some ⟨b, 4, none⟩), .pointer (some ⟨bc, 0, none⟩)] w fun e w' => e = .returned (.bool (decide (m.rules[k]'ok.kl = noR))) ∧ Ext w w' := by
  have hM := hm
  obtain ⟨rv, p0, p1, p2, hr⟩ := hm
  obtain ⟨A, cap, rfl, h2, h2'⟩ := hr.form
  obtain ⟨b', off, rfl, hc⟩ := hr.at ok.kl
  obtain ⟨c0, c1, c2⟩ := hc k ok.kl
  have d0 := cellR c0
  have d1 := cellR c1
  have d2 := cellR c2
  have dM := cellR p2
  have rn := ruleEql_run
  have i1 : (0 : Int) ≤ (k : Int) := by omega
  have i2 : (k : Int) < (m.rules.length : Int) := by have := ok.kl; omega
  have HE : Hid (∀ q, rEq ⟨(m.rules[k]'ok.kl).w, (m.rules[k]'ok.kl).m, (m.rules[k]'ok.kl).n⟩ ⟨0, 0, -1⟩ = q → decide (m.rules[k]'ok.kl = noR) = q) := fun q h => by rw [← h]; rfl
  generalize m.rules[k]'ok.kl = ru at *
  clear c0 c1 c2 hc
  cases hq : rEq ⟨ru.w, ru.m, ru.n⟩ ⟨0, 0, -1⟩
  · go_enter Tryz.func84, Tryz.ntmps84
    go_wp2
    refine wp_region_ext (by kernel_rfl) (by kernel_rfl) ?_
    repeat (go_big_quiet_step ((first | (go_at_call 82; exact Calls.extR (l05None_c _)) | (go_at_call 109; exact Calls.extR (l05AtKO_c _ _ m c k _ (hM.ext (below_regrown _ _ _)) (h.ext (below_regrown _ _ _)) ok)))))
    refine wpQuiet_nil ?_
    intro w2 hx2
    go_wp2
    go_ret
    exact ⟨by rw [HE.out _ hq]; rfl, hx2⟩
  · go_enter Tryz.func84, Tryz.ntmps84
    go_wp2
    refine wp_region_ext (by kernel_rfl) (by kernel_rfl) ?_
    repeat (go_big_quiet_step ((first | (go_at_call 82; exact Calls.extR (l05None_c _)) | (go_at_call 109; exact Calls.extR (l05AtKO_c _ _ m c k _ (hM.ext (below_regrown _ _ _)) (h.ext (below_regrown _ _ _)) ok)))))
    refine wpQuiet_nil ?_
    intro w2 hx2
    go_wp2
    go_ret
    exact ⟨by rw [HE.out _ hq]; rfl, hx2⟩
set_option maxRecDepth 20000 in
set_option maxHeartbeats 4000000 in
theorem l05StepO_c (b bc : Nat) (m : MachD) (c : ConfR) (k : Nat) (w : World) (hm : MachO w b m) (h : ConfAt w bc c) (ok : COk m c k) (hl9 : c.l.length ≤ 200) :
    Calls Tryz.prog 85 #[.pointer (some ⟨b, 4, none⟩), .pointer (some ⟨bc, 0, none⟩)] w fun e w' => ∃ v, e = .returned (.tuple #[v, .bool (decide ((stepC (m.rules[k]'ok.kl) c).l.length ≤ 200) && decide ((stepC (m.rules[k]'ok.kl) c).r.length ≤ 200))]) ∧ ConfV w' v (stepC (m.rules[k]'ok.kl) c) ∧ Ext w w' := by
  obtain ⟨W, hW⟩ : ∃ W, W = w.alloc (.cells #[.int .i64 0, .slice none 0 0, .slice none 0 0] 37) := ⟨_, rfl⟩
  have hX : Ext w W := by rw [hW]; exact Ext.alloc _ _
  have bR : Blk W w.heap.size 37 #[.int .i64 0, .slice none 0 0, .slice none 0 0] := by rw [hW]; exact Blk.new _ _ _ _ rfl
  have hM := hm.ext hX
  have hC := h.ext hX
  have hM0 := hM
  have hM1 := hM.ext (Ext.drew _)
  have hC1 := hC.ext (Ext.drew _)
  have hM2 := (hM.ext (Ext.alloc _ (.cells #[.int .i64 0, .int .i64 0, .int .i64 0] 98))).ext (Ext.drew _)
  have hC2 := (hC.ext (Ext.alloc _ (.cells #[.int .i64 0, .int .i64 0, .int .i64 0] 98))).ext (Ext.drew _)
  obtain ⟨rv, p0, p1, p2, hr⟩ := hM
  obtain ⟨A, cap, rfl, h2, h2'⟩ := hr.form
  obtain ⟨b', off, rfl, hc⟩ := hr.at ok.kl
  obtain ⟨c0, c1, c2⟩ := hc k ok.kl
  have i1 : (0 : Int) ≤ (k : Int) := by omega
  have i2 : (k : Int) < (m.rules.length : Int) := by have := ok.kl; omega
  generalize m.rules[k]'ok.kl = ru at *
  clear hc
  go_enter Tryz.func85, Tryz.ntmps85
  go_wp2_with fail
  rw [← hW]
  clear hW
  go_region_held3 (fun w' => w'.cell? ⟨b, 6, none⟩ = some (.slice (some ⟨b', off, none⟩) m.rules.length cap) ∧ w'.cell? ⟨b', off + k * 3, none⟩ = some (.int .i64 ru.w) ∧ w'.cell? ⟨b', off + k * 3 + 1, none⟩ = some (.int .i64 ru.m) ∧ w'.cell? ⟨b', off + k * 3 + 2, none⟩ = some (.int .i64 ru.n))
    (first | go_keep | exact ⟨t0, t1, t2, t3⟩ | exact ⟨HX3.cell p2, HX3.cell c0, HX3.cell c1, HX3.cell c2⟩)
    (first
      | (go_at_call 109; ((with_reducible refine (l05AtKO_c _ _ m c k _ hM1 hC1 ok).mono ?_)); rintro e w2 ⟨rfl, hx2⟩; have HX2 := (Ext.drew W).trans hx2; have t0 := HX2.cell p2; have t1 := HX2.cell c0; have t2 := HX2.cell c1; have t3 := HX2.cell c2)
      | (go_at_call 109; ((with_reducible refine (l05AtKO_c _ _ m c k _ hM2 hC2 ok).mono ?_)); rintro e w2 ⟨rfl, hx2⟩; have HX2 := ((Ext.alloc W _).trans (Ext.drew _)).trans hx2; have bU := Blk.ext (Blk.ext (Blk.new W W.heap.size 98 #[.int .i64 0, .int .i64 0, .int .i64 0] rfl) (Ext.drew _)) hx2; have u0 := bU.cell 0; have u1 := bU.cell 1; have u2 := bU.cell 2; have f0 := bU.frozen 0; have f1 := bU.frozen 1; have f2 := bU.frozen 2; simp only [List.getElem?_toArray, List.getElem?_cons_zero, List.getElem?_cons_succ] at u0 u1 u2; have HX3 := ((HX2.setCell (p := ⟨W.heap.size, 0, none⟩) (Nat.le_refl _) (.int .i64 ru.w)).setCell (p := ⟨W.heap.size, 1, none⟩) (Nat.le_refl _) (.int .i64 ru.m)).setCell (p := ⟨W.heap.size, 2, none⟩) (Nat.le_refl _) (.int .i64 ru.n); have bV := ((bU.set_ 0 (.int .i64 ru.w)).set_ 1 (.int .i64 ru.m)).set_ 2 (.int .i64 ru.n); have t0 := HX2.cell p2; have t1 := HX2.cell c0; have t2 := HX2.cell c1; have t3 := HX2.cell c2))
  all_goals
    first
      | (show Exit.then _ _ _ _ (w2.alloc _); have HX3 := HX2.trans (Ext.alloc w2 (.cells #[.int .i64 ru.w, .int .i64 ru.m, .int .i64 ru.n] 98)); have bV := Blk.new w2 w2.heap.size 98 #[.int .i64 ru.w, .int .i64 ru.m, .int .i64 ru.n] rfl; generalize w2.alloc (.cells #[.int .i64 ru.w, .int .i64 ru.m, .int .i64 ru.n] 98) = V at *; generalize w2.heap.size = gr at *)
      | (generalize ((w2.setCell ⟨W.heap.size, 0, none⟩ (.int .i64 ru.w)).setCell ⟨W.heap.size, 1, none⟩ (.int .i64 ru.m)).setCell ⟨W.heap.size, 2, none⟩ (.int .i64 ru.n) = V at *; have bV' : Blk V W.heap.size 98 #[.int .i64 ru.w, .int .i64 ru.m, .int .i64 ru.n] := bV; clear bV; have bV := bV'; clear bV' bU u0 u1 u2 f0 f1 f2; generalize W.heap.size = gr at *)
    have hCV := hC.ext HX3
    have bRV := bR.ext HX3
    have hXV := hX.trans HX3
    have hgV := bRV.lt
    clear t0 t1 t2 t3 hM1 hM2 hC1 hC2 p0 p1 p2 c0 c1 c2 hr hx2 HX2 HX3
    obtain ⟨lv, rv, q0, q1, q2, hL, hR⟩ := hCV
    obtain ⟨AL, cL, rfl, _, _⟩ := hL.form
    obtain ⟨AR, cR, rfl, _, _⟩ := hR.form
    have g0 := bV.cell 0
    have g1 := bV.cell 1
    have g2 := bV.cell 2
    simp only [List.getElem?_toArray, List.getElem?_cons_zero, List.getElem?_cons_succ] at g0 g1 g2
    have ll := hl9
    have rl := ok.rl
    have hbc : bc < V.heap.size := World.block_lt_of_cell? V _ q0
    have hgr : gr < V.heap.size := bV.lt
    obtain ⟨V2, hV2⟩ : ∃ X, X = V.alloc (.cells #[.int .i64 ru.n, .slice none 0 0, .slice none 0 0] 37) := ⟨_, rfl⟩
    have EX2 : Ext V V2 := by rw [hV2]; exact Ext.alloc _ _
    have bO2 : Blk V2 V.heap.size 37 #[.int .i64 ru.n, .slice none 0 0, .slice none 0 0] := by rw [hV2]; exact Blk.new _ _ _ _ rfl
    have q2' := EX2.cell q2
    go_wp2_with fail
    rw [← hV2]
    clear hV2
    refine (l05Rest_c _ _ _ (hR.ext EX2) (by omega)).mono ?_
    rintro e w3 ⟨ur, rfl, ho3, hx3⟩
    obtain ⟨dr, hdr⟩ : ∃ d, d = List.drop 1 c.r := ⟨_, rfl⟩
    have hdl : dr.length ≤ 1000 := by rw [hdr]; simp; omega
    rw [← hdr] at ho3
    have HDR := Lib.hid hdr
    clear hdr
    have EX3 := EX2.trans hx3
    have bO3 := bO2.ext hx3
    obtain ⟨Au, cu, rfl, _, _⟩ := ho3.ints.form
    clear q2'
    by_cases hmv : 0 < ru.m
    · have e1 := EX3.cell g1
      have e0 := EX3.cell g0
      have eq1 := EX3.cell q1
      have hL4 := (hL.ext EX3).ext (Ext.drew _)
      have ne1 : gr ≠ V.heap.size := by omega
      have ne2 : bc ≠ V.heap.size := by omega
      go_wp2_with fail
      go_region_held3 (fun w' => w'.cell? ⟨gr, 0, none⟩ = some (.int .i64 ru.w) ∧ w'.cell? ⟨bc, 1, none⟩ = some (.slice AL c.l.length cL))
        (first | go_keep | exact ⟨EX4.cell g0, EX4.cell q1⟩ | exact ⟨EX5.cell g0, EX5.cell q1⟩)
        ((go_at_call 111; ((with_reducible refine (l05Push_c ru.w _ c.l _ hL4 (by omega)).mono ?_)); rintro e w4 ⟨ul, rfl, ho4, hx4⟩; obtain ⟨Al4, cl4, rfl, _, _⟩ := ho4.ints.form; have EX4 := (EX3.trans (Ext.drew w3)).trans hx4; have bO4 := Blk.ext (Blk.ext bO3 (Ext.drew w3)) hx4; have o1 := bO4.cell 1; have of1 := bO4.frozen 1; have EX5 := EX4.setCell (p := ⟨V.heap.size, 1, none⟩) (Nat.le_refl _) (.slice Al4 (trim (ru.w :: c.l)).length cl4); have bO5 := bO4.set_ 1 (.slice Al4 (trim (ru.w :: c.l)).length cl4); simp only [List.getElem?_toArray, List.getElem?_cons_zero, List.getElem?_cons_succ] at o1))
      all_goals
        have o4 : OwnInts _ _ _ _ := ownsRow_far ho4 (own_far_blk ho4 bO4 (by decide)) (.slice Al4 (trim (ru.w :: c.l)).length cl4) (p := ⟨V.heap.size, 1, none⟩)
        have o3 : OwnInts _ _ _ _ := ownsRow_far ((OwnInts.ext ho3 (Ext.drew w3)).ext hx4) (own_far_blk ((OwnInts.ext ho3 (Ext.drew w3)).ext hx4) bO4 (by decide)) (.slice Al4 (trim (ru.w :: c.l)).length cl4) (p := ⟨V.heap.size, 1, none⟩)
        have o4' : OwnInts _ _ _ (trim (ru.w :: c.l)) := ownsRow_far o4 (own_far_blk o4 bO5 (by decide)) (.slice Au dr.length cu) (p := ⟨V.heap.size, 2, none⟩)
        have o3' : OwnInts _ _ _ dr := ownsRow_far o3 (own_far_blk o3 bO5 (by decide)) (.slice Au dr.length cu) (p := ⟨V.heap.size, 2, none⟩)
        have EX := EX5.setCell (p := ⟨V.heap.size, 2, none⟩) (Nat.le_refl _) (.slice Au dr.length cu)
        have bO5' : Blk (w4.setCell ⟨V.heap.size, 1, none⟩ (.slice Al4 (trim (ru.w :: c.l)).length cl4)) V.heap.size 37 #[.int .i64 ru.n, .slice Al4 (trim (ru.w :: c.l)).length cl4, .slice none 0 0] := bO5
        have v0 := bO5'.cell 2
        have vf := bO5'.frozen 2
        simp only [List.getElem?_toArray, List.getElem?_cons_zero, List.getElem?_cons_succ] at v0
        have bO : Blk ((w4.setCell ⟨V.heap.size, 1, none⟩ (.slice Al4 (trim (ru.w :: c.l)).length cl4)).setCell ⟨V.heap.size, 2, none⟩ (.slice Au dr.length cu)) V.heap.size 37 #[.int .i64 ru.n, .slice Al4 (trim (ru.w :: c.l)).length cl4, .slice Au dr.length cu] := bO5'.set_ 2 (.slice Au dr.length cu)
        go_wp2_with fail
        generalize (w4.setCell ⟨V.heap.size, 1, none⟩ (.slice Al4 (trim (ru.w :: c.l)).length cl4)).setCell ⟨V.heap.size, 2, none⟩ (.slice Au dr.length cu) = X at *
        have hXX := hXV.trans EX
        have bRX := bRV.ext EX
        obtain ⟨D1, D2⟩ := conf_done (n := ru.n) hXX (Nat.le_refl _) bRX o4' o3'
        have HD1 : Hid (ConfV (((X.setCell ⟨w.heap.size, 0, none⟩ (.int .i64 ru.n)).setCell ⟨w.heap.size, 1, none⟩ (.slice Al4 (trim (ru.w :: c.l)).length cl4)).setCell ⟨w.heap.size, 2, none⟩ (.slice Au (dr).length cu)) (.agg #[.int .i64 ru.n, .slice Al4 (trim (ru.w :: c.l)).length cl4, .slice Au (dr).length cu]) (stepC ru c)) := by
          unfold Hid stepC
          rw [if_pos hmv, ← HDR.out]
          exact D1
        have HD2 := Lib.hid D2
        have HSL : Hid ((stepC ru c).l.length = (trim (ru.w :: c.l)).length) := by unfold Hid stepC; rw [if_pos hmv, ← HDR.out]
        have HSR : Hid ((stepC ru c).r.length = (dr).length) := by unfold Hid stepC; rw [if_pos hmv, ← HDR.out]
        have ln1 : (trim (ru.w :: c.l)).length ≤ 9223372036854775807 := by have := trim_len (ru.w :: c.l); simp at this; omega
        have ln2 : (dr).length ≤ 9223372036854775807 := by omega
        clear D1 D2 o4' o3'
        generalize (trim (ru.w :: c.l)).length = nl at *
        generalize (dr).length = nr at *
        have eO0 := bO.cell 0
        have eO1 := bO.cell 1
        have eO2 := bO.cell 2
        have r0 := bRX.cell 0
        have r1 := bRX.cell 1
        have r2 := bRX.cell 2
        have rf0 := bRX.frozen 0
        have rf1 := bRX.frozen 1
        have rf2 := bRX.frozen 2
        simp only [List.getElem?_toArray, List.getElem?_cons_zero, List.getElem?_cons_succ] at eO0 eO1 eO2 r0 r1 r2
        have neg : w.heap.size ≠ V.heap.size := by omega
        have bOf := ((bO.far (p := ⟨w.heap.size, 0, none⟩) neg.symm (.int .i64 ru.n)).far (p := ⟨w.heap.size, 1, none⟩) neg.symm (.slice Al4 nl cl4)).far (p := ⟨w.heap.size, 2, none⟩) neg.symm (.slice Au nr cu)
        have y0 := bOf.cell 0
        have y1 := bOf.cell 1
        have y2 := bOf.cell 2
        simp only [List.getElem?_toArray, List.getElem?_cons_zero, List.getElem?_cons_succ] at y0 y1 y2
        have d := (((bRX.set_ 0 (.int .i64 ru.n)).set_ 1 (.slice Al4 nl cl4)).set_ 2 (.slice Au nr cu)).cell
        by_cases hl1 : nl ≤ 200
        · have L1 : decide ((nl : Int) ≤ 200) = true := by simp; omega
          have L1' : decide (nl ≤ 200) = true := by simp; omega
          have HL1 := Lib.hid hl1
          clear hl1
          by_cases hl2 : nr ≤ 200
          · have L2 : decide ((nr : Int) ≤ 200) = true := by simp; omega
            have L2' : decide (nr ≤ 200) = true := by simp; omega
            have HL2 := Lib.hid hl2
            clear hl2
            go_region_held3 (fun w' => w'.cell? ⟨V.heap.size, 0, none⟩ = some (.int .i64 ru.n) ∧ w'.cell? ⟨V.heap.size, 1, none⟩ = some (.slice Al4 nl cl4) ∧ w'.cell? ⟨V.heap.size, 2, none⟩ = some (.slice Au nr cu)) (first | go_keep | exact ⟨y0, y1, y2⟩) (fail)
            all_goals
              go_wp2
              refine bodyPost_ret (v := .tuple #[.agg #[.int .i64 ru.n, .slice Al4 nl cl4, .slice Au nr cu], .bool true]) (by simp [results, Tryz.results85, go_sem, d]) rfl ⟨_, ?_, by first | exact HD1.out | exact HD1.out.ext (Ext.drew _), by first | exact HD2.out | exact HD2.out.trans (Ext.drew _)⟩
              simp [HSL.out, HSR.out, HL1.out, HL2.out]
          · have L2 : decide ((nr : Int) ≤ 200) = false := by simp; omega
            have L2' : decide (nr ≤ 200) = false := by simp; omega
            have HL2 := Lib.hid hl2
            clear hl2
            go_region_held3 (fun w' => w'.cell? ⟨V.heap.size, 0, none⟩ = some (.int .i64 ru.n) ∧ w'.cell? ⟨V.heap.size, 1, none⟩ = some (.slice Al4 nl cl4) ∧ w'.cell? ⟨V.heap.size, 2, none⟩ = some (.slice Au nr cu)) (first | go_keep | exact ⟨y0, y1, y2⟩) (fail)
            all_goals
              go_wp2
              refine bodyPost_ret (v := .tuple #[.agg #[.int .i64 ru.n, .slice Al4 nl cl4, .slice Au nr cu], .bool false]) (by simp [results, Tryz.results85, go_sem, d]) rfl ⟨_, ?_, by first | exact HD1.out | exact HD1.out.ext (Ext.drew _), by first | exact HD2.out | exact HD2.out.trans (Ext.drew _)⟩
              simp [HSL.out, HSR.out, HL1.out, HL2.out]
        · have L1 : decide ((nl : Int) ≤ 200) = false := by simp; omega
          have L1' : decide (nl ≤ 200) = false := by simp; omega
          have HL1 := Lib.hid hl1
          clear hl1
          refine wp_region_ordTS (fun w' => w'.cell? ⟨V.heap.size, 0, none⟩ = some (.int .i64 ru.n) ∧ w'.cell? ⟨V.heap.size, 1, none⟩ = some (.slice Al4 nl cl4) ∧ w'.cell? ⟨V.heap.size, 2, none⟩ = some (.slice Au nr cu)) 12 (readsT [0, 1, 2, 3, 4, 5, 6, 7, 8, 9, 10] (.stir 11 .done)) (by kernel_rfl) (by kernel_rfl) (fun _ _ _ _ _ h => h) ⟨eO0, eO1, eO2⟩ ?_
          simp only [readsT]
          iterate 6
            refine wpOrdT_read (v := ?_) (by rfl) (Or.inl ⟨by rfl, fun x hx => ?_⟩) ?_
            rotate_left
            · obtain ⟨a1, a2, a3⟩ := hx
              go_simp
              try simp only [L1]
              try with_reducible rfl
            try simp only [Act.put, List.setIfInBounds_toArray, List.set_cons_zero, List.set_cons_succ]
          iterate 4
            refine wpOrdT_read (v := undef) (by rfl) (Or.inr ⟨by rfl, by rfl⟩) ?_
            try simp only [Act.put, List.setIfInBounds_toArray, List.set_cons_zero, List.set_cons_succ]
          refine wpOrdT_read (v := ?_) (by rfl) (Or.inl ⟨by rfl, fun x hx => ?_⟩) ?_
          rotate_left
          · go_simp
            try with_reducible rfl
          try simp only [Act.put, List.setIfInBounds_toArray, List.set_cons_zero, List.set_cons_succ]
          refine wpOrdT_keep (by rfl) (fun K hK => ?_)
          go_simp
          refine hK _ _ ⟨y0, y1, y2⟩ ?_
          clear hK K
          refine wpOrdT_done ?_
          try simp only [List.drop_succ_cons, List.drop_zero]
          go_wp2
          refine bodyPost_ret (v := .tuple #[.agg #[.int .i64 ru.n, .slice Al4 nl cl4, .slice Au nr cu], .bool false]) (by simp [results, Tryz.results85, go_sem, d]) rfl ⟨_, ?_, by first | exact HD1.out | exact HD1.out.ext (Ext.drew _), by first | exact HD2.out | exact HD2.out.trans (Ext.drew _)⟩
          simp [HSL.out, HSR.out, HL1.out]
    · have e1 := EX3.cell g1
      have e0 := EX3.cell g0
      have eq1 := EX3.cell q1
      have hdm : decide (0 < ru.m) = false := by simp; omega
      have ho3l := dr.length
      by_cases hll : c.l.length = 0
      · have hz : c.l = [] := by simpa using hll
        have HN : Hid (hdR c.l = 0) := by unfold Hid; rw [hz]; rfl
        have hzd : decide ((0 : Int) < (c.l.length : Int)) = false := by simp; omega
        have hzd' : decide (0 < c.l.length) = false := by simp; omega
        clear hz hll
        go_wp2_with fail
        refine (l05Push_c ru.w _ dr _ ho3.ints (by omega)).mono ?_
        rintro e w4 ⟨u4, rfl, ho4, hx4⟩
        have hl4 := trim_len (ru.w :: dr)
        simp only [List.length_cons] at hl4
        obtain ⟨A4, c4, rfl, _, _⟩ := ho4.ints.form
        go_wp2_with fail
        refine (l05Push_c 0 _ _ _ ho4.ints (by omega)).mono ?_
        rintro e w5 ⟨u5, rfl, ho5, hx5⟩
        have hl5 := trim_len (0 :: trim (ru.w :: dr))
        simp only [List.length_cons] at hl5
        obtain ⟨A5, c5, rfl, _, _⟩ := ho5.ints.form
        have EX5 := (EX3.trans hx4).trans hx5
        have bO5 := (bO3.ext hx4).ext hx5
        generalize hrr : trim (0 :: trim (ru.w :: dr)) = rr at *
        have HRR := Lib.hid hrr
        clear hrr
        have v0 := bO5.cell 2
        have vf := bO5.frozen 2
        simp only [List.getElem?_toArray, List.getElem?_cons_zero, List.getElem?_cons_succ] at v0
        have o5 : OwnInts _ _ _ rr := ownsRow_far ho5 (own_far_blk ho5 bO5 (by decide)) (.slice A5 rr.length c5) (p := ⟨V.heap.size, 2, none⟩)
        have EX6 := EX5.setCell (p := ⟨V.heap.size, 2, none⟩) (Nat.le_refl _) (.slice A5 rr.length c5)
        have bO6 : Blk (w5.setCell ⟨V.heap.size, 2, none⟩ (.slice A5 rr.length c5)) V.heap.size 37 #[.int .i64 ru.n, .slice none 0 0, .slice A5 rr.length c5] := bO5.set_ 2 (.slice A5 rr.length c5)
        have eq6 := EX6.cell q1
        go_wp2_with fail
        generalize w5.setCell ⟨V.heap.size, 2, none⟩ (.slice A5 rr.length c5) = w6 at *
        refine (l05Rest_c _ _ _ (hL.ext EX6) (by omega)).mono ?_
        rintro e w7 ⟨u7, rfl, ho7, hx7⟩
        obtain ⟨dl, hdl'⟩ : ∃ d, d = List.drop 1 c.l := ⟨_, rfl⟩
        have hdll : dl.length ≤ 199 := by rw [hdl']; simp; omega
        rw [← hdl'] at ho7
        have HDL := Lib.hid hdl'
        clear hdl'
        obtain ⟨A7, c7, rfl, _, _⟩ := ho7.ints.form
        have EX7 := EX6.trans hx7
        have bO7 := bO6.ext hx7
        have o5' := OwnInts.ext o5 hx7
        have v1 := bO7.cell 1
        have vf1 := bO7.frozen 1
        simp only [List.getElem?_toArray, List.getElem?_cons_zero, List.getElem?_cons_succ] at v1
        have oL : OwnInts _ _ _ dl := ownsRow_far ho7 (own_far_blk ho7 bO7 (by decide)) (.slice A7 dl.length c7) (p := ⟨V.heap.size, 1, none⟩)
        have oR : OwnInts _ _ _ rr := ownsRow_far o5' (own_far_blk o5' bO7 (by decide)) (.slice A7 dl.length c7) (p := ⟨V.heap.size, 1, none⟩)
        have EX := EX7.setCell (p := ⟨V.heap.size, 1, none⟩) (Nat.le_refl _) (.slice A7 dl.length c7)
        have bO : Blk (w7.setCell ⟨V.heap.size, 1, none⟩ (.slice A7 dl.length c7)) V.heap.size 37 #[.int .i64 ru.n, .slice A7 dl.length c7, .slice A5 rr.length c5] := bO7.set_ 1 (.slice A7 dl.length c7)
        go_wp2_with fail
        generalize w7.setCell ⟨V.heap.size, 1, none⟩ (.slice A7 dl.length c7) = X at *
        have hXX := hXV.trans EX
        have bRX := bRV.ext EX
        obtain ⟨D1, D2⟩ := conf_done (n := ru.n) hXX (Nat.le_refl _) bRX oL oR
        have HD1 : Hid (ConfV (((X.setCell ⟨w.heap.size, 0, none⟩ (.int .i64 ru.n)).setCell ⟨w.heap.size, 1, none⟩ (.slice A7 (dl).length c7)).setCell ⟨w.heap.size, 2, none⟩ (.slice A5 (rr).length c5)) (.agg #[.int .i64 ru.n, .slice A7 (dl).length c7, .slice A5 (rr).length c5]) (stepC ru c)) := by
          unfold Hid stepC
          rw [if_neg (by omega), ← HDL.out, ← HDR.out, HN.out, HRR.out]
          exact D1
        have HD2 := Lib.hid D2
        have HSL : Hid ((stepC ru c).l.length = (dl).length) := by unfold Hid stepC; rw [if_neg (by omega), ← HDL.out, ← HDR.out, HN.out, HRR.out]
        have HSR : Hid ((stepC ru c).r.length = (rr).length) := by unfold Hid stepC; rw [if_neg (by omega), ← HDL.out, ← HDR.out, HN.out, HRR.out]
        have ln1 : (dl).length ≤ 9223372036854775807 := by omega
        have ln2 : (rr).length ≤ 9223372036854775807 := by omega
        have LN : (dl).length ≤ 200 := by omega
        clear D1 D2 oL oR
        generalize (dl).length = nl at *
        generalize (rr).length = nr at *
        have eO0 := bO.cell 0
        have eO1 := bO.cell 1
        have eO2 := bO.cell 2
        have r0 := bRX.cell 0
        have r1 := bRX.cell 1
        have r2 := bRX.cell 2
        have rf0 := bRX.frozen 0
        have rf1 := bRX.frozen 1
        have rf2 := bRX.frozen 2
        simp only [List.getElem?_toArray, List.getElem?_cons_zero, List.getElem?_cons_succ] at eO0 eO1 eO2 r0 r1 r2
        have neg : w.heap.size ≠ V.heap.size := by omega
        have bOf := ((bO.far (p := ⟨w.heap.size, 0, none⟩) neg.symm (.int .i64 ru.n)).far (p := ⟨w.heap.size, 1, none⟩) neg.symm (.slice A7 nl c7)).far (p := ⟨w.heap.size, 2, none⟩) neg.symm (.slice A5 nr c5)
        have y0 := bOf.cell 0
        have y1 := bOf.cell 1
        have y2 := bOf.cell 2
        simp only [List.getElem?_toArray, List.getElem?_cons_zero, List.getElem?_cons_succ] at y0 y1 y2
        have d := (((bRX.set_ 0 (.int .i64 ru.n)).set_ 1 (.slice A7 nl c7)).set_ 2 (.slice A5 nr c5)).cell
        by_cases hl1 : nl ≤ 200
        · have L1 : decide ((nl : Int) ≤ 200) = true := by simp; omega
          have L1' : decide (nl ≤ 200) = true := by simp; omega
          have HL1 := Lib.hid hl1
          clear hl1
          by_cases hl2 : nr ≤ 200
          · have L2 : decide ((nr : Int) ≤ 200) = true := by simp; omega
            have L2' : decide (nr ≤ 200) = true := by simp; omega
            have HL2 := Lib.hid hl2
            clear hl2
            go_region_held3 (fun w' => w'.cell? ⟨V.heap.size, 0, none⟩ = some (.int .i64 ru.n) ∧ w'.cell? ⟨V.heap.size, 1, none⟩ = some (.slice A7 nl c7) ∧ w'.cell? ⟨V.heap.size, 2, none⟩ = some (.slice A5 nr c5)) (first | go_keep | exact ⟨y0, y1, y2⟩) (fail)
            all_goals
              go_wp2
              refine bodyPost_ret (v := .tuple #[.agg #[.int .i64 ru.n, .slice A7 nl c7, .slice A5 nr c5], .bool true]) (by simp [results, Tryz.results85, go_sem, d]) rfl ⟨_, ?_, by first | exact HD1.out | exact HD1.out.ext (Ext.drew _), by first | exact HD2.out | exact HD2.out.trans (Ext.drew _)⟩
              simp [HSL.out, HSR.out, HL1.out, HL2.out]
          · have L2 : decide ((nr : Int) ≤ 200) = false := by simp; omega
            have L2' : decide (nr ≤ 200) = false := by simp; omega
            have HL2 := Lib.hid hl2
            clear hl2
            go_region_held3 (fun w' => w'.cell? ⟨V.heap.size, 0, none⟩ = some (.int .i64 ru.n) ∧ w'.cell? ⟨V.heap.size, 1, none⟩ = some (.slice A7 nl c7) ∧ w'.cell? ⟨V.heap.size, 2, none⟩ = some (.slice A5 nr c5)) (first | go_keep | exact ⟨y0, y1, y2⟩) (fail)
            all_goals
              go_wp2
              refine bodyPost_ret (v := .tuple #[.agg #[.int .i64 ru.n, .slice A7 nl c7, .slice A5 nr c5], .bool false]) (by simp [results, Tryz.results85, go_sem, d]) rfl ⟨_, ?_, by first | exact HD1.out | exact HD1.out.ext (Ext.drew _), by first | exact HD2.out | exact HD2.out.trans (Ext.drew _)⟩
              simp [HSL.out, HSR.out, HL1.out, HL2.out]
        · exact absurd LN hl1
      · obtain ⟨bl, ol, rfl, hcl⟩ := hL.at (k := 0) (by omega)
        have dl0 := EX3.cell (hcl 0 (by omega))
        simp only [Nat.add_zero] at dl0
        have HN : Hid (hdR c.l = c.l[0]) := by unfold Hid hdR; rw [List.getD_eq_getElem?_getD, List.getElem?_eq_getElem (by omega)]; rfl
        have hl0 : (0 : Int) < (c.l.length : Int) := by omega
        generalize c.l[0] = near at *
        clear hcl
        go_wp2_with fail
        refine (l05Push_c ru.w _ dr _ ho3.ints (by omega)).mono ?_
        rintro e w4 ⟨u4, rfl, ho4, hx4⟩
        have hl4 := trim_len (ru.w :: dr)
        simp only [List.length_cons] at hl4
        obtain ⟨A4, c4, rfl, _, _⟩ := ho4.ints.form
        go_wp2_with fail
        refine (l05Push_c near _ _ _ ho4.ints (by omega)).mono ?_
        rintro e w5 ⟨u5, rfl, ho5, hx5⟩
        have hl5 := trim_len (near :: trim (ru.w :: dr))
        simp only [List.length_cons] at hl5
        obtain ⟨A5, c5, rfl, _, _⟩ := ho5.ints.form
        have EX5 := (EX3.trans hx4).trans hx5
        have bO5 := (bO3.ext hx4).ext hx5
        generalize hrr : trim (near :: trim (ru.w :: dr)) = rr at *
        have HRR := Lib.hid hrr
        clear hrr
        have v0 := bO5.cell 2
        have vf := bO5.frozen 2
        simp only [List.getElem?_toArray, List.getElem?_cons_zero, List.getElem?_cons_succ] at v0
        have o5 : OwnInts _ _ _ rr := ownsRow_far ho5 (own_far_blk ho5 bO5 (by decide)) (.slice A5 rr.length c5) (p := ⟨V.heap.size, 2, none⟩)
        have EX6 := EX5.setCell (p := ⟨V.heap.size, 2, none⟩) (Nat.le_refl _) (.slice A5 rr.length c5)
        have bO6 : Blk (w5.setCell ⟨V.heap.size, 2, none⟩ (.slice A5 rr.length c5)) V.heap.size 37 #[.int .i64 ru.n, .slice none 0 0, .slice A5 rr.length c5] := bO5.set_ 2 (.slice A5 rr.length c5)
        have eq6 := EX6.cell q1
        go_wp2_with fail
        generalize w5.setCell ⟨V.heap.size, 2, none⟩ (.slice A5 rr.length c5) = w6 at *
        refine (l05Rest_c _ _ _ (hL.ext EX6) (by omega)).mono ?_
        rintro e w7 ⟨u7, rfl, ho7, hx7⟩
        obtain ⟨dl, hdl'⟩ : ∃ d, d = List.drop 1 c.l := ⟨_, rfl⟩
        have hdll : dl.length ≤ 199 := by rw [hdl']; simp; omega
        rw [← hdl'] at ho7
        have HDL := Lib.hid hdl'
        clear hdl'
        obtain ⟨A7, c7, rfl, _, _⟩ := ho7.ints.form
        have EX7 := EX6.trans hx7
        have bO7 := bO6.ext hx7
        have o5' := OwnInts.ext o5 hx7
        have v1 := bO7.cell 1
        have vf1 := bO7.frozen 1
        simp only [List.getElem?_toArray, List.getElem?_cons_zero, List.getElem?_cons_succ] at v1
        have oL : OwnInts _ _ _ dl := ownsRow_far ho7 (own_far_blk ho7 bO7 (by decide)) (.slice A7 dl.length c7) (p := ⟨V.heap.size, 1, none⟩)
        have oR : OwnInts _ _ _ rr := ownsRow_far o5' (own_far_blk o5' bO7 (by decide)) (.slice A7 dl.length c7) (p := ⟨V.heap.size, 1, none⟩)
        have EX := EX7.setCell (p := ⟨V.heap.size, 1, none⟩) (Nat.le_refl _) (.slice A7 dl.length c7)
        have bO : Blk (w7.setCell ⟨V.heap.size, 1, none⟩ (.slice A7 dl.length c7)) V.heap.size 37 #[.int .i64 ru.n, .slice A7 dl.length c7, .slice A5 rr.length c5] := bO7.set_ 1 (.slice A7 dl.length c7)
        go_wp2_with fail
        generalize w7.setCell ⟨V.heap.size, 1, none⟩ (.slice A7 dl.length c7) = X at *
        have hXX := hXV.trans EX
        have bRX := bRV.ext EX
        obtain ⟨D1, D2⟩ := conf_done (n := ru.n) hXX (Nat.le_refl _) bRX oL oR
        have HD1 : Hid (ConfV (((X.setCell ⟨w.heap.size, 0, none⟩ (.int .i64 ru.n)).setCell ⟨w.heap.size, 1, none⟩ (.slice A7 (dl).length c7)).setCell ⟨w.heap.size, 2, none⟩ (.slice A5 (rr).length c5)) (.agg #[.int .i64 ru.n, .slice A7 (dl).length c7, .slice A5 (rr).length c5]) (stepC ru c)) := by
          unfold Hid stepC
          rw [if_neg (by omega), ← HDL.out, ← HDR.out, HN.out, HRR.out]
          exact D1
        have HD2 := Lib.hid D2
        have HSL : Hid ((stepC ru c).l.length = (dl).length) := by unfold Hid stepC; rw [if_neg (by omega), ← HDL.out, ← HDR.out, HN.out, HRR.out]
        have HSR : Hid ((stepC ru c).r.length = (rr).length) := by unfold Hid stepC; rw [if_neg (by omega), ← HDL.out, ← HDR.out, HN.out, HRR.out]
        have ln1 : (dl).length ≤ 9223372036854775807 := by omega
        have ln2 : (rr).length ≤ 9223372036854775807 := by omega
        have LN : (dl).length ≤ 200 := by omega
        clear D1 D2 oL oR
        generalize (dl).length = nl at *
        generalize (rr).length = nr at *
        have eO0 := bO.cell 0
        have eO1 := bO.cell 1
        have eO2 := bO.cell 2
        have r0 := bRX.cell 0
        have r1 := bRX.cell 1
        have r2 := bRX.cell 2
        have rf0 := bRX.frozen 0
        have rf1 := bRX.frozen 1
        have rf2 := bRX.frozen 2
        simp only [List.getElem?_toArray, List.getElem?_cons_zero, List.getElem?_cons_succ] at eO0 eO1 eO2 r0 r1 r2
        have neg : w.heap.size ≠ V.heap.size := by omega
        have bOf := ((bO.far (p := ⟨w.heap.size, 0, none⟩) neg.symm (.int .i64 ru.n)).far (p := ⟨w.heap.size, 1, none⟩) neg.symm (.slice A7 nl c7)).far (p := ⟨w.heap.size, 2, none⟩) neg.symm (.slice A5 nr c5)
        have y0 := bOf.cell 0
        have y1 := bOf.cell 1
        have y2 := bOf.cell 2
        simp only [List.getElem?_toArray, List.getElem?_cons_zero, List.getElem?_cons_succ] at y0 y1 y2
        have d := (((bRX.set_ 0 (.int .i64 ru.n)).set_ 1 (.slice A7 nl c7)).set_ 2 (.slice A5 nr c5)).cell
        by_cases hl1 : nl ≤ 200
        · have L1 : decide ((nl : Int) ≤ 200) = true := by simp; omega
          have L1' : decide (nl ≤ 200) = true := by simp; omega
          have HL1 := Lib.hid hl1
          clear hl1
          by_cases hl2 : nr ≤ 200
          · have L2 : decide ((nr : Int) ≤ 200) = true := by simp; omega
            have L2' : decide (nr ≤ 200) = true := by simp; omega
            have HL2 := Lib.hid hl2
            clear hl2
            go_region_held3 (fun w' => w'.cell? ⟨V.heap.size, 0, none⟩ = some (.int .i64 ru.n) ∧ w'.cell? ⟨V.heap.size, 1, none⟩ = some (.slice A7 nl c7) ∧ w'.cell? ⟨V.heap.size, 2, none⟩ = some (.slice A5 nr c5)) (first | go_keep | exact ⟨y0, y1, y2⟩) (fail)
            all_goals
              go_wp2
              refine bodyPost_ret (v := .tuple #[.agg #[.int .i64 ru.n, .slice A7 nl c7, .slice A5 nr c5], .bool true]) (by simp [results, Tryz.results85, go_sem, d]) rfl ⟨_, ?_, by first | exact HD1.out | exact HD1.out.ext (Ext.drew _), by first | exact HD2.out | exact HD2.out.trans (Ext.drew _)⟩
              simp [HSL.out, HSR.out, HL1.out, HL2.out]
          · have L2 : decide ((nr : Int) ≤ 200) = false := by simp; omega
            have L2' : decide (nr ≤ 200) = false := by simp; omega
            have HL2 := Lib.hid hl2
            clear hl2
            go_region_held3 (fun w' => w'.cell? ⟨V.heap.size, 0, none⟩ = some (.int .i64 ru.n) ∧ w'.cell? ⟨V.heap.size, 1, none⟩ = some (.slice A7 nl c7) ∧ w'.cell? ⟨V.heap.size, 2, none⟩ = some (.slice A5 nr c5)) (first | go_keep | exact ⟨y0, y1, y2⟩) (fail)
            all_goals
              go_wp2
              refine bodyPost_ret (v := .tuple #[.agg #[.int .i64 ru.n, .slice A7 nl c7, .slice A5 nr c5], .bool false]) (by simp [results, Tryz.results85, go_sem, d]) rfl ⟨_, ?_, by first | exact HD1.out | exact HD1.out.ext (Ext.drew _), by first | exact HD2.out | exact HD2.out.trans (Ext.drew _)⟩
              simp [HSL.out, HSR.out, HL1.out, HL2.out]
        · exact absurd LN hl1
end Go.Proofs.YthhjbmlkncdigaaGreatDoor
end
section
set_option linter.unusedSimpArgs false
set_option linter.unusedVariables false
namespace Go.Proofs.YthhjbmlkncdigaaGreatDoor
open Go Go.RowKit Go.Proofs
/-- The symbol of a configuration at a distance from its head. -/
def cellC (c : ConfD) (z : Int) : Int := if 0 ≤ z then c.r.getD z.toNat 0 else c.l.getD (-1 - z).toNat 0
theorem pushL_getD (s : Int) (xs : List Int) (i : Nat) : (pushL s xs).getD i 0 = (s :: xs).getD i 0 := by
  unfold pushL
  split
  · rename_i h
    obtain ⟨rfl, rfl⟩ := h
    cases i <;> simp
  · rfl
theorem drop1_getD (xs : List Int) (i : Nat) : (xs.drop 1).getD i 0 = xs.getD (i + 1) 0 := by
  simp [List.getD_eq_getElem?_getD, Nat.add_comm]
theorem cell_step {ru : RuleD} (hm : ru.m = 1 ∨ ru.m = -1) (c : ConfD) (z : Int) : cellC (stepI ru c) (z - ru.m) = if z = 0 then ru.w else cellC c z := by
  rcases hm with h | h
  · have e : stepI ru c = ⟨ru.n, pushL ru.w c.l, c.r.drop 1⟩ := by unfold stepI; rw [if_pos (by omega)]
    rw [e, h]
    unfold cellC
    simp only
    by_cases h0 : z = 0
    · subst h0
      rw [if_neg (by omega), if_pos rfl, pushL_getD]
      rfl
    · rw [if_neg h0]
      by_cases h1 : 0 ≤ z
      · rw [if_pos (show 0 ≤ z - 1 by omega), if_pos h1, drop1_getD]
        congr 1
        omega
      · rw [if_neg (show ¬ 0 ≤ z - 1 by omega), if_neg h1, pushL_getD]
        obtain ⟨k, hk⟩ : ∃ k : Nat, (-1 - (z - 1)).toNat = k + 1 := ⟨(-1 - z).toNat, by omega⟩
        rw [hk, List.getD_cons_succ]
        congr 1
        omega
  · have e : stepI ru c = ⟨ru.n, c.l.drop 1, pushL (hdD c.l) (pushL ru.w (c.r.drop 1))⟩ := by unfold stepI; rw [if_neg (by omega)]
    rw [e, h]
    unfold cellC
    simp only
    by_cases h0 : z = 0
    · subst h0
      rw [if_pos (by omega), if_pos rfl, pushL_getD]
      have : (0 - (-1 : Int)).toNat = 0 + 1 := by omega
      rw [this, List.getD_cons_succ, pushL_getD]
      rfl
    · rw [if_neg h0]
      by_cases h1 : 0 ≤ z
      · rw [if_pos (show 0 ≤ z - -1 by omega), if_pos h1, pushL_getD]
        obtain ⟨k, hk⟩ : ∃ k : Nat, z.toNat = k + 1 := ⟨z.toNat - 1, by omega⟩
        have : (z - -1).toNat = (k + 1) + 1 := by omega
        rw [this, List.getD_cons_succ, pushL_getD, List.getD_cons_succ, drop1_getD, hk]
      · rw [if_neg h1]
        by_cases h2 : z = -1
        · subst h2
          rw [if_pos (by omega), pushL_getD]
          rfl
        · rw [if_neg (show ¬ 0 ≤ z - -1 by omega), drop1_getD]
          congr 1
          omega
/-- Two configurations agree on a set of places, seen from two heads at the same place u. -/
structure Mt (D : Int → Prop) (u : Int) (c e : ConfD) : Prop where
  q : c.q = e.q
  at_ : ∀ z, D z → cellC c (z - u) = cellC e (z - u)
theorem Mt.step {D : Int → Prop} {u : Int} {c e : ConfD} (h : Mt D u c e) {ru : RuleD} (hm : ru.m = 1 ∨ ru.m = -1) : Mt D (u + ru.m) (stepI ru c) (stepI ru e) := by
  refine ⟨?_, fun z hz => ?_⟩
  · unfold stepI
    split <;> rfl
  · have e1 : z - (u + ru.m) = (z - u) - ru.m := by omega
    rw [e1, cell_step hm, cell_step hm, h.at_ z hz]
section
variable {m : MachD} (hm : machOk m = true) {c0 : ConfD} (hc0 : IGood m c0) {a b : Nat} {d : Int} {D : Int → Prop}
include hm hc0
end
/-- No blanks at the end. -/
def tidyL (xs : List Int) : Prop := xs = [] ∨ xs.getLastD 0 ≠ 0
theorem tidy_drop {xs : List Int} (h : tidyL xs) : tidyL (xs.drop 1) := by
  cases xs with
  | nil => exact .inl rfl
  | cons a l =>
    cases l with
    | nil => exact .inl rfl
    | cons b l =>
      right
      rcases h with h | h
      · cases h
      · simpa using h
theorem tidy_push {s : Int} {xs : List Int} (h : tidyL xs) : tidyL (pushL s xs) := by
  unfold pushL
  split
  · exact .inl rfl
  · rename_i hn
    right
    cases xs with
    | nil => simp at hn; simpa using hn
    | cons a l =>
      rcases h with h | h
      · cases h
      · simpa using h
theorem tidy_step {ru : RuleD} {c : ConfD} (h : tidyL c.l ∧ tidyL c.r) : tidyL (stepI ru c).l ∧ tidyL (stepI ru c).r := by
  unfold stepI
  split
  · exact ⟨tidy_push h.1, tidy_drop h.2⟩
  · exact ⟨tidy_drop h.1, tidy_push (tidy_push (tidy_drop h.2))⟩
theorem tidy_cfg {m : MachD} {c : ConfD} (h : tidyL c.l ∧ tidyL c.r) : ∀ n, tidyL (cfgI m c n).l ∧ tidyL (cfgI m c n).r := by
  intro n
  induction n with
  | zero => exact h
  | succ n ih => exact tidy_step ih
end Go.Proofs.YthhjbmlkncdigaaGreatDoor
end
section
set_option linter.unusedSimpArgs false
set_option linter.unusedVariables false
namespace Go.Proofs.YthhjbmlkncdigaaGreatDoor
open Go Go.RowKit Go.Proofs
theorem conf_good {m : MachD} {c : ConfD} (h : confB m c = true) : IGood m c ∧ (c.l.length ≤ 200 ∧ c.r.length ≤ 200) ∧ tidyL c.l ∧ tidyL c.r := by
  simp only [confB, sideOk, inB, Bool.and_eq_true, Bool.or_eq_true, decide_eq_true_eq, List.all_eq_true, beq_iff_eq, bne_iff_ne, ne_eq] at h
  obtain ⟨⟨hq, ⟨hl1, hl2⟩, hl3⟩, ⟨hr1, hr2⟩, hr3⟩ := h
  refine ⟨⟨by omega, by omega, fun z hz => by have := hl2 z hz; omega, fun z hz => by have := hr2 z hz; omega⟩, ⟨by omega, by omega⟩, ?_, ?_⟩
  · rcases hl3 with h | h
    · exact .inl (List.length_eq_zero_iff.1 (by omega))
    · exact .inr h
  · rcases hr3 with h | h
    · exact .inl (List.length_eq_zero_iff.1 (by omega))
    · exact .inr h
theorem conf_back {m : MachD} {c : ConfD} (hg : IGood m c) (hf : c.l.length ≤ 200 ∧ c.r.length ≤ 200) (ht : tidyL c.l ∧ tidyL c.r) : confB m c = true := by
  have side : ∀ xs : List Int, xs.length ≤ 200 → (∀ z ∈ xs, 0 ≤ z ∧ z < m.sy) → tidyL xs → sideOk xs m.sy 200 = true := fun xs h1 h2 h3 => by
    simp only [sideOk, inB, Bool.and_eq_true, Bool.or_eq_true, decide_eq_true_eq, List.all_eq_true, beq_iff_eq, bne_iff_ne, ne_eq]
    refine ⟨⟨by omega, fun z hz => by have := h2 z hz; omega⟩, ?_⟩
    rcases h3 with h3 | h3
    · left; rw [h3]; rfl
    · exact .inr h3
  simp only [confB, Bool.and_eq_true]
  refine ⟨⟨?_, side _ hf.1 hg.l ht.1⟩, side _ hf.2 hg.r ht.2⟩
  have h0 := hg.q0
  have h1 := hg.q1
  simp only [inB, Bool.and_eq_true, decide_eq_true_eq]
  omega
theorem trim_tidy {xs : List Int} (h : tidyL xs) : trim xs = xs := by
  rcases h with h | h
  · rw [h]; rfl
  · have hn : trimN xs xs.length = xs.length := by
      cases hl : xs.length with
      | zero => rfl
      | succ n =>
        have e : xs.getD n 0 = xs.getLastD 0 := by
          rw [List.getLastD_eq_getLast?, List.getLast?_eq_getElem?, List.getD_eq_getElem?_getD, hl]
          rfl
        unfold trimN
        rw [if_neg (by rw [e]; exact h)]
    unfold trim
    rw [hn, List.take_length]
theorem trim_push {s : Int} {xs : List Int} (h : tidyL xs) : trim (s :: xs) = pushL s xs := by
  by_cases hn : s = 0 ∧ xs = []
  · obtain ⟨rfl, rfl⟩ := hn
    rfl
  · have e : pushL s xs = s :: xs := if_neg hn
    have ht := tidy_push (s := s) h
    rw [e] at ht ⊢
    exact trim_tidy ht
/-- The reference's words on a configuration. -/
def cR (c : ConfD) : ConfR := ⟨c.q, c.l, c.r⟩
theorem stepC_eq {ru : RuleD} {c : ConfD} (h : tidyL c.l ∧ tidyL c.r) : stepC ru (cR c) = cR (stepI ru c) := by
  have h1 := trim_push (s := ru.w) h.1
  have h2 := trim_push (s := ru.w) (tidy_drop h.2)
  have h3 := trim_push (s := hdD c.l) (tidy_push (s := ru.w) (tidy_drop h.2))
  unfold stepC stepI
  simp only [cR, hdR]
  simp only [hdD] at h3 ⊢
  rw [h1, h2, h3]
  split <;> rfl
end Go.Proofs.YthhjbmlkncdigaaGreatDoor
end
