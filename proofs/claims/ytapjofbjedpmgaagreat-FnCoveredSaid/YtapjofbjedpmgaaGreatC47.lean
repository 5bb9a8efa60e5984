/- The contract of the reference's blank configuration.
Plain words: a machine under other numbers makes the run of the machine under these numbers.
The contract of the reference's R8Machine: a valid machine and a configuration of it. -/
import Derived.Test.YtapjofbjedpmgaaGreatC46
import Derived.BigQuiet
import Derived.Test.YtapjofbjedpmgaaGreatC34
import Derived.Test.YtapjofbjedpmgaaGreatC20
import Derived.Test.YtapjofbjedpmgaaGreatC06
import Derived.Deep.RegionHeld3
section
set_option linter.unusedSimpArgs false
set_option linter.unusedVariables false
namespace Go.Proofs.YtapjofbjedpmgaaGreat
open Go Go.RowKit Go.Proofs
set_option maxHeartbeats 400000
theorem l25Blank_c (w : World) :
    Calls Tryz.prog 22 #[] w fun e w' => ∃ u v, e = .returned (.agg #[.int .i64 0, u, v]) ∧ OwnInts w.heap.size w' u [] ∧ OwnInts w.heap.size w' v [] ∧ Ext w w' := by
  go_enter Tryz.func22, Tryz.ntmps22
  go_wp2
  refine bodyPost_ret (v := .agg #[.int .i64 0, .slice (some ⟨w.heap.size + 1, 0, none⟩) 0 0, .slice (some ⟨w.heap.size + 1 + 1, 0, none⟩) 0 0]) (by simp [results, Tryz.results22, go_sem]) rfl ⟨_, _, rfl, ?_, ?_, ?_⟩
  · exact ⟨by simp [ivs], .inr ⟨w.heap.size + 1, 0, #[], rfl, by omega, (Blk.new _ (w.heap.size + 1) _ _ (by simp)).alloc _, by simp, by unfold maxLen; omega, rfl, by simp [ivs]⟩⟩
  · exact ⟨by simp [ivs], .inr ⟨w.heap.size + 1 + 1, 0, #[], rfl, by omega, Blk.new _ (w.heap.size + 1 + 1) _ _ (by simp), by simp, by unfold maxLen; omega, rfl, by simp [ivs]⟩⟩
  · exact ((Ext.alloc _ _).trans (Ext.alloc _ _)).trans (Ext.alloc _ _)
end Go.Proofs.YtapjofbjedpmgaaGreat
end
section
set_option linter.unusedSimpArgs false
set_option linter.unusedVariables false
set_option linter.unusedSectionVars false
namespace Go.Proofs.YtapjofbjedpmgaaGreat
open Go Go.RowKit Go.Proofs
/-- A change of the numbers below n into one another. -/
structure Chg (n : Int) (F : Int → Int) : Prop where
  rng : ∀ z, 0 ≤ z → z < n → 0 ≤ F z ∧ F z < n
  inj : ∀ a b, 0 ≤ a → a < n → 0 ≤ b → b < n → F a = F b → a = b
theorem Chg.id (n : Int) : Chg n (fun z : Int => z) := ⟨fun z h0 h1 => ⟨h0, h1⟩, fun _ _ _ _ _ _ h => h⟩
section
variable {m : MachD} {S Y : Int → Int} (hm : machOk m = true) (hS : Chg m.st S) (hY : Chg m.sy Y) (h0 : Y 0 = 0)
include hm hS hY
include h0
end
end Go.Proofs.YtapjofbjedpmgaaGreat
end
section
set_option linter.unusedSimpArgs false
set_option linter.unusedVariables false
namespace Go.Proofs.YtapjofbjedpmgaaGreat
open Go Go.RowKit Go.Proofs
set_option maxHeartbeats 400000
theorem mac_st {m : MachD} (h : machOk m = true) : (2 ≤ m.sy ∧ m.sy ≤ 6) ∧ (1 ≤ m.st ∧ m.st ≤ 1000) := by
  obtain ⟨h1, _, _⟩ := machOk_five h
  omega
theorem six_rules {g a b : Nat} {W : World} {v : Value} {rs : List RuleD} (h : OwnRules g W v rs) (ha : ∀ k, v.ownBlock = some k → k ≠ a) (hb : ∀ k, v.ownBlock = some k → k ≠ b) (x y z x' y' z' : Value) : OwnRules g ((((((W.setCell ⟨a, 0, none⟩ x).setCell ⟨a, 1, none⟩ y).setCell ⟨a, 2, none⟩ z).setCell ⟨b, 0, none⟩ x').setCell ⟨b, 1, none⟩ y').setCell ⟨b, 2, none⟩ z').drew v rs :=
  World.ownsRow.drew (ownsRow_far (ownsRow_far (ownsRow_far (ownsRow_far (ownsRow_far (ownsRow_far h ha _) ha _) ha _) hb _) hb _) hb _)
theorem six_ints {g a b : Nat} {W : World} {v : Value} {rs : List Int} (h : OwnInts g W v rs) (ha : ∀ k, v.ownBlock = some k → k ≠ a) (hb : ∀ k, v.ownBlock = some k → k ≠ b) (x y z x' y' z' : Value) : OwnInts g ((((((W.setCell ⟨a, 0, none⟩ x).setCell ⟨a, 1, none⟩ y).setCell ⟨a, 2, none⟩ z).setCell ⟨b, 0, none⟩ x').setCell ⟨b, 1, none⟩ y').setCell ⟨b, 2, none⟩ z').drew v rs :=
  World.ownsRow.drew (ownsRow_far (ownsRow_far (ownsRow_far (ownsRow_far (ownsRow_far (ownsRow_far h ha _) ha _) ha _) hb _) hb _) hb _)
theorem six_ext {w : World} {a b : Nat} {W : World} (h : Ext w W) (ha : w.heap.size ≤ a) (hb : w.heap.size ≤ b) (x y z x' y' z' : Value) : Ext w ((((((W.setCell ⟨a, 0, none⟩ x).setCell ⟨a, 1, none⟩ y).setCell ⟨a, 2, none⟩ z).setCell ⟨b, 0, none⟩ x').setCell ⟨b, 1, none⟩ y').setCell ⟨b, 2, none⟩ z').drew :=
  (((((((h.setCell ha _).setCell ha _).setCell ha _).setCell hb _).setCell hb _).setCell hb _)).trans (Ext.drew _)
set_option maxRecDepth 20000 in
set_option maxHeartbeats 4000000 in
theorem R8Machine_c (v : Value) (bs : List Int) (w : World) (h : Bytes w v bs) :
    Calls Tryz.prog 6 #[v] w fun e w' => (∃ (m : MachD) (c : ConfD) (mv lv rv : Value), e = .returned (.tuple #[.agg #[.int .i64 m.sy, .int .i64 m.st, mv], .agg #[.int .i64 c.q, lv, rv]]) ∧ machOk m = true ∧ m.rules.length ≤ 600 ∧ confB m c = true ∧ OwnRules w.heap.size w' mv m.rules ∧ OwnInts w.heap.size w' lv c.l ∧ OwnInts w.heap.size w' rv c.r) ∧ Ext w w' := by
  obtain ⟨W, hW⟩ : ∃ W, W = (w.alloc (.cells #[.int .i64 0, .int .i64 0, .slice none 0 0] 26)).alloc (.cells #[.int .i64 0, .slice none 0 0, .slice none 0 0] 29) := ⟨_, rfl⟩
  have hX : Ext w W := by rw [hW]; exact (Ext.alloc _ _).trans (Ext.alloc _ _)
  have bM : Blk W w.heap.size 26 #[.int .i64 0, .int .i64 0, .slice none 0 0] := by rw [hW]; exact (Blk.new _ _ _ _ rfl).alloc _
  have bC : Blk W (w.heap.size + 1) 29 #[.int .i64 0, .slice none 0 0, .slice none 0 0] := by rw [hW]; exact Blk.new _ _ _ _ (by simp)
  have hWs : W.heap.size = w.heap.size + 2 := by rw [hW]; simp
  have hW' := h.ext hX
  generalize hg : w.heap.size = g at *
  have HG := Lib.hid hg
  have HWS := Lib.hid hWs
  clear hWs
  go_enter Tryz.func6, Tryz.ntmps6
  go_wp2_with fail
  rw [← hW]
  clear hW hg
  refine (from_c v bs W hW').mono ?_
  rintro e w1 ⟨⟨b, rfl, hb, hs1⟩, hx1⟩
  have bM1 := bM.ext hx1
  have bC1 := bC.ext hx1
  have hX1 := hX.trans hx1
  have z1 := hx1.size
  have hbl1 := hs1.lt
  clear bM bC hW' h
  go_wp2_with fail
  refine (l05DrawOk_c W.heap.size b 0 w1 hs1 z1 (by omega)).mono ?_
  rintro e w2 ⟨⟨m, mv, rfl, oM, hl0, hl6, hok⟩, hs2, hg2⟩
  have bM2 := blk_src hs1 hg2 bM1 (by decide)
  have bC2 := blk_src hs1 hg2 bC1 (by decide)
  have hX2 : Ext w w2 := hX1.grown hg2 (fun k hk => by injection hk with hk; have := HG.out; have := HWS.out; omega)
  have z2 := hg2.size
  obtain ⟨⟨s1, s2⟩, s3, s4⟩ := mac_st hok
  have HOK := Lib.hid hok
  have HL6 := Lib.hid hl6
  have HL0 := Lib.hid hl0
  clear hok hl6 hl0 bM1 bC1 hs1
  obtain ⟨Am, cm, rfl, _, _, _⟩ := (ownsRow_row oM).form
  obtain ⟨V, hV⟩ : ∃ V, V = w2.alloc (.cells #[.int .i64 m.sy, .int .i64 m.st, .slice Am m.rules.length cm] 26) := ⟨_, rfl⟩
  obtain ⟨bm, hbm⟩ : ∃ bm, bm = w2.heap.size := ⟨_, rfl⟩
  have hXV : Ext w2 V := by rw [hV]; exact Ext.alloc _ _
  have bV : Blk V bm 26 #[.int .i64 m.sy, .int .i64 m.st, .slice Am m.rules.length cm] := by rw [hV]; exact Blk.new _ _ _ _ hbm.symm
  have hsV := hs2.ext hXV
  have oMV := OwnRules.ext oM hXV
  have bMV := bM2.ext hXV
  have bCV := bC2.ext hXV
  have hXX := hX2.trans hXV
  have zV := hXV.size
  clear bM2 bC2 hs2 oM hXV hX1 hX2
  go_wp2_with fail
  rw [← hV, ← hbm]
  have HBM : Hid (W.heap.size ≤ bm ∧ bm < V.heap.size) := Lib.hid ⟨by omega, bV.lt⟩
  clear hV hbm
  refine (pick_c W.heap.size b _ m.st V hsV (by omega)).mono ?_
  rintro e w4 ⟨⟨q, rfl, q0, q1, q2⟩, hs4, hg4⟩
  have hq : 0 ≤ q ∧ q ≤ m.st - 1 := by
    by_cases hc : m.st ≤ 1
    · have := q1 hc; omega
    · have := q2 (by omega); omega
  have b4 := blk_src hsV hg4 bV (by decide)
  have bM4 := blk_src hsV hg4 bMV (by decide)
  have bC4 := blk_src hsV hg4 bCV (by decide)
  have oM4 := own_src hsV hg4 oMV (by decide)
  have hX4 : Ext w w4 := hXX.grown hg4 (fun k hk => by injection hk with hk; have := HG.out; have := HWS.out; omega)
  have z4 := hg4.size
  clear q1 q2 q0 hsV hg4 bV bMV bCV oMV hXX
  go_wp2_with fail
  refine (l05DrawCells_c W.heap.size b bm _ m.sy _ _ w4 hs4 (by omega) b4 s1 s2 (by omega)).mono ?_
  rintro e w5 ⟨⟨lv, l, rfl, oL, hl⟩, hs5, hg5⟩
  have b5 := blk_src hs4 hg5 b4 (by decide)
  have bM5 := blk_src hs4 hg5 bM4 (by decide)
  have bC5 := blk_src hs4 hg5 bC4 (by decide)
  have oM5 := own_src hs4 hg5 oM4 (by decide)
  have hX5 : Ext w w5 := hX4.grown hg5 (fun k hk => by injection hk with hk; have := HG.out; have := HWS.out; omega)
  have z5 := hg5.size
  clear hs4 hg5 b4 bM4 bC4 oM4
  go_wp2_with fail
  refine (l05DrawCells_c W.heap.size b bm _ m.sy _ _ w5 hs5 (by omega) b5 s1 s2 (by omega)).mono ?_
  rintro e w6 ⟨⟨rv, r, rfl, oR, hr⟩, hs6, hg6⟩
  have b6 := blk_src hs5 hg6 b5 (by decide)
  have bM6 := blk_src hs5 hg6 bM5 (by decide)
  have bC6 := blk_src hs5 hg6 bC5 (by decide)
  have oM6 := own_src hs5 hg6 oM5 (by decide)
  have oL6 := own_src hs5 hg6 oL (by decide)
  have hX6 : Ext w w6 := hX5.grown hg6 (fun k hk => by injection hk with hk; have := HG.out; have := HWS.out; omega)
  have z6 := hg6.size
  clear hs5 hg6 b5 bM5 bC5 oM5 oL
  obtain ⟨Al, cl, rfl, _, _, _⟩ := (ownsRow_row oL6).form
  obtain ⟨Ar, cr, rfl, _, _, _⟩ := (ownsRow_row oR).form
  have HC : Hid (confB m ⟨q, l, r⟩ = true) := Lib.hid (by
    simp only [confB, Bool.and_eq_true]
    refine ⟨⟨?_, hl⟩, hr⟩
    simp only [inB, Bool.and_eq_true, decide_eq_true_eq]
    omega)
  clear hl hr hq
  obtain ⟨V2, hV2⟩ : ∃ V2, V2 = w6.alloc (.cells #[.int .i64 q, .slice Al l.length cl, .slice Ar r.length cr] 29) := ⟨_, rfl⟩
  obtain ⟨bc, hbc⟩ : ∃ bc, bc = w6.heap.size := ⟨_, rfl⟩
  have hXV2 : Ext w6 V2 := by rw [hV2]; exact Ext.alloc _ _
  have cV : Blk V2 bc 29 #[.int .i64 q, .slice Al l.length cl, .slice Ar r.length cr] := by rw [hV2]; exact Blk.new _ _ _ _ hbc.symm
  have b7 := b6.ext hXV2
  have bM7 := bM6.ext hXV2
  have bC7 := bC6.ext hXV2
  have oM7 := OwnRules.ext oM6 hXV2
  have oL7 := ownsRow_ext oL6 hXV2
  have oR7 := ownsRow_ext oR hXV2
  have hs7 := hs6.ext hXV2
  have hX7 := hX6.trans hXV2
  have z7 := hXV2.size
  have b6' := b6.lt
  clear hs6 b6 bM6 bC6 oM6 oL6 oR hXV2
  go_wp2_with fail
  rw [← hV2, ← hbc]
  have HBC : Hid (bm < bc) := Lib.hid (by have := b6'; omega)
  clear hV2 hbc
  refine (one_c W.heap.size b _ 3 V2 hs7 (by omega)).mono ?_
  rintro e w8 ⟨⟨qq, rfl⟩, hs8, hg8⟩
  have b8 := blk_src hs7 hg8 b7 (by decide)
  have c8 := blk_src hs7 hg8 cV (by decide)
  have bM8 := blk_src hs7 hg8 bM7 (by decide)
  have bC8 := blk_src hs7 hg8 bC7 (by decide)
  have oM8 := own_src hs7 hg8 oM7 (by decide)
  have oL8 := own_src hs7 hg8 oL7 (by decide)
  have oR8 := own_src hs7 hg8 oR7 (by decide)
  have hX8 : Ext w w8 := hX7.grown hg8 (fun k hk => by injection hk with hk; have := HG.out; have := HWS.out; omega)
  have z8 := hg8.size
  clear hs7 hg8 b7 cV bM7 bC7 oM7 oL7 oR7 hs8
  have oM9 : OwnRules g w8 _ m.rules := ownsRow_base oM8 (show g ≤ w1.heap.size by have := HWS.out; omega)
  have oL9 : OwnInts g w8 _ l := ownsRow_base oL8 (show g ≤ w4.heap.size by have := HWS.out; omega)
  have oR9 : OwnInts g w8 _ r := ownsRow_base oR8 (show g ≤ w5.heap.size by have := HWS.out; omega)
  clear oM8 oL8 oR8
  have hbm := HBM.out
  have hbc := HBC.out
  have hws := HWS.out
  have n1 : bm ≠ g := by omega
  have n2 : bm ≠ g + 1 := by omega
  have n3 : bc ≠ g := by omega
  have n4 : bc ≠ g + 1 := by omega
  have n5 : bm ≠ bc := by omega
  clear hbm hbc hws
  cases qq with
  | false =>
    have m0 := b8.cell 0
    have m1 := b8.cell 1
    have m2 := b8.cell 2
    have d0 := c8.cell 0
    have d1 := c8.cell 1
    have d2 := c8.cell 2
    have r0 := bM8.cell 0
    have r1 := bM8.cell 1
    have r2 := bM8.cell 2
    have f0 := bM8.frozen 0
    have f1 := bM8.frozen 1
    have f2 := bM8.frozen 2
    have s0 := bC8.cell 0
    have s1 := bC8.cell 1
    have s2 := bC8.cell 2
    have g0 := bC8.frozen 0
    have g1 := bC8.frozen 1
    have g2 := bC8.frozen 2
    have b9 := ((b8.far (p := ⟨g, 0, none⟩) n1 (.int .i64 m.sy)).far (p := ⟨g, 1, none⟩) n1 (.int .i64 m.st)).far (p := ⟨g, 2, none⟩) n1 (.slice Am m.rules.length cm)
    have c9 := ((c8.far (p := ⟨g, 0, none⟩) n3 (.int .i64 m.sy)).far (p := ⟨g, 1, none⟩) n3 (.int .i64 m.st)).far (p := ⟨g, 2, none⟩) n3 (.slice Am m.rules.length cm)
    have bA := ((b8.far (p := ⟨g + 1, 0, none⟩) n2 (.int .i64 q)).far (p := ⟨g + 1, 1, none⟩) n2 (.slice Al l.length cl)).far (p := ⟨g + 1, 2, none⟩) n2 (.slice Ar r.length cr)
    have cA := ((c8.far (p := ⟨g + 1, 0, none⟩) n4 (.int .i64 q)).far (p := ⟨g + 1, 1, none⟩) n4 (.slice Al l.length cl)).far (p := ⟨g + 1, 2, none⟩) n4 (.slice Ar r.length cr)
    have bB := ((b9.far (p := ⟨g + 1, 0, none⟩) n2 (.int .i64 q)).far (p := ⟨g + 1, 1, none⟩) n2 (.slice Al l.length cl)).far (p := ⟨g + 1, 2, none⟩) n2 (.slice Ar r.length cr)
    have cB := ((c9.far (p := ⟨g + 1, 0, none⟩) n4 (.int .i64 q)).far (p := ⟨g + 1, 1, none⟩) n4 (.slice Al l.length cl)).far (p := ⟨g + 1, 2, none⟩) n4 (.slice Ar r.length cr)
    have bD := ((bA.far (p := ⟨g, 0, none⟩) n1 (.int .i64 m.sy)).far (p := ⟨g, 1, none⟩) n1 (.int .i64 m.st)).far (p := ⟨g, 2, none⟩) n1 (.slice Am m.rules.length cm)
    have cD := ((cA.far (p := ⟨g, 0, none⟩) n3 (.int .i64 m.sy)).far (p := ⟨g, 1, none⟩) n3 (.int .i64 m.st)).far (p := ⟨g, 2, none⟩) n3 (.slice Am m.rules.length cm)
    have K9 := And.intro (b9.drew.cell 0) (And.intro (b9.drew.cell 1) (And.intro (b9.drew.cell 2) (And.intro (c9.drew.cell 0) (And.intro (c9.drew.cell 1) (c9.drew.cell 2)))))
    have KA := And.intro (bA.drew.cell 0) (And.intro (bA.drew.cell 1) (And.intro (bA.drew.cell 2) (And.intro (cA.drew.cell 0) (And.intro (cA.drew.cell 1) (cA.drew.cell 2)))))
    have KB := And.intro (bB.drew.cell 0) (And.intro (bB.drew.cell 1) (And.intro (bB.drew.cell 2) (And.intro (cB.drew.cell 0) (And.intro (cB.drew.cell 1) (cB.drew.cell 2)))))
    have KD := And.intro (bD.drew.cell 0) (And.intro (bD.drew.cell 1) (And.intro (bD.drew.cell 2) (And.intro (cD.drew.cell 0) (And.intro (cD.drew.cell 1) (cD.drew.cell 2)))))
    simp only [List.getElem?_toArray, List.getElem?_cons_zero, List.getElem?_cons_succ] at m0 m1 m2 d0 d1 d2 r0 r1 r2 s0 s1 s2 K9 KA KB KD
    have L9 := Lib.hid K9
    have LA := Lib.hid KA
    have LB := Lib.hid KB
    have LD := Lib.hid KD
    have ng : g ≠ g + 1 := by omega
    clear K9 KA KB KD b9 c9 bA cA bB cB bD cD
    go_wp2_with fail
    go_region_held3 (fun w' => w'.cell? ⟨bm, 0, none⟩ = some (.int .i64 m.sy) ∧ w'.cell? ⟨bm, 1, none⟩ = some (.int .i64 m.st) ∧ w'.cell? ⟨bm, 2, none⟩ = some (.slice Am m.rules.length cm) ∧ w'.cell? ⟨bc, 0, none⟩ = some (.int .i64 q) ∧ w'.cell? ⟨bc, 1, none⟩ = some (.slice Al l.length cl) ∧ w'.cell? ⟨bc, 2, none⟩ = some (.slice Ar r.length cr)) (first | (go_keep; done) | with_reducible exact L9.out | with_reducible exact LA.out | with_reducible exact LB.out | with_reducible exact LD.out) (fail)
    all_goals
      have hfm1 := own_far_blk oM9 bM8 (by decide)
      have hfm2 := own_far_blk oM9 bC8 (by decide)
      have hfl1 := own_far_blk oL9 bM8 (by decide)
      have hfl2 := own_far_blk oL9 bC8 (by decide)
      have hfr1 := own_far_blk oR9 bM8 (by decide)
      have hfr2 := own_far_blk oR9 bC8 (by decide)
      have dA := ((((((bM8.set_ 0 (.int .i64 m.sy)).set_ 1 (.int .i64 m.st)).set_ 2 (.slice Am m.rules.length cm)).far (p := ⟨g + 1, 0, none⟩) ng (.int .i64 q)).far (p := ⟨g + 1, 1, none⟩) ng (.slice Al l.length cl)).far (p := ⟨g + 1, 2, none⟩) ng (.slice Ar r.length cr)).cell
      have dB := ((((((bM8.far (p := ⟨g + 1, 0, none⟩) ng (.int .i64 q)).far (p := ⟨g + 1, 1, none⟩) ng (.slice Al l.length cl)).far (p := ⟨g + 1, 2, none⟩) ng (.slice Ar r.length cr)).set_ 0 (.int .i64 m.sy)).set_ 1 (.int .i64 m.st)).set_ 2 (.slice Am m.rules.length cm)).cell
      have eA := ((((((bC8.far (p := ⟨g, 0, none⟩) ng.symm (.int .i64 m.sy)).far (p := ⟨g, 1, none⟩) ng.symm (.int .i64 m.st)).far (p := ⟨g, 2, none⟩) ng.symm (.slice Am m.rules.length cm)).set_ 0 (.int .i64 q)).set_ 1 (.slice Al l.length cl)).set_ 2 (.slice Ar r.length cr)).cell
      have eB := ((((((bC8.set_ 0 (.int .i64 q)).set_ 1 (.slice Al l.length cl)).set_ 2 (.slice Ar r.length cr)).far (p := ⟨g, 0, none⟩) ng.symm (.int .i64 m.sy)).far (p := ⟨g, 1, none⟩) ng.symm (.int .i64 m.st)).far (p := ⟨g, 2, none⟩) ng.symm (.slice Am m.rules.length cm)).cell
      go_wp2
      have hgw : w.heap.size ≤ g := Nat.le_of_eq HG.out
      have hgw1 : w.heap.size ≤ g + 1 := Nat.le_succ_of_le hgw
      refine bodyPost_ret (v := .tuple #[.agg #[.int .i64 m.sy, .int .i64 m.st, .slice Am m.rules.length cm], .agg #[.int .i64 q, .slice Al l.length cl, .slice Ar r.length cr]]) ?_ rfl ⟨⟨m, ⟨q, l, r⟩, _, _, _, rfl, HOK.out, HL6.out, HC.out, ?_, ?_, ?_⟩, ?_⟩
      · first
          | (simp [results, Tryz.results6, go_sem, dA, eA]; done)
          | (simp [results, Tryz.results6, go_sem, dB, eB]; done)
      · try rw [HG.out]
        try dsimp only [blankC]
        first
          | with_reducible exact six_rules (a := g) (b := g + 1) oM9 hfm1 hfm2 _ _ _ _ _ _
          | with_reducible exact six_rules (a := g + 1) (b := g) oM9 hfm2 hfm1 _ _ _ _ _ _
      · try rw [HG.out]
        try dsimp only [blankC]
        first
          | with_reducible exact six_ints (a := g) (b := g + 1) oL9 hfl1 hfl2 _ _ _ _ _ _
          | with_reducible exact six_ints (a := g + 1) (b := g) oL9 hfl2 hfl1 _ _ _ _ _ _
      · try rw [HG.out]
        try dsimp only [blankC]
        first
          | with_reducible exact six_ints (a := g) (b := g + 1) oR9 hfr1 hfr2 _ _ _ _ _ _
          | with_reducible exact six_ints (a := g + 1) (b := g) oR9 hfr2 hfr1 _ _ _ _ _ _
      · first
          | with_reducible exact six_ext (a := g) (b := g + 1) hX8 hgw hgw1 _ _ _ _ _ _
          | with_reducible exact six_ext (a := g + 1) (b := g) hX8 hgw1 hgw _ _ _ _ _ _
  | true =>
    go_wp2_with fail
    refine (l25Blank_c w8).mono ?_
    rintro e w9 ⟨ul, ur, rfl, oUl, oUr, hx9⟩
    obtain ⟨Ul, kl, rfl, _, _⟩ := oUl.ints.form
    obtain ⟨Ur, kr, rfl, _, _⟩ := oUr.ints.form
    have hC0 := conf_blank HOK.out
    clear HC
    have c9 := c8.ext hx9
    have b9 := b8.ext hx9
    have bM9 := bM8.ext hx9
    have bC9 := bC8.ext hx9
    have oM8 := OwnRules.ext oM9 hx9
    have z9 := hx9.size
    have lc := c8.lt
    have hg8 : g ≤ w8.heap.size := by have := bM8.lt; omega
    have oL8 : OwnInts g w9 (.slice Ul ([] : List Int).length kl) [] := ownsRow_base oUl hg8
    have oR8 : OwnInts g w9 (.slice Ur ([] : List Int).length kr) [] := ownsRow_base oUr hg8
    have hX9 := hX8.trans hx9
    have d := c9.cell
    have f := c9.frozen
    have fl := own_far_blk oL8 c9 (by decide)
    have fr := own_far_blk oR8 c9 (by decide)
    have fm := own_far_blk oM8 c9 (by decide)
    have hbcw : w.heap.size ≤ bc := by have := HG.out; have := HWS.out; have := HBM.out; have := HBC.out; omega
    obtain ⟨wB, hwB⟩ : ∃ wB, wB = ((w9.setCell ⟨bc, 0, none⟩ (.int .i64 0)).setCell ⟨bc, 1, none⟩ (.slice Ul 0 kl)).setCell ⟨bc, 2, none⟩ (.slice Ur 0 kr) := ⟨_, rfl⟩
    clear b8 c8 bM8 bC8 oM9 oL9 oR9 hX8
    have n6 : g ≠ bc := fun e => n3 e.symm
    have n7 : g + 1 ≠ bc := fun e => n4 e.symm
    have b8 : Blk wB bm 26 #[.int .i64 m.sy, .int .i64 m.st, .slice Am m.rules.length cm] := by rw [hwB]; exact ((b9.far (p := ⟨bc, 0, none⟩) n5 _).far (p := ⟨bc, 1, none⟩) n5 _).far (p := ⟨bc, 2, none⟩) n5 _
    have bM8 : Blk wB g 26 #[.int .i64 0, .int .i64 0, .slice none 0 0] := by rw [hwB]; exact ((bM9.far (p := ⟨bc, 0, none⟩) n6 _).far (p := ⟨bc, 1, none⟩) n6 _).far (p := ⟨bc, 2, none⟩) n6 _
    have bC8 : Blk wB (g + 1) 29 #[.int .i64 0, .slice none 0 0, .slice none 0 0] := by rw [hwB]; exact ((bC9.far (p := ⟨bc, 0, none⟩) n7 _).far (p := ⟨bc, 1, none⟩) n7 _).far (p := ⟨bc, 2, none⟩) n7 _
    have c8 : Blk wB bc 29 #[.int .i64 0, .slice Ul 0 kl, .slice Ur 0 kr] := by rw [hwB]; exact ((c9.set_ 0 _).set_ 1 _).set_ 2 _
    have oM9 : OwnRules g wB (.slice Am m.rules.length cm) m.rules := by rw [hwB]; exact ownsRow_far (ownsRow_far (ownsRow_far oM8 fm _) fm _) fm _
    have oL9 : OwnInts g wB (.slice Ul 0 kl) [] := by rw [hwB]; exact ownsRow_far (ownsRow_far (ownsRow_far oL8 fl _) fl _) fl _
    have oR9 : OwnInts g wB (.slice Ur 0 kr) [] := by rw [hwB]; exact ownsRow_far (ownsRow_far (ownsRow_far oR8 fr _) fr _) fr _
    have hX8 : Ext w wB := by rw [hwB]; exact ((hX9.setCell hbcw _).setCell hbcw _).setCell hbcw _
    have HC : Hid (confB m blankC = true) := Lib.hid hC0
    clear hbcw hX9 fl fr fm oL8 oR8 oM8 b9 bM9 bC9 c9 oUl oUr hx9 hC0
    try simp only [List.length_nil]
    go_wp2_with fail
    try simp only [List.length_nil]
    rw [← hwB]
    clear hwB d f
    have m0 := b8.cell 0
    have m1 := b8.cell 1
    have m2 := b8.cell 2
    have d0 := c8.cell 0
    have d1 := c8.cell 1
    have d2 := c8.cell 2
    have r0 := bM8.cell 0
    have r1 := bM8.cell 1
    have r2 := bM8.cell 2
    have f0 := bM8.frozen 0
    have f1 := bM8.frozen 1
    have f2 := bM8.frozen 2
    have s0 := bC8.cell 0
    have s1 := bC8.cell 1
    have s2 := bC8.cell 2
    have g0 := bC8.frozen 0
    have g1 := bC8.frozen 1
    have g2 := bC8.frozen 2
    have b9 := ((b8.far (p := ⟨g, 0, none⟩) n1 (.int .i64 m.sy)).far (p := ⟨g, 1, none⟩) n1 (.int .i64 m.st)).far (p := ⟨g, 2, none⟩) n1 (.slice Am m.rules.length cm)
    have c9 := ((c8.far (p := ⟨g, 0, none⟩) n3 (.int .i64 m.sy)).far (p := ⟨g, 1, none⟩) n3 (.int .i64 m.st)).far (p := ⟨g, 2, none⟩) n3 (.slice Am m.rules.length cm)
    have bA := ((b8.far (p := ⟨g + 1, 0, none⟩) n2 (.int .i64 0)).far (p := ⟨g + 1, 1, none⟩) n2 (.slice Ul 0 kl)).far (p := ⟨g + 1, 2, none⟩) n2 (.slice Ur 0 kr)
    have cA := ((c8.far (p := ⟨g + 1, 0, none⟩) n4 (.int .i64 0)).far (p := ⟨g + 1, 1, none⟩) n4 (.slice Ul 0 kl)).far (p := ⟨g + 1, 2, none⟩) n4 (.slice Ur 0 kr)
    have bB := ((b9.far (p := ⟨g + 1, 0, none⟩) n2 (.int .i64 0)).far (p := ⟨g + 1, 1, none⟩) n2 (.slice Ul 0 kl)).far (p := ⟨g + 1, 2, none⟩) n2 (.slice Ur 0 kr)
    have cB := ((c9.far (p := ⟨g + 1, 0, none⟩) n4 (.int .i64 0)).far (p := ⟨g + 1, 1, none⟩) n4 (.slice Ul 0 kl)).far (p := ⟨g + 1, 2, none⟩) n4 (.slice Ur 0 kr)
    have bD := ((bA.far (p := ⟨g, 0, none⟩) n1 (.int .i64 m.sy)).far (p := ⟨g, 1, none⟩) n1 (.int .i64 m.st)).far (p := ⟨g, 2, none⟩) n1 (.slice Am m.rules.length cm)
    have cD := ((cA.far (p := ⟨g, 0, none⟩) n3 (.int .i64 m.sy)).far (p := ⟨g, 1, none⟩) n3 (.int .i64 m.st)).far (p := ⟨g, 2, none⟩) n3 (.slice Am m.rules.length cm)
    have K9 := And.intro (b9.drew.cell 0) (And.intro (b9.drew.cell 1) (And.intro (b9.drew.cell 2) (And.intro (c9.drew.cell 0) (And.intro (c9.drew.cell 1) (c9.drew.cell 2)))))
    have KA := And.intro (bA.drew.cell 0) (And.intro (bA.drew.cell 1) (And.intro (bA.drew.cell 2) (And.intro (cA.drew.cell 0) (And.intro (cA.drew.cell 1) (cA.drew.cell 2)))))
    have KB := And.intro (bB.drew.cell 0) (And.intro (bB.drew.cell 1) (And.intro (bB.drew.cell 2) (And.intro (cB.drew.cell 0) (And.intro (cB.drew.cell 1) (cB.drew.cell 2)))))
    have KD := And.intro (bD.drew.cell 0) (And.intro (bD.drew.cell 1) (And.intro (bD.drew.cell 2) (And.intro (cD.drew.cell 0) (And.intro (cD.drew.cell 1) (cD.drew.cell 2)))))
    simp only [List.getElem?_toArray, List.getElem?_cons_zero, List.getElem?_cons_succ] at m0 m1 m2 d0 d1 d2 r0 r1 r2 s0 s1 s2 K9 KA KB KD
    have L9 := Lib.hid K9
    have LA := Lib.hid KA
    have LB := Lib.hid KB
    have LD := Lib.hid KD
    have ng : g ≠ g + 1 := by omega
    clear K9 KA KB KD b9 c9 bA cA bB cB bD cD
    go_region_held3 (fun w' => w'.cell? ⟨bm, 0, none⟩ = some (.int .i64 m.sy) ∧ w'.cell? ⟨bm, 1, none⟩ = some (.int .i64 m.st) ∧ w'.cell? ⟨bm, 2, none⟩ = some (.slice Am m.rules.length cm) ∧ w'.cell? ⟨bc, 0, none⟩ = some (.int .i64 0) ∧ w'.cell? ⟨bc, 1, none⟩ = some (.slice Ul 0 kl) ∧ w'.cell? ⟨bc, 2, none⟩ = some (.slice Ur 0 kr)) (first | (go_keep; done) | with_reducible exact L9.out | with_reducible exact LA.out | with_reducible exact LB.out | with_reducible exact LD.out) (fail)
    all_goals
      have hfm1 := own_far_blk oM9 bM8 (by decide)
      have hfm2 := own_far_blk oM9 bC8 (by decide)
      have hfl1 := own_far_blk oL9 bM8 (by decide)
      have hfl2 := own_far_blk oL9 bC8 (by decide)
      have hfr1 := own_far_blk oR9 bM8 (by decide)
      have hfr2 := own_far_blk oR9 bC8 (by decide)
      have dA := ((((((bM8.set_ 0 (.int .i64 m.sy)).set_ 1 (.int .i64 m.st)).set_ 2 (.slice Am m.rules.length cm)).far (p := ⟨g + 1, 0, none⟩) ng (.int .i64 0)).far (p := ⟨g + 1, 1, none⟩) ng (.slice Ul 0 kl)).far (p := ⟨g + 1, 2, none⟩) ng (.slice Ur 0 kr)).cell
      have dB := ((((((bM8.far (p := ⟨g + 1, 0, none⟩) ng (.int .i64 0)).far (p := ⟨g + 1, 1, none⟩) ng (.slice Ul 0 kl)).far (p := ⟨g + 1, 2, none⟩) ng (.slice Ur 0 kr)).set_ 0 (.int .i64 m.sy)).set_ 1 (.int .i64 m.st)).set_ 2 (.slice Am m.rules.length cm)).cell
      have eA := ((((((bC8.far (p := ⟨g, 0, none⟩) ng.symm (.int .i64 m.sy)).far (p := ⟨g, 1, none⟩) ng.symm (.int .i64 m.st)).far (p := ⟨g, 2, none⟩) ng.symm (.slice Am m.rules.length cm)).set_ 0 (.int .i64 0)).set_ 1 (.slice Ul 0 kl)).set_ 2 (.slice Ur 0 kr)).cell
      have eB := ((((((bC8.set_ 0 (.int .i64 0)).set_ 1 (.slice Ul 0 kl)).set_ 2 (.slice Ur 0 kr)).far (p := ⟨g, 0, none⟩) ng.symm (.int .i64 m.sy)).far (p := ⟨g, 1, none⟩) ng.symm (.int .i64 m.st)).far (p := ⟨g, 2, none⟩) ng.symm (.slice Am m.rules.length cm)).cell
      go_wp2
      have hgw : w.heap.size ≤ g := Nat.le_of_eq HG.out
      have hgw1 : w.heap.size ≤ g + 1 := Nat.le_succ_of_le hgw
      refine bodyPost_ret (v := .tuple #[.agg #[.int .i64 m.sy, .int .i64 m.st, .slice Am m.rules.length cm], .agg #[.int .i64 0, .slice Ul 0 kl, .slice Ur 0 kr]]) ?_ rfl ⟨⟨m, blankC, _, _, _, rfl, HOK.out, HL6.out, HC.out, ?_, ?_, ?_⟩, ?_⟩
      · first
          | (simp [results, Tryz.results6, go_sem, dA, eA]; done)
          | (simp [results, Tryz.results6, go_sem, dB, eB]; done)
      · try rw [HG.out]
        try dsimp only [blankC]
        first
          | with_reducible exact six_rules (a := g) (b := g + 1) oM9 hfm1 hfm2 _ _ _ _ _ _
          | with_reducible exact six_rules (a := g + 1) (b := g) oM9 hfm2 hfm1 _ _ _ _ _ _
      · try rw [HG.out]
        try dsimp only [blankC]
        first
          | with_reducible exact six_ints (a := g) (b := g + 1) oL9 hfl1 hfl2 _ _ _ _ _ _
          | with_reducible exact six_ints (a := g + 1) (b := g) oL9 hfl2 hfl1 _ _ _ _ _ _
      · try rw [HG.out]
        try dsimp only [blankC]
        first
          | with_reducible exact six_ints (a := g) (b := g + 1) oR9 hfr1 hfr2 _ _ _ _ _ _
          | with_reducible exact six_ints (a := g + 1) (b := g) oR9 hfr2 hfr1 _ _ _ _ _ _
      · first
          | with_reducible exact six_ext (a := g) (b := g + 1) hX8 hgw hgw1 _ _ _ _ _ _
          | with_reducible exact six_ext (a := g + 1) (b := g) hX8 hgw1 hgw _ _ _ _ _ _
end Go.Proofs.YtapjofbjedpmgaaGreat
end
