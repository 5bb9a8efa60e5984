/- The walk of the law on shifts. -/
import Derived.Test.YtpdnmhhieokogaaShK
import Derived.Test.YtpdnmhhieokogaaR8
import Derived.Deep.RegionHeld3
import Derived.Deep.DeepCutAuto
set_option linter.unusedSimpArgs false
set_option linter.unusedVariables false
namespace Go.Proofs.Ytpdnmhhieokogaa
open Go Go.RowKit Go.Proofs
set_option maxHeartbeats 400000
theorem conf_of {m : MachD} {c : ConfD} (hg : IGood m c) (hf : fitI c = true) (ht : tidyL c.l ∧ tidyL c.r) : confB m c = true := by
  simp only [fitI, Bool.and_eq_true, decide_eq_true_eq] at hf
  have side : ∀ xs : List Int, xs.length ≤ 200 → (∀ z ∈ xs, 0 ≤ z ∧ z < m.sy) → tidyL xs → sideOk xs m.sy 200 = true := fun xs h1 h2 h3 => by
    simp only [sideOk, inB, Bool.and_eq_true, Bool.or_eq_true, decide_eq_true_eq, List.all_eq_true, beq_iff_eq, bne_iff_ne, ne_eq]
    refine ⟨⟨by omega, fun z hz => by have := h2 z hz; omega⟩, ?_⟩
    rcases h3 with h3 | h3
    · left; rw [h3]; rfl
    · exact .inr h3
  simp only [confB, Bool.and_eq_true]
  refine ⟨⟨?_, side _ hf.1 hg.l ht.1⟩, side _ hf.2 hg.r ht.2⟩
  have h0 := hg.q0
  have h1 := hg.q1
  simp only [inB, Bool.and_eq_true, decide_eq_true_eq]
  omega
theorem tidy_blank (m : MachD) (n : Nat) : tidyL (cfgI m blankC n).l ∧ tidyL (cfgI m blankC n).r := tidy_cfg ⟨.inl rfl, .inl rfl⟩ n
theorem Shift.runs_all {m : MachD} (hm : machOk m = true) {a b : Nat} {d : Int} (h : Shift m a b d) {n : Nat} (hn : n ≤ 190) : RunsTo m blankC n :=
  ⟨fun i _ => h.forever hm i, fun i hi => by
    obtain ⟨h1, h2⟩ := len_cfg m blankC i
    have e1 : blankC.l.length = 0 := rfl
    have e2 : blankC.r.length = 0 := rfl
    simp only [fitI, Bool.and_eq_true, decide_eq_true_eq]
    omega⟩
theorem RunsTo.later {m : MachD} {c : ConfD} {a k : Nat} (h : RunsTo m c (a + k)) : RunsTo m (cfgI m c a) k :=
  ⟨fun i hi => by rw [cfgI_add]; exact h.no _ (by omega), fun i hi => by rw [cfgI_add]; exact h.fit _ (by omega)⟩
def CutA (w0 : World) (C : ConfD) (s t : Value) (w : World) : Prop := ∃ g lv rv, s = .pointer (some ⟨g, 0, none⟩) ∧ t = .bool true ∧ Blk w g 36 #[.int .i64 C.q, lv, rv] ∧ Ext w0 w ∧ w0.heap.size ≤ g ∧ OwnInts w0.heap.size w lv C.l ∧ OwnInts w0.heap.size w rv C.r
abbrev zeroCg : Obj := .cells #[.int .i64 0, .slice none 0 0, .slice none 0 0] 36
theorem CutA.late {w0 wB : World} {C : ConfD} {lv rv : Value} (hx : Ext w0 wB) (h1 : OwnInts w0.heap.size wB lv C.l) (h2 : OwnInts w0.heap.size wB rv C.r) :
    CutA w0 C (.pointer (some ⟨wB.heap.size, 0, none⟩)) (.bool true) (wB.alloc (.cells #[.int .i64 C.q, lv, rv] 36)) :=
  ⟨_, _, _, rfl, rfl, Blk.new _ _ _ _ rfl, hx.trans (Ext.alloc _ _), hx.size, h1.ext (Ext.alloc _ _), h2.ext (Ext.alloc _ _)⟩
theorem CutA.early {w0 wB : World} {C : ConfD} {lv rv : Value} {g : Nat} (hx : Ext w0 wB) (h1 : OwnInts w0.heap.size wB lv C.l) (h2 : OwnInts w0.heap.size wB rv C.r) (hb : Blk wB g 36 #[.int .i64 0, .slice none 0 0, .slice none 0 0]) (hg : w0.heap.size ≤ g) :
    CutA w0 C (.pointer (some ⟨g, 0, none⟩)) (.bool true) (((wB.setCell ⟨g, 0, none⟩ (.int .i64 C.q)).setCell ⟨g, 1, none⟩ lv).setCell ⟨g, 2, none⟩ rv) := by
  have n1 := own_far_blk h1 hb (by decide)
  have n2 := own_far_blk h2 hb (by decide)
  exact ⟨g, _, _, rfl, rfl, ((hb.set_ 0 _).set_ 1 _).set_ 2 _, ((hx.setCell hg _).setCell hg _).setCell hg _, hg, ownsRow_far (ownsRow_far (ownsRow_far h1 n1 _) n1 _) n1 _, ownsRow_far (ownsRow_far (ownsRow_far h2 n2 _) n2 _) n2 _⟩
theorem Ext.set3g {w0 wC : World} {g : Nat} (hx : Ext w0 wC) (hg : w0.heap.size ≤ g) (x y z : Value) : Ext w0 (((wC.setCell ⟨g, 0, none⟩ x).setCell ⟨g, 1, none⟩ y).setCell ⟨g, 2, none⟩ z) :=
  ((hx.setCell hg _).setCell hg _).setCell hg _
set_option maxRecDepth 20000 in
set_option maxHeartbeats 4000000 in
theorem law10_c (v u : Value) (bs ms : List Int) (w : World) (h : Bytes w v bs) (h' : Bytes w u ms) :
    Calls Try.prog 3 #[v, u] w fun e w' => e = .returned (.bool true) ∧ Ext w w' := by
  obtain ⟨Av, cv, rfl, _, _, _⟩ := h.1.form
  obtain ⟨Au, cu, rfl, _, _, _⟩ := h'.1.form
  go_enter Try.func3, Try.ntmps3
  go_wp2_with fail
  refine (r8Longs_c w Av Au bs.length cv ms.length cu).mono ?_
  rintro e w1 ⟨rfl, rfl⟩
  cases hbig : (decide (1048576 < bs.length) || decide (1048576 < ms.length)) with
  | true =>
    go_wp2
    go_ret
    exact ⟨rfl, Ext.refl _⟩
  | false =>
    clear hbig
    go_wp2_with fail
    refine (R8Runner_c _ bs w h).mono ?_
    rintro e w2 ⟨⟨m, rv, rfl, hok, hl6, oM⟩, hx2⟩
    obtain ⟨Am, cm, rfl, _, _, _⟩ := (ownsRow_row oM).form
    obtain ⟨V2, hV2⟩ : ∃ V, V = w2.alloc (.cells #[.int .i64 m.sy, .int .i64 m.st, .slice Am m.rules.length cm] 26) := ⟨_, rfl⟩
    obtain ⟨bm, hbm⟩ : ∃ b, b = w2.heap.size := ⟨_, rfl⟩
    have hXV : Ext w2 V2 := by rw [hV2]; exact Ext.alloc _ _
    have bM : Blk V2 bm 26 #[.int .i64 m.sy, .int .i64 m.st, .slice Am m.rules.length cm] := by rw [hV2, hbm]; exact Blk.new _ _ _ _ rfl
    have HRu := Lib.hid ((OwnRules.ext oM hXV).rules)
    have HM := Lib.hid hok
    have HX2 := Lib.hid (hx2.trans hXV)
    have m0 := bM.cell 0
    have m1 := bM.cell 1
    have m2 := bM.cell 2
    simp only [List.getElem?_toArray, List.getElem?_cons_zero, List.getElem?_cons_succ] at m0 m1 m2
    rw [hV2, hbm] at m0 m1 m2
    clear hok oM hx2 hXV h h'
    go_wp2_with fail
    rw [← hV2, ← hbm]
    clear hV2 hbm m0 m1 m2
    refine (FindShift_c V2 m _ 80 HRu.out HM.out (by omega) (by omega)).mono ?_
    rintro e w3 ⟨hx3, ⟨code, hcode, rfl⟩ | ⟨a, b, d, nv, hSh, ha1, hab, hnv, rfl⟩⟩
    · have HX3 := Lib.hid ((HX2.out.trans hx3).trans (Ext.alloc w3 (.cells #[.int .i64 0, .slice none 0 0, .slice none 0 0] 31)))
      rcases hcode with rfl | rfl | rfl
      all_goals
        go_wp2
        go_ret
        exact ⟨rfl, HX3.out⟩
    · have HS := Lib.hid hSh
      clear hSh
      obtain ⟨An, cn, rfl, hcn, _⟩ := hnv.form
      obtain ⟨gn, on, rfl, hcn2⟩ := hnv.at (k := 0) (by simp)
      have n0 := hcn2 0 (by simp)
      have n1 := hcn2 1 (by simp)
      have n2 := hcn2 2 (by simp)
      simp only [List.getElem_cons_zero, List.getElem_cons_succ, Nat.add_zero, List.length_cons, List.length_nil, Nat.zero_add, Nat.reduceAdd] at n0 n1 n2 hcn
      simp only [List.length_cons, List.length_nil, Nat.zero_add, Nat.reduceAdd] at hnv ⊢
      obtain ⟨V3, hV3⟩ : ∃ V, V = w3.alloc (.cells #[.int .i64 3, .slice (some ⟨gn, on, none⟩) 3 cn, .slice none 0 0] 31) := ⟨_, rfl⟩
      obtain ⟨bp, hbp⟩ : ∃ b, b = w3.heap.size := ⟨_, rfl⟩
      have hXV : Ext w3 V3 := by rw [hV3]; exact Ext.alloc _ _
      have bP : Blk V3 bp 31 #[.int .i64 3, .slice (some ⟨gn, on, none⟩) 3 cn, .slice none 0 0] := by rw [hV3, hbp]; exact Blk.new _ _ _ _ rfl
      have bMV := bM.ext (hx3.trans hXV)
      have HNV := Lib.hid (hnv.ext hXV)
      have HX3 := Lib.hid (hx3.trans hXV)
      replace n0 := hXV.cell n0
      replace n1 := hXV.cell n1
      replace n2 := hXV.cell n2
      have m0 := bMV.cell 0
      have m1 := bMV.cell 1
      have m2 := bMV.cell 2
      have p0 := bP.cell 0
      have p1 := bP.cell 1
      have p2 := bP.cell 2
      simp only [List.getElem?_toArray, List.getElem?_cons_zero, List.getElem?_cons_succ] at m0 m1 m2 p0 p1 p2
      rw [hV3] at m0 m1 m2 p0 p1 p2
      rw [hbp] at p0 p1 p2
      clear hcn2 hnv hXV hx3 bM
      go_wp2_with fail
      rw [← hV3, ← hbp]
      clear hV3 hbp m0 m1 m2 p0 p1 p2
      refine (CheckShift_c V3 m _ _ a b d (HRu.out.ext HX3.out) HM.out HNV.out (by omega) HS.out).mono ?_
      rintro e w4 ⟨rfl, hx4⟩
      have hb1 := HS.out.b1
      replace n0 := hx4.cell n0
      replace n1 := hx4.cell n1
      replace n2 := hx4.cell n2
      have bM4 := bMV.ext hx4
      have bP4 := bP.ext hx4
      have p1 := bP4.cell 1
      simp only [List.getElem?_toArray, List.getElem?_cons_zero, List.getElem?_cons_succ] at p1
      have t1 : decide ((a : Int) < 1) = false := by simp; omega
      have t2 : decide ((b : Int) < 1) = false := by simp; omega
      clear bMV bP
      have HRA := Lib.hid (HS.out.runs_all HM.out (n := a) (by omega))
      have HCB := Lib.hid (conf_blank HM.out)
      have hRu4 : Rules w4 (.slice Am m.rules.length cm) m.rules := HRu.out.ext (HX3.out.trans hx4)
      go_upto_region 11 with fail
      have m0 := bM4.cell 0
      have m1 := bM4.cell 1
      have m2 := bM4.cell 2
      simp only [List.getElem?_toArray, List.getElem?_cons_zero, List.getElem?_cons_succ] at m0 m1 m2
      obtain ⟨CA, hCA⟩ : ∃ C, C = cfgI m blankC a := ⟨_, rfl⟩
      have HCA := Lib.hid hCA
      have bl0 := r8Blank_c w4.drew
      have blz := r8Blank_c (w4.alloc zeroCg).drew
      have aft : ∀ (W' : World) (l0 r0 : Value) (g1 : Nat), Ext w4 W' → OwnInts g1 W' l0 [] → OwnInts g1 W' r0 [] → Calls Try.prog 8 #[.agg #[.int .i64 m.sy, .int .i64 m.st, .slice Am m.rules.length cm], .agg #[.int .i64 0, l0, r0], .int .i64 a] W' (AfterRes W' CA) := fun W' l0 r0 g1 hx h1 h2 => by
        rw [hCA]
        exact r8After_c W' m blankC _ _ _ a (hRu4.ext hx) h1.ints h2.ints h1.flat h2.flat HM.out HCB.out ha1 (by omega) HRA.out
      clear hCA
      go_cut [10, 11] (fun s t wx => CutA w4 CA s t wx)
      case first =>
        go_region_held3 (fun w' => w'.cell? ⟨bm, 0, none⟩ = some (.int .i64 m.sy) ∧ w'.cell? ⟨bm, 1, none⟩ = some (.int .i64 m.st) ∧ w'.cell? ⟨bm, 2, none⟩ = some (.slice Am m.rules.length cm))
          (first | (go_keep; done) | exact ⟨hS.cell m0, hS.cell m1, hS.cell m2⟩ | exact ⟨hD.cell m0, hD.cell m1, hD.cell m2⟩ | exact ⟨(hB.trans (Ext.alloc _ zeroCg)).cell m0, (hB.trans (Ext.alloc _ zeroCg)).cell m1, (hB.trans (Ext.alloc _ zeroCg)).cell m2⟩ | exact ⟨hB.cell m0, hB.cell m1, hB.cell m2⟩ | exact ⟨(hA.trans (Ext.alloc _ zeroCg)).cell m0, (hA.trans (Ext.alloc _ zeroCg)).cell m1, (hA.trans (Ext.alloc _ zeroCg)).cell m2⟩ | exact ⟨hA.cell m0, hA.cell m1, hA.cell m2⟩)
          (first
            | (go_at_call 9; ((with_reducible refine bl0.mono ?_)); rintro e wA ⟨uA, vA, rfl, oA1, oA2, hxA'⟩; have hA := (Ext.drew w4).trans hxA')
            | (go_at_call 9; ((with_reducible refine blz.mono ?_)); rintro e wA ⟨uA, vA, rfl, oA1, oA2, hxA'⟩; have hA := ((Ext.alloc w4 zeroCg).trans (Ext.drew _)).trans hxA'; have bZA := (Blk.drew (Blk.new w4 w4.heap.size _ _ rfl)).ext hxA'; have hgz : w4.heap.size ≤ w4.heap.size := Nat.le_refl _)
            | (go_at_call 8; ((with_reducible refine (aft _ _ _ _ hA oA1 oA2).mono ?_)); rintro e wB ⟨uB, vB, rfl, oB1', oB2', hxB⟩; have hB := hA.trans hxB; have oB1 : OwnInts w4.heap.size wB _ _ := ownsRow_base oB1' hA.size; have oB2 : OwnInts w4.heap.size wB _ _ := ownsRow_base oB2' hA.size; have bZB := bZA.ext hxB; obtain ⟨AA, cA, rfl, _, _⟩ := oB1.ints.form; obtain ⟨AB, cB, rfl, _, _⟩ := oB2.ints.form; have hS := Ext.set3g hB hgz (.int .i64 CA.q) (.slice AA CA.l.length cA) (.slice AB CA.r.length cB); have vc := bZB.cell; have vf := bZB.frozen)
            | (go_at_call 8; ((with_reducible refine (aft _ _ _ _ hA oA1 oA2).mono ?_)); rintro e wB ⟨uB, vB, rfl, oB1', oB2', hxB⟩; have hB := hA.trans hxB; have oB1 : OwnInts w4.heap.size wB _ _ := ownsRow_base oB1' hA.size; have oB2 : OwnInts w4.heap.size wB _ _ := ownsRow_base oB2' hA.size; obtain ⟨AA, cA, rfl, _, _⟩ := oB1.ints.form; obtain ⟨AB, cB, rfl, _, _⟩ := oB2.ints.form; have hD := hB.trans (Ext.alloc wB (.cells #[.int .i64 CA.q, .slice AA CA.l.length cA, .slice AB CA.r.length cB] 36)))
            | (go_at_call 8; ((with_reducible refine (aft _ _ _ _ (hA.trans (Ext.alloc _ zeroCg)) (oA1.ext (Ext.alloc _ zeroCg)) (oA2.ext (Ext.alloc _ zeroCg))).mono ?_)); rintro e wB ⟨uB, vB, rfl, oB1', oB2', hxB⟩; have hB := hA.trans ((Ext.alloc _ zeroCg).trans hxB); have oB1 : OwnInts w4.heap.size wB _ _ := ownsRow_base oB1' (Nat.le_trans hA.size (Ext.alloc wA zeroCg).size); have oB2 : OwnInts w4.heap.size wB _ _ := ownsRow_base oB2' (Nat.le_trans hA.size (Ext.alloc wA zeroCg).size); have bZB := (Blk.new wA wA.heap.size _ _ rfl).ext hxB; have hgz := hA.size; obtain ⟨AA, cA, rfl, _, _⟩ := oB1.ints.form; obtain ⟨AB, cB, rfl, _, _⟩ := oB2.ints.form; have hS := Ext.set3g hB hgz (.int .i64 CA.q) (.slice AA CA.l.length cA) (.slice AB CA.r.length cB); have vc := bZB.cell; have vf := bZB.frozen))
        all_goals
          go_wp2_with fail
          go_meet
          first
            | exact CutA.early hB oB1 oB2 bZB hgz
            | exact CutA.late hB oB1 oB2
      case rest =>
        rename World => wS
        clear m0 m1 m2 bl0 blz aft
        obtain ⟨gS, lS, rS, rfl, rfl, bS, hxS, hgS, oS1, oS2⟩ := hcut
        obtain ⟨AS, cS, rfl, _, _⟩ := oS1.ints.form
        obtain ⟨BS, dS, rfl, _, _⟩ := oS2.ints.form
        have bMS := bM4.ext hxS
        have bPS := bP4.ext hxS
        have HXS := Lib.hid (((HX2.out.trans HX3.out).trans hx4).trans hxS)
        have m0 := bMS.cell 0
        have m1 := bMS.cell 1
        have m2 := bMS.cell 2
        simp only [List.getElem?_toArray, List.getElem?_cons_zero, List.getElem?_cons_succ] at m0 m1 m2
        replace n2 := hxS.cell n2
        have HRS2 := Lib.hid (hRu4.ext hxS)
        clear p1 n0 n1 t1 t2 bM4 bP4 hRu4
        by_cases h60 : 60 < a + 3 * b
        · have h6 : decide ((a : Int) + 3 * (b : Int) > 60) = true := by simp; omega
          clear h60
          go_wp2
          go_ret
          exact ⟨rfl, HXS.out⟩
        · have h6 : decide ((a : Int) + 3 * (b : Int) > 60) = false := by simp; omega
          go_wp2_with fail
          refine (HeadTrack_c wS m _ (a + 3 * b) HRS2.out HM.out (by omega) (HS.out.runs_all HM.out (by omega))).mono ?_
          rintro e w5 ⟨pv, rfl, hpv, hx5⟩
          obtain ⟨Ap, cp, he, hcp, _⟩ := hpv.form
          have hpl := posM_len m blankC (a + 3 * b + 1)
          have HP := Lib.hid hpv
          rw [hpl] at he hcp
          subst he
          have bM5 := bMS.ext hx5
          have bP5 := bPS.ext hx5
          have bS5 := bS.ext hx5
          have HX5 := Lib.hid (HXS.out.trans hx5)
          have HR5 := Lib.hid (HRS2.out.ext hx5)
          have o1 := Lib.hid (oS1.ext hx5)
          have o2 := Lib.hid (oS2.ext hx5)
          have hn2 := hx5.cell n2
          clear m0 m1 m2 bMS bPS bS oS1 oS2 hpl hpv n2 h6
          go_wp2
          go_loopw [14] (fun kv wr => ∃ k : Nat, 1 ≤ k ∧ k ≤ 4 ∧ kv = .int .i64 (k : Int) ∧ Ext w5 wr) (fun kv _ => 4 - (intOf kv).toNat)
          case atStart => exact ⟨1, by omega, by omega, rfl, Ext.refl _⟩
          case round =>
            obtain ⟨k, hk1, hk4, rfl, hx⟩ := hrel
            have HXr := Lib.hid (HX5.out.trans hx)
            by_cases h4 : k = 4
            · subst h4
              go_wp2
              go_ret
              exact ⟨rfl, HXr.out⟩
            · have bMr := bM5.ext hx
              have bPr := bP5.ext hx
              have bSr := bS5.ext hx
              have m0 := bMr.cell 0
              have m1 := bMr.cell 1
              have m2 := bMr.cell 2
              have s0 := bSr.cell 0
              have s1 := bSr.cell 1
              have s2 := bSr.cell 2
              simp only [List.getElem?_toArray, List.getElem?_cons_zero, List.getElem?_cons_succ] at m0 m1 m2 s0 s1 s2
              have hkb : k * b ≤ 3 * b := Nat.mul_le_mul_right b (by omega)
              have hkb1 : 1 ≤ k * b := Nat.mul_pos hk1 (by omega)
              have hru := HS.out.runs_all HM.out (n := a + k * b) (by omega)
              have hgd := cfg_good HM.out (blank_good HM.out) a HRA.out.no
              have hcf := conf_of hgd (HRA.out.fit a (Nat.le_refl _)) (tidy_blank m a)
              have haf : Calls Try.prog 8 #[.agg #[.int .i64 m.sy, .int .i64 m.st, .slice Am m.rules.length cm], .agg #[.int .i64 CA.q, .slice AS CA.l.length cS, .slice BS CA.r.length dS], .int .i64 (k * b : Nat)] wr (AfterRes wr (cfgI m blankC (a + k * b))) := by
                have := r8After_c wr m CA _ (.slice AS CA.l.length cS) (.slice BS CA.r.length dS) (k * b) (HR5.out.ext hx) (o1.out.ext hx).ints (o2.out.ext hx).ints (o1.out.ext hx).flat (o2.out.ext hx).flat HM.out (by rw [HCA.out]; exact hcf) hkb1 (by omega) (by rw [HCA.out]; exact hru.later)
                rw [HCA.out, cfgI_add] at this
                rw [HCA.out]
                exact this
              obtain ⟨CY, hCY⟩ : ∃ C, cfgI m blankC (a + k * b) = C := ⟨_, rfl⟩
              rw [hCY] at haf
              have htm := HS.out.times HM.out k
              rw [hCY, ← HCA.out] at htm
              have HTM := Lib.hid htm.1
              have HTP := Lib.hid htm.2
              have HPB := Lib.hid (pos_bound HM.out (blank_good HM.out) (a + k * b) hru.no)
              have HPA := Lib.hid (pos_bound HM.out (blank_good HM.out) a HRA.out.no)
              clear htm hCY hru hgd hcf
              have hpl := posM_len m blankC (a + 3 * b + 1)
              have hPI : Ints wr (.slice Ap (posM m blankC (a + 3 * b + 1)).length cp) (posM m blankC (a + 3 * b + 1)) := by rw [hpl]; exact HP.out.ext hx
              have hl1 : a < (posM m blankC (a + 3 * b + 1)).length := by omega
              have hl2 : a + k * b < (posM m blankC (a + 3 * b + 1)).length := by omega
              obtain ⟨gp, op, rfl, hcc⟩ := hPI.at hl1
              have z1 := hcc a hl1
              have z2 := hcc (a + k * b) hl2
              have e1 : (posM m blankC (a + 3 * b + 1))[a] = posI m blankC a := by simp [posM]
              have e2 : (posM m blankC (a + 3 * b + 1))[a + k * b] = posI m blankC (a + k * b) := by simp [posM]
              rw [e1] at z1
              rw [e2] at z2
              have hdb := HS.out.bound HM.out
              clear hcc hPI hpl e1 e2 hl1 hl2
              have hn2r := hx.cell hn2
              have hlt : a + k * b < a + 3 * b + 1 := by omega
              have hk3 : k ≤ 3 := by omega
              obtain ⟨q, hq⟩ : ∃ q, k * b = q := ⟨_, rfl⟩
              have hkz : (k : Int) * (b : Int) = (q : Int) := by rw [← hq]; simp
              rw [hq] at haf HTP HPB z2 hkb hkb1 hlt
              obtain ⟨za, hza⟩ : ∃ z, posI m blankC a = z := ⟨_, rfl⟩
              obtain ⟨ze, hze⟩ : ∃ z, posI m blankC (a + q) = z := ⟨_, rfl⟩
              obtain ⟨zd, hzd⟩ : ∃ z, (k : Int) * d = z := ⟨_, rfl⟩
              have hpb := HPB.out
              have hpa := HPA.out
              have hdiff := HTP.out
              rw [hza] at z1 hpa hdiff
              rw [hze] at z2 hpb hdiff
              rw [hzd] at hdiff
              clear hq hza hze HTP HPB HPA
              have hne : (ze - za != zd) = false := by simp [hdiff]
              have htn : ((a : Int) + (q : Int)).toNat = a + q := by omega
              have hi1 : (a : Int) + (q : Int) < (a : Int) + 3 * (b : Int) + 1 := by omega
              have hi2 : (a : Int) < (a : Int) + 3 * (b : Int) + 1 := by omega
              have hi3 : a + q < a + 3 * b + 1 := hlt
              have hi4 : a < a + 3 * b + 1 := by omega
              have hqq : (CY.q != CA.q) = false := by simp [HTM.out]
              have HDF := Lib.hid hdiff
              have hzb : -1000 ≤ zd ∧ zd ≤ 1000 := by omega
              clear hdiff
              go_wp2_with fail
              refine haf.mono ?_
              rintro e w6 ⟨ly, ry, rfl, oy1, oy2, hx6⟩
              obtain ⟨Ay, cy, rfl, _, _⟩ := oy1.ints.form
              obtain ⟨By, dy, rfl, _, _⟩ := oy2.ints.form
              obtain ⟨V6, hV6⟩ : ∃ V, V = w6.alloc (.cells #[.int .i64 CY.q, .slice Ay CY.l.length cy, .slice By CY.r.length dy] 36) := ⟨_, rfl⟩
              obtain ⟨by_, hby⟩ : ∃ b, b = w6.heap.size := ⟨_, rfl⟩
              have hXV : Ext w6 V6 := by rw [hV6]; exact Ext.alloc _ _
              have bY : Blk V6 by_ 36 #[.int .i64 CY.q, .slice Ay CY.l.length cy, .slice By CY.r.length dy] := by rw [hV6, hby]; exact Blk.new _ _ _ _ rfl
              have hxQ := hx6.trans hXV
              have y0 := bY.cell 0
              have p1 := (bPr.ext hxQ).cell 1
              simp only [List.getElem?_toArray, List.getElem?_cons_zero, List.getElem?_cons_succ] at y0 p1
              replace s0 := hxQ.cell s0
              replace z1 := hxQ.cell z1
              replace z2 := hxQ.cell z2
              replace hn2r := hxQ.cell hn2r
              clear m0 m1 m2 s1 s2 haf oy1 oy2 bMr bPr bSr
              go_wp2_with fail
              rw [← hV6, ← hby]
              clear hV6 hby
              have k0 := cellR y0
              have k1 := cellR p1
              have k2 := cellR s0
              have k3 := cellR z1
              have k4 := cellR z2
              have k5 := cellR hn2r
              refine wp_region_ext (by kernel_rfl) (by kernel_rfl) ?_
              repeat (go_big_quiet_step (fail))
              refine wpQuiet_nil ?_
              intro w8 hx8
              clear k0 k1 k2 k3 k4 k5 y0 p1 s0 z1 z2 hn2r
              go_wp2
              go_roundw
              case rel => exact ⟨k + 1, by omega, by omega, by go_num, (hx.trans hxQ).trans hx8⟩
              case measure => simp [intOf]; omega
end Go.Proofs.Ytpdnmhhieokogaa
