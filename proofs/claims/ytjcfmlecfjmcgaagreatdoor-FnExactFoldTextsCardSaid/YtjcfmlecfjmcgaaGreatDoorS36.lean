/- Contracts of the program's decoding of a configuration of the machine on one half of the tape: the form and the tape.
Contract of the program's DecodeFold. -/
import Derived.Test.YtjcfmlecfjmcgaaGreatDoorS35
section
set_option linter.unusedSimpArgs false
set_option linter.unusedVariables false
namespace Go.Proofs.YtjcfmlecfjmcgaaGreatDoor
open Go Go.RowKit Go.Proofs Go.Maps
set_option maxHeartbeats 400000
theorem row_blk {w : World} {g n : Nat} {t : TypeId} {cs : List Value} (h : Blk w g t cs.toArray) (hl : cs.length = n) (hn : n ≤ 1000000) : Row w 1 (.slice (some ⟨g, 0, none⟩) n n) n cs := by
  subst hl
  refine ⟨_, _, rfl, Nat.le_refl _, by omega, by simp, fun _ => ⟨g, 0, rfl, fun j hj => ?_⟩⟩
  rw [Nat.zero_add, h.cell j]
  simp
theorem joined2_c (A B : Option Addr) (ca cb : Nat) (xs ys : List Int) (w : World) (h1 : Ints w (.slice A xs.length ca) xs) (h2 : Ints w (.slice B ys.length cb) ys) (f1 : Flat (.slice A xs.length ca)) (f2 : Flat (.slice B ys.length cb)) (hn : xs.length + ys.length ≤ 1048576) :
    Calls Tryz.prog 70 #[.slice (some ⟨w.heap.size, 0, none⟩) 2 2] (w.alloc (.cells #[.slice A xs.length ca, .slice B ys.length cb] 25)) fun e w' => ∃ u, e = .returned u ∧ OwnInts w.heap.size w' u (xs ++ ys) ∧ Ext w w' := by
  have hx := Ext.alloc w (.cells #[.slice A xs.length ca, .slice B ys.length cb] 25)
  have hb : Blk (w.alloc (.cells #[.slice A xs.length ca, .slice B ys.length cb] 25)) w.heap.size 25 ([.slice A xs.length ca, .slice B ys.length cb] : List Value).toArray := Blk.new _ _ _ _ rfl
  refine (joined_c _ [xs, ys] [.slice A xs.length ca, .slice B ys.length cb] _ (row_blk hb rfl (by simp)) ?_ (by simp) (by simp [tot]; omega)).mono ?_
  · intro i hi
    match i, hi with
    | 0, _ => exact ⟨_, rfl, h1.ext hx, f1⟩
    | 1, _ => exact ⟨_, rfl, h2.ext hx, f2⟩
  · rintro e w' ⟨u, rfl, ho, he⟩
    have e : [xs, ys].flatten = xs ++ ys := by simp
    rw [e] at ho
    exact ⟨u, rfl, ownsRow_base ho (by simp), hx.trans he⟩
set_option maxRecDepth 20000 in
set_option maxHeartbeats 4000000 in
theorem decodeFold_c (base : Nat) (w : World) (sy st : Int) (rvm : Value) (bx : Nat) (sy' : Int) (N : Int) (rs : List RuleD) (ps : List FP) (rv pv : Value) (bm : Nat) (c : ConfD) (lv qv : Value) (i : Nat) (p : FP)
    (h : PlSt base w bx sy' N rs ps rv pv bm) (hq : c.q = i) (hi : ps[i]? = some p) (hl : Ints w lv c.l) (hr : Ints w qv c.r) (fl : Flat lv) (fr : Flat qv)
    (hL : c.l.length ≤ 200) (hR : c.r.length ≤ 200) (aL : ∀ z ∈ c.l, 0 ≤ z ∧ z ≤ sy) (aR : ∀ z ∈ c.r, 0 ≤ z ∧ z ≤ sy) (s1 : 1 ≤ sy) (s2 : sy ≤ 10) :
    Calls Tryz.prog 34 #[.agg #[.int .i64 sy, .int .i64 st, rvm], .pointer (some ⟨bx, 0, none⟩), .agg #[.int .i64 c.q, lv, qv]] w (ConfRes w (decP sy p c)) := by
  obtain ⟨Al, cl, rfl, _, _⟩ := hl.form
  obtain ⟨Ar, cr, rfl, _, _⟩ := hr.form
  obtain ⟨W, hW⟩ : ∃ W, W = ((w.alloc (.cells #[.int .i64 sy, .int .i64 st, rvm] 35)).alloc (.cells #[.int .i64 c.q, .slice Al c.l.length cl, .slice Ar c.r.length cr] 37)).alloc (.cells #[.int .i64 0, .slice none 0 0, .slice none 0 0] 37) := ⟨_, rfl⟩
  have hXW : Ext w W := by rw [hW]; exact ((Ext.alloc _ _).trans (Ext.alloc _ _)).trans (Ext.alloc _ _)
  have bM : Blk W w.heap.size 35 #[.int .i64 sy, .int .i64 st, rvm] := by rw [hW]; exact ((Blk.new _ _ _ _ rfl).alloc _).alloc _
  have bC : Blk W (w.heap.size + 1) 37 #[.int .i64 c.q, .slice Al c.l.length cl, .slice Ar c.r.length cr] := by rw [hW]; exact (Blk.new _ _ _ _ (by simp)).alloc _
  have bO : Blk W (w.heap.size + 1 + 1) 37 #[.int .i64 0, .slice none 0 0, .slice none 0 0] := by rw [hW]; exact Blk.new _ _ _ _ (by simp)
  have hsz : W.heap.size = w.heap.size + 1 + 1 + 1 := by rw [hW]; simp
  obtain ⟨R, hR0⟩ : ∃ R, R = decP sy p c := ⟨_, rfl⟩
  rw [← hR0]
  rw [decP_alt] at hR0
  have hst := foldState_c base W sy st rvm bx sy' N rs ps rv pv bm c _ _ i p (h.ext hXW) hq hi (hl.ext hXW) (hr.ext hXW)
  generalize stF sy p c = F at *
  obtain ⟨fq, fh, ff⟩ := F
  simp only at hst hR0
  have HR0 := Lib.hid hR0
  have HSZ := Lib.hid hsz
  clear hR0 hi hq hsz
  have HL := Lib.hid (hl.ext hXW)
  have HRR := Lib.hid (hr.ext hXW)
  have ob := bO.cell
  have of_ := bO.frozen
  have m0 := bM.cell 0
  have c1 := bC.cell 1
  have c2 := bC.cell 2
  simp only [List.getElem?_toArray, List.getElem?_cons_zero, List.getElem?_cons_succ] at m0 c1 c2
  go_enter Tryz.func34, Tryz.ntmps34
  go_wp2_with fail
  rw [← hW]
  clear hW
  refine hst.mono ?_
  rintro e w1 ⟨rfl, hx1⟩
  have hX1 := hXW.trans hx1
  clear ob of_ m0 c1 c2
  have bO1 := bO.ext hx1
  have ob := bO1.cell
  have of_ := bO1.frozen
  have m0 := (bM.ext hx1).cell 0
  have c1 := (Ext.drew w1).cell ((bC.ext hx1).cell 1)
  have c2 := (Ext.drew w1).cell ((bC.ext hx1).cell 2)
  simp only [List.getElem?_toArray, List.getElem?_cons_zero, List.getElem?_cons_succ] at m0 c1 c2
  cases ff with
  | false =>
    have HE : Hid (R = (blankC, 6)) := by unfold Hid; rw [HR0.out]; rfl
    go_wp2
    rw [HE.out]
    refine bodyPost_ret (v := .tuple #[.agg #[.int .i64 0, .slice none 0 0, .slice none 0 0], .int .i64 6]) (by simp [results, Tryz.results34, go_sem, ob]) rfl ⟨_, _, rfl, World.ownsRow_nil .., World.ownsRow_nil .., fun g hg => by simp [Value.ownBlock] at hg, ?_⟩
    exact ((hX1.setCell (by simp; omega) _).setCell (by simp; omega) _).setCell (by simp; omega) _
  | true =>
    have HE : Hid (R = if fmtB sy c fh then unfD fq (backD c) c.l.length else (blankC, 9)) := by unfold Hid; rw [HR0.out]; rfl
    have i1 := HL.out.ext (hx1.trans (Ext.drew _))
    have i2 := HRR.out.ext (hx1.trans (Ext.drew _))
    obtain ⟨lr, hlr⟩ : ∃ lr, lr = c.l.reverse := ⟨_, rfl⟩
    have hlrl : lr.length = c.l.length := by rw [hlr]; simp
    have hRv := fun w h => reversed_c (.slice Al c.l.length cl) c.l w h fl (by omega)
    rw [← hlr] at hRv
    have HLR := Lib.hid hlr
    clear hlr
    have hlr2 : lr.length ≤ 200 := by omega
    have HLRL := Lib.hid hlrl
    clear hlrl
    go_wp2
    go_region_held3 (fun w' => w'.cell? ⟨w.heap.size + 1, 1, none⟩ = some (.slice Al c.l.length cl) ∧ w'.cell? ⟨w.heap.size + 1, 2, none⟩ = some (.slice Ar c.r.length cr))
      (first | go_keep | exact ⟨hx5.cell c1, hx5.cell c2⟩ | exact ⟨(hx5.trans hx7).cell c1, (hx5.trans hx7).cell c2⟩)
      (first
        | (go_at_call 67; ((with_reducible refine (hRv _ i1).mono ?_)); rintro e w5 ⟨u5, rfl, ho5, hx5⟩; have hf5 := ho5.flat; obtain ⟨A5, c5, rfl, _, _⟩ := ho5.ints.form)
        | (go_at_call 70; ((with_reducible refine (joined2_c _ _ _ _ lr c.r _ ho5.ints (i2.ext hx5) hf5 fr (by omega)).mono ?_)); rintro e w7 ⟨u7, rfl, ho7, hx7⟩))
    have hZ0 : lr ++ c.r = cellsD c := by rw [HLR.out]; rfl
    rw [hZ0] at ho7
    have HZL : Hid ((cellsD c).length = c.l.length + c.r.length) := cells_len c
    have HF := Lib.hid (fmt_iff2 sy c fh)
    have HZB : Hid ((1 ≤ c.l.length) → (cellsD c).drop 1 = backD c) := cells_drop
    have HZM : Hid (∀ z ∈ cellsD c, 0 ≤ z ∧ z ≤ 100) := by
      intro z hz
      rcases List.mem_append.1 hz with h | h
      · have := aL z (List.mem_reverse.1 h); omega
      · have := aR z h; omega
    clear hZ0
    generalize cellsD c = Z at *
    generalize c.l.length = n at *
    obtain ⟨A7, c7, rfl, hc7, hc7'⟩ := ho7.ints.form
    have hX7 : Ext w w7 := ((hX1.trans (Ext.drew _)).trans hx5).trans hx7
    have hE7 : Ext w1 w7 := ((Ext.drew _).trans hx5).trans hx7
    have bO7 := bO1.ext hE7
    clear ob of_ m0 c1 c2 hx5 ho5 hf5 i1 i2
    have m0 := (bM.ext (hx1.trans hE7)).cell 0
    simp only [List.getElem?_toArray, List.getElem?_cons_zero] at m0
    have hZl : Z.length ≤ 400 := by have := HZL.out; omega
    go_wp2_with fail
    refine (Index_c _ Z sy w7 ho7.ints (by omega)).mono ?_
    rintro e w' ⟨rfl, rfl⟩
    have d0 := cellR m0
    by_cases hix : indexN Z sy = 0
    · have bix : (indexN Z sy != 0) = false := by simp [hix]
      by_cases hn : 1 ≤ n
      · have bn : decide ((n : Int) < 1) = false := decide_eq_false (by omega)
        have bn' : decide (n < 1) = false := decide_eq_false (by omega)
        have hz1 : 1 ≤ Z.length := by have := HZL.out; omega
        obtain ⟨b7, o7, rfl, _⟩ := ho7.ints.at (k := 0) (by omega)
        have HD1 := Lib.hid (HZB.out hn)
        obtain ⟨D, hD⟩ : ∃ D, D = Z.drop 1 := ⟨_, rfl⟩
        have hDl : D.length = Z.length - 1 := by rw [hD]; simp
        have hDi : ∃ A', Ints w7 (.slice (some A') (Z.length - 1) (c7 - 1)) D ∧ (if c7 = 1 then A' = ⟨b7, o7, none⟩ else A' = ⟨b7, o7 + 1, none⟩) := by
          by_cases h1 : c7 = 1
          · refine ⟨⟨b7, o7, none⟩, ⟨_, _, by rw [hDl], by omega, by omega, by simp, fun h => absurd h (by omega)⟩, by rw [if_pos h1]⟩
          · refine ⟨⟨b7, o7 + 1, none⟩, ?_, by rw [if_neg h1]⟩
            rw [hD]
            exact ho7.ints.drop 1 hz1
        obtain ⟨A', hI, hA'⟩ := hDi
        have CT := fun d os => Contains_c _ D sy _ (hI.ext (below_regrown w7 d os)) (by omega)
        have hmem : fmtB sy c fh = true ↔ (¬ sy ∈ D ∧ ¬ (n : Int) % 2 = fh) := by
          rw [HF.out, ← hD]
          exact ⟨fun h => ⟨h.2.2.1, h.2.2.2⟩, fun h => ⟨hn, hix, h.1, h.2⟩⟩
        have HM := Lib.hid hmem
        have HDZ := Lib.hid hD
        have hz2 : 1 ≤ c7 := by omega
        have HDL := Lib.hid hDl
        have HN := Lib.hid hn
        clear hmem hD hDl
        clear HF
        generalize indexN Z sy = ix at *
        clear hix
        by_cases h1 : c7 = 1
        · rw [if_pos h1] at hA'
          subst h1
          subst hA'
          obtain ⟨z0, rfl⟩ := List.length_eq_one_iff.1 (show Z.length = 1 by omega)
          simp only [List.length_singleton, Nat.sub_self] at CT
          cases hdm : decide (sy ∈ D) with
          | true =>
            simp only [hdm] at CT
            have HE2 : Hid (R = (blankC, 9)) := by unfold Hid; rw [HE.out, if_neg (fun h => (HM.out.1 h).1 (of_decide_eq_true hdm))]
            clear hdm
            go_wp2
            refine wp_region_ext (by kernel_rfl) (by kernel_rfl) ?_
            repeat (go_big_quiet_step ((go_at_call 72; exact Calls.sameR (CT _ _))))
            refine wpQuiet_nil ?_
            intro w8 hx8
            have ob := (bO7.ext hx8).cell
            have of_ := (bO7.ext hx8).frozen
            go_wp2
            rw [HE2.out]
            refine bodyPost_ret (v := .tuple #[.agg #[.int .i64 0, .slice none 0 0, .slice none 0 0], .int .i64 9]) (by simp [results, Tryz.results34, go_sem, ob]) rfl ⟨_, _, rfl, World.ownsRow_nil .., World.ownsRow_nil .., fun g hg => by simp [Value.ownBlock] at hg, ?_⟩
            have hX8 := hX7.trans hx8
            exact ((hX8.setCell (by show w.heap.size ≤ w.heap.size + 1 + 1; omega) _).setCell (by show w.heap.size ≤ w.heap.size + 1 + 1; omega) _).setCell (by show w.heap.size ≤ w.heap.size + 1 + 1; omega) _
          | false =>
            simp only [hdm] at CT
            have HNM := Lib.hid (of_decide_eq_false hdm)
            clear hdm
            cases hpar : ((n : Int) % 2 == fh) with
            | true =>
              have HE2 : Hid (R = (blankC, 9)) := by unfold Hid; rw [HE.out, if_neg (fun h => (HM.out.1 h).2 (by simpa using hpar))]
              go_wp2
              refine wp_region_ext (by kernel_rfl) (by kernel_rfl) ?_
              repeat (go_big_quiet_step ((go_at_call 72; exact Calls.sameR (CT _ _))))
              refine wpQuiet_nil ?_
              intro w8 hx8
              have ob := (bO7.ext hx8).cell
              have of_ := (bO7.ext hx8).frozen
              go_wp2
              rw [HE2.out]
              refine bodyPost_ret (v := .tuple #[.agg #[.int .i64 0, .slice none 0 0, .slice none 0 0], .int .i64 9]) (by simp [results, Tryz.results34, go_sem, ob]) rfl ⟨_, _, rfl, World.ownsRow_nil .., World.ownsRow_nil .., fun g hg => by simp [Value.ownBlock] at hg, ?_⟩
              have hX8 := hX7.trans hx8
              exact ((hX8.setCell (by show w.heap.size ≤ w.heap.size + 1 + 1; omega) _).setCell (by show w.heap.size ≤ w.heap.size + 1 + 1; omega) _).setCell (by show w.heap.size ≤ w.heap.size + 1 + 1; omega) _
            | false =>
              have HE2 : Hid (R = unfD fq (backD c) n) := by unfold Hid; rw [HE.out, if_pos (HM.out.2 ⟨HNM.out, by simpa using hpar⟩)]
              go_wp2
              refine wp_region_ext (by kernel_rfl) (by kernel_rfl) ?_
              repeat (go_big_quiet_step ((go_at_call 72; exact Calls.sameR (CT _ _))))
              refine wpQuiet_nil ?_
              intro w8 hx8
              have ob := (bO7.ext hx8).cell
              have of_ := (bO7.ext hx8).frozen
              have hX8 := hX7.trans hx8
              clear ob of_
              go_wp2_with fail
              refine (unfolded_c _ _ n fq _ (ho7.ints.ext hx8) (by omega) HN.out (by have := HZL.out; omega) HZM.out).mono ?_
              rw [HD1.out, ← HE2.out]
              rintro e w9 ⟨lv9, rv9, rfl, hol, hor, hap, hx9⟩
              obtain ⟨⟨uq, ul, ur⟩, uc⟩ := R
              simp only at hol hor
              obtain ⟨A9, k9, rfl, _, _⟩ := hol.ints.form
              obtain ⟨B9, j9, rfl, _, _⟩ := hor.ints.form
              have bO9 := (bO7.ext hx8).ext hx9
              have ob := bO9.cell
              have of_ := bO9.frozen
              have hb8 : w.heap.size + 1 + 1 < w8.heap.size := (bO7.ext hx8).lt
              have n1 : ∀ g, (Value.slice A9 ul.length k9).ownBlock = some g → g ≠ w.heap.size + 1 + 1 := fun g hg => by have := (hol.lt g hg).1; omega
              have n2 : ∀ g, (Value.slice B9 ur.length j9).ownBlock = some g → g ≠ w.heap.size + 1 + 1 := fun g hg => by have := (hor.lt g hg).1; omega
              go_wp2
              refine bodyPost_ret (v := .tuple #[.agg #[.int .i64 uq, .slice A9 ul.length k9, .slice B9 ur.length j9], .int .i64 uc]) (by simp [results, Tryz.results34, go_sem, ob]) rfl ⟨_, _, rfl, ?_, ?_, hap, ?_⟩
              · exact ownsRow_base (ownsRow_far (ownsRow_far (ownsRow_far hol n1 _) n1 _) n1 _) hX8.size
              · exact ownsRow_base (ownsRow_far (ownsRow_far (ownsRow_far hor n2 _) n2 _) n2 _) hX8.size
              · exact (((hX8.trans hx9).setCell (by show w.heap.size ≤ w.heap.size + 1 + 1; omega) _).setCell (by show w.heap.size ≤ w.heap.size + 1 + 1; omega) _).setCell (by show w.heap.size ≤ w.heap.size + 1 + 1; omega) _
        · rw [if_neg h1] at hA'
          subst hA'
          cases hdm : decide (sy ∈ D) with
          | true =>
            simp only [hdm] at CT
            have HE2 : Hid (R = (blankC, 9)) := by unfold Hid; rw [HE.out, if_neg (fun h => (HM.out.1 h).1 (of_decide_eq_true hdm))]
            clear hdm
            go_wp2
            refine wp_region_ext (by kernel_rfl) (by kernel_rfl) ?_
            repeat (go_big_quiet_step ((go_at_call 72; exact Calls.sameR (CT _ _))))
            refine wpQuiet_nil ?_
            intro w8 hx8
            have ob := (bO7.ext hx8).cell
            have of_ := (bO7.ext hx8).frozen
            go_wp2
            rw [HE2.out]
            refine bodyPost_ret (v := .tuple #[.agg #[.int .i64 0, .slice none 0 0, .slice none 0 0], .int .i64 9]) (by simp [results, Tryz.results34, go_sem, ob]) rfl ⟨_, _, rfl, World.ownsRow_nil .., World.ownsRow_nil .., fun g hg => by simp [Value.ownBlock] at hg, ?_⟩
            have hX8 := hX7.trans hx8
            exact ((hX8.setCell (by show w.heap.size ≤ w.heap.size + 1 + 1; omega) _).setCell (by show w.heap.size ≤ w.heap.size + 1 + 1; omega) _).setCell (by show w.heap.size ≤ w.heap.size + 1 + 1; omega) _
          | false =>
            simp only [hdm] at CT
            have HNM := Lib.hid (of_decide_eq_false hdm)
            clear hdm
            cases hpar : ((n : Int) % 2 == fh) with
            | true =>
              have HE2 : Hid (R = (blankC, 9)) := by unfold Hid; rw [HE.out, if_neg (fun h => (HM.out.1 h).2 (by simpa using hpar))]
              go_wp2
              refine wp_region_ext (by kernel_rfl) (by kernel_rfl) ?_
              repeat (go_big_quiet_step ((go_at_call 72; exact Calls.sameR (CT _ _))))
              refine wpQuiet_nil ?_
              intro w8 hx8
              have ob := (bO7.ext hx8).cell
              have of_ := (bO7.ext hx8).frozen
              go_wp2
              rw [HE2.out]
              refine bodyPost_ret (v := .tuple #[.agg #[.int .i64 0, .slice none 0 0, .slice none 0 0], .int .i64 9]) (by simp [results, Tryz.results34, go_sem, ob]) rfl ⟨_, _, rfl, World.ownsRow_nil .., World.ownsRow_nil .., fun g hg => by simp [Value.ownBlock] at hg, ?_⟩
              have hX8 := hX7.trans hx8
              exact ((hX8.setCell (by show w.heap.size ≤ w.heap.size + 1 + 1; omega) _).setCell (by show w.heap.size ≤ w.heap.size + 1 + 1; omega) _).setCell (by show w.heap.size ≤ w.heap.size + 1 + 1; omega) _
            | false =>
              have HE2 : Hid (R = unfD fq (backD c) n) := by unfold Hid; rw [HE.out, if_pos (HM.out.2 ⟨HNM.out, by simpa using hpar⟩)]
              go_wp2
              refine wp_region_ext (by kernel_rfl) (by kernel_rfl) ?_
              repeat (go_big_quiet_step ((go_at_call 72; exact Calls.sameR (CT _ _))))
              refine wpQuiet_nil ?_
              intro w8 hx8
              have ob := (bO7.ext hx8).cell
              have of_ := (bO7.ext hx8).frozen
              have hX8 := hX7.trans hx8
              clear ob of_
              go_wp2_with fail
              refine (unfolded_c _ _ n fq _ (ho7.ints.ext hx8) (by omega) HN.out (by have := HZL.out; omega) HZM.out).mono ?_
              rw [HD1.out, ← HE2.out]
              rintro e w9 ⟨lv9, rv9, rfl, hol, hor, hap, hx9⟩
              obtain ⟨⟨uq, ul, ur⟩, uc⟩ := R
              simp only at hol hor
              obtain ⟨A9, k9, rfl, _, _⟩ := hol.ints.form
              obtain ⟨B9, j9, rfl, _, _⟩ := hor.ints.form
              have bO9 := (bO7.ext hx8).ext hx9
              have ob := bO9.cell
              have of_ := bO9.frozen
              have hb8 : w.heap.size + 1 + 1 < w8.heap.size := (bO7.ext hx8).lt
              have n1 : ∀ g, (Value.slice A9 ul.length k9).ownBlock = some g → g ≠ w.heap.size + 1 + 1 := fun g hg => by have := (hol.lt g hg).1; omega
              have n2 : ∀ g, (Value.slice B9 ur.length j9).ownBlock = some g → g ≠ w.heap.size + 1 + 1 := fun g hg => by have := (hor.lt g hg).1; omega
              go_wp2
              refine bodyPost_ret (v := .tuple #[.agg #[.int .i64 uq, .slice A9 ul.length k9, .slice B9 ur.length j9], .int .i64 uc]) (by simp [results, Tryz.results34, go_sem, ob]) rfl ⟨_, _, rfl, ?_, ?_, hap, ?_⟩
              · exact ownsRow_base (ownsRow_far (ownsRow_far (ownsRow_far hol n1 _) n1 _) n1 _) hX8.size
              · exact ownsRow_base (ownsRow_far (ownsRow_far (ownsRow_far hor n2 _) n2 _) n2 _) hX8.size
              · exact (((hX8.trans hx9).setCell (by show w.heap.size ≤ w.heap.size + 1 + 1; omega) _).setCell (by show w.heap.size ≤ w.heap.size + 1 + 1; omega) _).setCell (by show w.heap.size ≤ w.heap.size + 1 + 1; omega) _
      · have bn : decide ((n : Int) < 1) = true := decide_eq_true (by omega)
        have bn' : decide (n < 1) = true := decide_eq_true (by omega)
        have HE2 : Hid (R = (blankC, 9)) := by unfold Hid; rw [HE.out, if_neg (fun h => hn ((HF.out.1 h).1))]
        clear hn
        generalize indexN Z sy = ix at *
        clear hix
        go_wp2
        refine wp_region_ext (by kernel_rfl) (by kernel_rfl) ?_
        repeat (go_big_quiet_step (fail))
        refine wpQuiet_nil ?_
        intro w8 hx8
        have ob := (bO7.ext hx8).cell
        have of_ := (bO7.ext hx8).frozen
        go_wp2
        rw [HE2.out]
        refine bodyPost_ret (v := .tuple #[.agg #[.int .i64 0, .slice none 0 0, .slice none 0 0], .int .i64 9]) (by simp [results, Tryz.results34, go_sem, ob]) rfl ⟨_, _, rfl, World.ownsRow_nil .., World.ownsRow_nil .., fun g hg => by simp [Value.ownBlock] at hg, ?_⟩
        have hX8 := hX7.trans hx8; exact ((hX8.setCell (by show w.heap.size ≤ w.heap.size + 1 + 1; omega) _).setCell (by show w.heap.size ≤ w.heap.size + 1 + 1; omega) _).setCell (by show w.heap.size ≤ w.heap.size + 1 + 1; omega) _
    · have bix : (indexN Z sy != 0) = true := by simp [hix]
      have HE2 : Hid (R = (blankC, 9)) := by unfold Hid; rw [HE.out, if_neg (fun h => hix ((HF.out.1 h).2.1))]
      clear HF
      generalize indexN Z sy = ix at *
      clear hix
      go_wp2
      refine wp_region_ext (by kernel_rfl) (by kernel_rfl) ?_
      repeat (go_big_quiet_step (fail))
      refine wpQuiet_nil ?_
      intro w8 hx8
      have ob := (bO7.ext hx8).cell
      have of_ := (bO7.ext hx8).frozen
      go_wp2
      rw [HE2.out]
      refine bodyPost_ret (v := .tuple #[.agg #[.int .i64 0, .slice none 0 0, .slice none 0 0], .int .i64 9]) (by simp [results, Tryz.results34, go_sem, ob]) rfl ⟨_, _, rfl, World.ownsRow_nil .., World.ownsRow_nil .., fun g hg => by simp [Value.ownBlock] at hg, ?_⟩
      have hX8 := hX7.trans hx8; exact ((hX8.setCell (by show w.heap.size ≤ w.heap.size + 1 + 1; omega) _).setCell (by show w.heap.size ≤ w.heap.size + 1 + 1; omega) _).setCell (by show w.heap.size ≤ w.heap.size + 1 + 1; omega) _
end Go.Proofs.YtjcfmlecfjmcgaaGreatDoor
end
section
set_option linter.unusedSimpArgs false
set_option linter.unusedVariables false
namespace Go.Proofs.YtjcfmlecfjmcgaaGreatDoor
open Go Go.RowKit Go.Proofs Go.Maps
set_option maxHeartbeats 400000
theorem ConfRes.done {w w1 : World} {r : ConfD × Int} {b : Nat} {lv rv : Value} (hb : w.heap.size ≤ b) (hX : Ext w w1)
    (hl : OwnInts w.heap.size w1 lv r.1.l) (hr : OwnInts w.heap.size w1 rv r.1.r) (hap : ∀ g, lv.ownBlock = some g → rv.ownBlock ≠ some g)
    (n1 : ∀ g, lv.ownBlock = some g → g ≠ b) (n2 : ∀ g, rv.ownBlock = some g → g ≠ b) (x y z : Value) :
    ConfRes w r (.returned (.tuple #[.agg #[.int .i64 r.1.q, lv, rv], .int .i64 r.2])) (((w1.setCell ⟨b, 0, none⟩ x).setCell ⟨b, 1, none⟩ y).setCell ⟨b, 2, none⟩ z) :=
  ⟨_, _, rfl, ownsRow_far (ownsRow_far (ownsRow_far hl n1 _) n1 _) n1 _, ownsRow_far (ownsRow_far (ownsRow_far hr n2 _) n2 _) n2 _, hap, ((hX.setCell hb _).setCell hb _).setCell hb _⟩
theorem ConfRes.none {w w1 : World} {k : Int} {b : Nat} (hb : w.heap.size ≤ b) (hX : Ext w w1) (x y z : Value) :
    ConfRes w (blankC, k) (.returned (.tuple #[.agg #[.int .i64 0, .slice none 0 0, .slice none 0 0], .int .i64 k])) (((w1.setCell ⟨b, 0, none⟩ x).setCell ⟨b, 1, none⟩ y).setCell ⟨b, 2, none⟩ z) :=
  ConfRes.done (r := (blankC, k)) hb hX (World.ownsRow_nil ..) (World.ownsRow_nil ..) (fun g hg => by simp [Value.ownBlock] at hg) (fun g hg => by simp [Value.ownBlock] at hg) (fun g hg => by simp [Value.ownBlock] at hg) x y z
end Go.Proofs.YtjcfmlecfjmcgaaGreatDoor
end
