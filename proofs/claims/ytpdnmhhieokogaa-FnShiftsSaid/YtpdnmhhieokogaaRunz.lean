/- Contract of the program's RunMachine. -/
import Derived.Test.YtpdnmhhieokogaaRuny
set_option linter.unusedSimpArgs false
set_option linter.unusedVariables false
namespace Go.Proofs.Ytpdnmhhieokogaa
open Go Go.RowKit Go.Proofs
set_option maxHeartbeats 400000
theorem conf_run {m : MachD} {c : ConfD} (h : confB m c = true) : IGood m c ∧ fitI c = true := by
  simp only [confB, sideOk, inB, Bool.and_eq_true, decide_eq_true_eq, List.all_eq_true] at h
  obtain ⟨⟨hq, ⟨hl1, hl2⟩, _⟩, ⟨hr1, hr2⟩, _⟩ := h
  refine ⟨⟨by omega, by omega, fun z hz => by have := hl2 z hz; omega, fun z hz => by have := hr2 z hz; omega⟩, ?_⟩
  simp [fitI]
  omega
/-- What a run of a machine gives: the configuration, the steps, whether it halts, a code. -/
def RunVal (w w' : World) (x : ConfD) (n : Int) (s : Bool) (k : Int) (e : Ending) : Prop :=
  ∃ lv rv, e = .returned (.tuple #[.agg #[.int .i64 x.q, lv, rv], .int .i64 n, .bool s, .int .i64 k]) ∧ OwnInts w.heap.size w' lv x.l ∧ OwnInts w.heap.size w' rv x.r ∧ (∀ g, lv.ownBlock = some g → rv.ownBlock ≠ some g)
def RunRes (w : World) (m : MachD) (c : ConfD) (n : Int) (e : Ending) (w' : World) : Prop :=
  Ext w w' ∧
    ((((machOk m && confB m c) = false) ∧ RunVal w w' blankC 0 false 1 e) ∨
     (((machOk m && confB m c) = true) ∧ inB n 1 20000 = false ∧ RunVal w w' blankC 0 false 2 e) ∨
     (((machOk m && confB m c) = true) ∧ inB n 1 20000 = true ∧ ∃ i, FullAt m c n.toNat i ∧ RunVal w w' blankC 0 false 5 e) ∨
     (((machOk m && confB m c) = true) ∧ inB n 1 20000 = true ∧ ∃ i : Nat, EndAt m c n.toNat i ∧ RunVal w w' (cfgI m c i) i (decide (lookI m (cfgI m c i) = noR)) 0 e))
theorem RunVal.blank {w w1 : World} {n k : Int} {s : Bool} {b : Nat} (x y z : Value) : RunVal w (((w1.setCell ⟨b, 0, none⟩ x).setCell ⟨b, 1, none⟩ y).setCell ⟨b, 2, none⟩ z) blankC n s k (.returned (.tuple #[.agg #[.int .i64 0, .slice none 0 0, .slice none 0 0], .int .i64 n, .bool s, .int .i64 k])) :=
  ⟨_, _, rfl, World.ownsRow_nil .., World.ownsRow_nil .., fun g hg => by simp [Value.ownBlock] at hg⟩
theorem Ext.three {w w1 : World} {b : Nat} (h : Ext w w1) (hb : w.heap.size ≤ b) (x y z : Value) : Ext w (((w1.setCell ⟨b, 0, none⟩ x).setCell ⟨b, 1, none⟩ y).setCell ⟨b, 2, none⟩ z) :=
  ((h.setCell hb _).setCell hb _).setCell hb _
set_option maxRecDepth 20000 in
set_option maxHeartbeats 4000000 in
theorem RunMachine_c (rvm : Value) (m : MachD) (c : ConfD) (lv qv : Value) (n : Int) (w : World) (hr : Rules w rvm m.rules) (hl : Ints w lv c.l) (hq : Ints w qv c.r) (fl : Flat lv) (fr : Flat qv) :
    Calls Try.prog 22 #[.agg #[.int .i64 m.sy, .int .i64 m.st, rvm], .agg #[.int .i64 c.q, lv, qv], .int .i64 n] w (RunRes w m c n) := by
  obtain ⟨Am, cm, rfl, _, _⟩ := hr.form
  obtain ⟨Al, cl, rfl, _, _⟩ := hl.form
  obtain ⟨Ar, cr, rfl, _, _⟩ := hq.form
  obtain ⟨W, hW⟩ : ∃ W, W = ((w.alloc (.cells #[.int .i64 m.sy, .int .i64 m.st, .slice Am m.rules.length cm] 26)).alloc (.cells #[.int .i64 c.q, .slice Al c.l.length cl, .slice Ar c.r.length cr] 36)).alloc (.cells #[.int .i64 0, .slice none 0 0, .slice none 0 0] 36) := ⟨_, rfl⟩
  have hXW : Ext w W := by rw [hW]; exact ((Ext.alloc _ _).trans (Ext.alloc _ _)).trans (Ext.alloc _ _)
  have bM : Blk W w.heap.size 26 #[.int .i64 m.sy, .int .i64 m.st, .slice Am m.rules.length cm] := by rw [hW]; exact ((Blk.new _ _ _ _ rfl).alloc _).alloc _
  have bC : Blk W (w.heap.size + 1) 36 #[.int .i64 c.q, .slice Al c.l.length cl, .slice Ar c.r.length cr] := by rw [hW]; exact (Blk.new _ _ _ _ (by simp)).alloc _
  have bO : Blk W (w.heap.size + 1 + 1) 36 #[.int .i64 0, .slice none 0 0, .slice none 0 0] := by rw [hW]; exact Blk.new _ _ _ _ (by simp)
  have hb2 : w.heap.size ≤ w.heap.size + 1 + 1 := by omega
  have hrW := hr.ext hXW
  have hlW := hl.ext hXW
  have hqW := hq.ext hXW
  go_enter Try.func22, Try.ntmps22
  go_wp2_with fail
  rw [← hW]
  clear hW
  refine (ValidConfig_c _ _ m c _ ⟨_, rfl, hrW⟩ ⟨_, _, rfl, hlW, hqW⟩).mono ?_
  rintro e w1 ⟨rfl, hx1⟩
  have hX1 := hXW.trans hx1
  have ob := (bO.ext hx1).cell
  have of_ := (bO.ext hx1).frozen
  cases hv : (machOk m && confB m c) with
  | false =>
    have HV := Lib.hid hv
    clear hv
    go_wp2
    exact bodyPost_ret (v := .tuple #[.agg #[.int .i64 0, .slice none 0 0, .slice none 0 0], .int .i64 0, .bool false, .int .i64 1]) (by simp [results, Try.results22, go_sem, ob]) rfl ⟨hX1.three hb2 _ _ _, .inl ⟨HV.out, RunVal.blank _ _ _⟩⟩
  | true =>
    have HV := Lib.hid hv
    clear hv
    go_wp2_with fail
    refine (budgetOk_c _ _).mono ?_
    rintro e w' ⟨rfl, rfl⟩
    cases hn : inB n 1 20000 with
    | false =>
      have HN := Lib.hid hn
      clear hn
      go_wp2
      exact bodyPost_ret (v := .tuple #[.agg #[.int .i64 0, .slice none 0 0, .slice none 0 0], .int .i64 0, .bool false, .int .i64 2]) (by simp [results, Try.results22, go_sem, ob]) rfl ⟨hX1.three hb2 _ _ _, .inr (.inl ⟨HV.out, HN.out, RunVal.blank _ _ _⟩)⟩
    | true =>
      have hn' := hn
      simp only [inB, Bool.and_eq_true, decide_eq_true_eq] at hn'
      obtain ⟨N, rfl⟩ : ∃ N : Nat, n = N := ⟨n.toNat, by omega⟩
      have HN := Lib.hid hn
      clear hn
      have hmc := HV.out
      simp only [Bool.and_eq_true] at hmc
      obtain ⟨hg, hf⟩ := conf_run hmc.2
      have hmo := hmc.1
      have hff := fit_both hf
      have HM := Lib.hid hmo
      have HF := Lib.hid hf
      clear hmc hmo hf
      have m0 := (bM.ext hx1).cell 0
      have m1 := (bM.ext hx1).cell 1
      have m2 := (bM.ext hx1).cell 2
      have c0 := (bC.ext hx1).cell 0
      have c1 := (bC.ext hx1).cell 1
      have c2 := (bC.ext hx1).cell 2
      simp only [List.getElem?_toArray, List.getElem?_cons_zero, List.getElem?_cons_succ] at m0 m1 m2 c0 c1 c2
      go_wp2_with fail
      refine (runnerOf_c w1 m c _ _ _ (hr.ext hX1) (hl.ext hX1) (hq.ext hX1) fl fr (by omega) (by omega)).mono ?_
      rintro e w2 ⟨b, l2, r2, rfl, R2⟩
      have hX2 := hX1.trans R2.ext0
      clear m0 m1 m2 c0 c1 c2
      go_wp2_with fail
      refine (run_c w1 w2 b m c _ l2 r2 N (by omega) HM.out hg HF.out R2).mono ?_
      rintro e w3 (⟨i, l3, r3, hE, rfl, R3⟩ | ⟨⟨i, hFull⟩, rfl, hx3⟩)
      · have hX3 := hX1.trans R3.ext0
        have hfi := fit_both (hE.runs.fit i (Nat.le_refl _))
        have HE := Lib.hid hE
        clear hE
        go_wp2_with fail
        refine (config_c w1 w3 b m _ _ l3 r3 R3 (by omega) (by omega)).mono ?_
        rintro e w4 ⟨l4, r4, rfl, ol, orr, hap, hx4⟩
        have hX4 := hX3.trans hx4
        obtain ⟨d, hd⟩ : ∃ d, d = cfgI m c i := ⟨_, rfl⟩
        rw [← hd] at ol orr
        obtain ⟨A4, k4, rfl, _, _⟩ := ol.ints.form
        obtain ⟨B4, j4, rfl, _, _⟩ := orr.ints.form
        have HD := Lib.hid hd
        rw [← hd]
        obtain ⟨hb, hhb⟩ : ∃ x, x = decide (lookI m d = noR) := ⟨_, rfl⟩
        rw [← hhb]
        have HB := Lib.hid hhb
        clear hd hhb
        clear ob of_
        have bO4 := ((bO.ext hx1).ext R3.ext0).ext hx4
        have ob := bO4.cell
        have of_ := bO4.frozen
        have hb8 : w.heap.size + 1 + 1 < w3.heap.size := ((bO.ext hx1).ext R3.ext0).lt
        have n1 : ∀ g, (Value.slice A4 d.l.length k4).ownBlock = some g → g ≠ w.heap.size + 1 + 1 := fun g hg => by have := (ol.lt g hg).1; omega
        have n2 : ∀ g, (Value.slice B4 d.r.length j4).ownBlock = some g → g ≠ w.heap.size + 1 + 1 := fun g hg => by have := (orr.lt g hg).1; omega
        obtain ⟨dq, dl, dr⟩ := d
        simp only at ol orr hap n1 n2
        go_wp2
        refine bodyPost_ret (v := .tuple #[.agg #[.int .i64 dq, .slice A4 dl.length k4, .slice B4 dr.length j4], .int .i64 (i : Int), .bool hb, .int .i64 0]) (by simp [results, Try.results22, go_sem, ob]) rfl ⟨hX4.three hb2 _ _ _, .inr (.inr (.inr ⟨HV.out, HN.out, i, HE.out, ?_⟩))⟩
        rw [← HD.out, ← HB.out]
        refine ⟨_, _, rfl, ?_, ?_, hap⟩
        · exact ownsRow_base (ownsRow_far (ownsRow_far (ownsRow_far ol n1 _) n1 _) n1 _) hX3.size
        · exact ownsRow_base (ownsRow_far (ownsRow_far (ownsRow_far orr n2 _) n2 _) n2 _) hX3.size
      · have HFL := Lib.hid hFull
        clear hFull ob of_
        have bO3 := (bO.ext hx1).ext hx3
        have ob := bO3.cell
        have of_ := bO3.frozen
        go_wp2
        exact bodyPost_ret (v := .tuple #[.agg #[.int .i64 0, .slice none 0 0, .slice none 0 0], .int .i64 0, .bool false, .int .i64 5]) (by simp [results, Try.results22, go_sem, ob]) rfl ⟨(hX1.trans hx3).three hb2 _ _ _, .inr (.inr (.inl ⟨HV.out, HN.out, i, HFL.out, RunVal.blank _ _ _⟩))⟩
end Go.Proofs.Ytpdnmhhieokogaa
