/- Contracts of the program's tracked runs, runs of so many steps, and tracks of the head. -/
import Derived.Test.YtpdnmhhieokogaaShE
import Derived.Test.YtpdnmhhieokogaaRunz
import Derived.Test.YtpdnmhhieokogaaValid
set_option linter.unusedSimpArgs false
set_option linter.unusedVariables false
namespace Go.Proofs.Ytpdnmhhieokogaa
open Go Go.RowKit Go.Proofs
set_option maxHeartbeats 400000
theorem TrkAt.free {w0 W : World} {x : Nat} {lv rv pv qv : Value} {P : List Int} {rs : List RecV} {lo hi : Int} (h : TrkAt w0 W x lv rv P rs lo hi pv qv) : TrkAt w0 W x (.slice none 0 0) (.slice none 0 0) P rs lo hi pv qv :=
  ⟨h.blk, h.pos, h.rec_, h.conf, h.low, fun g _ => ⟨by simp [Value.ownBlock], by simp [Value.ownBlock]⟩, fun r hr g hg => ⟨by simp [Value.ownBlock], by simp [Value.ownBlock], (h.d2 r hr g hg).2.2⟩⟩
/-- What a tracked run comes to. -/
def TrkRes (w : World) (m : MachD) (N : Nat) (e : Ending) (w' : World) : Prop :=
  ∃ (x i : Nat) (rs : List RecV) (lo hi : Int) (pv qv : Value), TrkAt w w' x (.slice none 0 0) (.slice none 0 0) (posM m blankC (i + 1)) rs lo hi pv qv ∧ RecsAt m blankC (i + 1) rs lo hi ∧ Ext w w' ∧ rs.length ≤ i + 1 ∧
    ((EndAt m blankC N i ∧ e = .returned (.tuple #[.pointer (some ⟨x, 0, none⟩), .bool (decide (lookI m (cfgI m blankC i) = noR)), .int .i64 0])) ∨ (FullAt m blankC N (i + 1) ∧ e = .returned (.tuple #[.pointer (some ⟨x, 0, none⟩), .bool false, .int .i64 5])))
set_option maxRecDepth 20000 in
set_option maxHeartbeats 1000000 in
theorem tracked_c (w : World) (m : MachD) (mv : Value) (N : Nat) (hr : Rules w mv m.rules) (hm : machOk m = true) (hN : N ≤ 20000) :
    Calls Try.prog 14 #[.agg #[.int .i64 m.sy, .int .i64 m.st, mv], .int .i64 N] w (TrkRes w m N) := by
  obtain ⟨Am, cm, rfl, _, _⟩ := id hr.form
  obtain ⟨W, hW⟩ : ∃ W, W = (w.alloc (.cells #[.int .i64 m.sy, .int .i64 m.st, .slice Am m.rules.length cm] 26)).alloc (.cells #[.slice none 0 0, .slice none 0 0, .int .i64 0, .int .i64 0] 53) := ⟨_, rfl⟩
  have hX : Ext w W := by rw [hW]; exact (Ext.alloc _ _).trans (Ext.alloc _ _)
  have bQ : Blk W (w.heap.size + 1) 53 #[.slice none 0 0, .slice none 0 0, .int .i64 0, .int .i64 0] := by rw [hW]; exact Blk.new _ _ _ _ (by simp)
  have HM := Lib.hid hm
  have HR := Lib.hid hr
  clear hm hr
  go_enter Try.func14, Try.ntmps14
  go_wp2_with fail
  rw [← hW]
  clear hW
  refine (follow_c w W (w.heap.size + 1) m _ N HR.out hX HM.out hN bQ (by omega)).mono ?_
  rintro e w2 ⟨i, rs, lo, hi, pv, qv, lv, rv, hT, hRS, hx, hrl, ⟨hE, rfl⟩ | ⟨hF, rfl⟩⟩
  · have HT := Lib.hid hT.free
    have HRS := Lib.hid hRS
    have HE := Lib.hid hE
    obtain ⟨y, hy⟩ : ∃ y, decide (lookI m (cfgI m blankC i) = noR) = y := ⟨_, rfl⟩
    have HY := Lib.hid hy
    rw [hy]
    clear hT hRS hE hy bQ hX
    go_wp2
    exact bodyPost_ret (v := .tuple #[.pointer (some ⟨w.heap.size + 1, 0, none⟩), .bool y, .int .i64 0]) (by simp [results, Try.results14, go_sem]) rfl ⟨_, i, rs, lo, hi, pv, qv, HT.out, HRS.out, hx, hrl, .inl ⟨HE.out, by rw [HY.out]⟩⟩
  · have HT := Lib.hid hT.free
    have HRS := Lib.hid hRS
    have HF := Lib.hid hF
    clear hT hRS hF bQ hX
    go_wp2
    exact bodyPost_ret (v := .tuple #[.pointer (some ⟨w.heap.size + 1, 0, none⟩), .bool false, .int .i64 5]) (by simp [results, Try.results14, go_sem]) rfl ⟨_, i, rs, lo, hi, pv, qv, HT.out, HRS.out, hx, hrl, .inr ⟨HF.out, rfl⟩⟩
set_option maxRecDepth 20000 in
theorem blankRun_c (w : World) (m : MachD) (mv : Value) (hr : Rules w mv m.rules) :
    Calls Try.prog 33 #[.agg #[.int .i64 m.sy, .int .i64 m.st, mv]] w (MadeRun w m blankC mv) := by
  obtain ⟨Am, cm, rfl, _, _⟩ := id hr.form
  obtain ⟨W, hW⟩ : ∃ W, W = w.alloc (.cells #[.int .i64 m.sy, .int .i64 m.st, .slice Am m.rules.length cm] 26) := ⟨_, rfl⟩
  have hX : Ext w W := by rw [hW]; exact Ext.alloc _ _
  have HR := Lib.hid hr
  clear hr
  go_enter Try.func33, Try.ntmps33
  go_wp2_with fail
  rw [← hW]
  clear hW
  refine (runnerOf_c W m blankC _ _ _ (HR.out.ext hX) (ints_nil W) (ints_nil W) (.inl rfl) (.inl rfl) (by simp [blankC]) (by simp [blankC])).mono ?_
  rintro e w2 ⟨b, lv, rv, rfl, hRun⟩
  have H := Lib.hid (hRun.under HR.out hX)
  clear hRun
  go_wp2
  go_ret
  exact ⟨b, lv, rv, rfl, H.out⟩
/-- What a run of so many steps comes to. -/
def AftRes (w : World) (m : MachD) (mv : Value) (N : Nat) (e : Ending) (w' : World) : Prop :=
  ∃ b : Nat, (∃ (i : Nat) (lv rv : Value), EndAt m blankC N i ∧ e = .returned (.tuple #[.pointer (some ⟨b, 0, none⟩), .bool ((i : Int) == (N : Int))]) ∧ RunAt w w' b m (cfgI m blankC i) mv lv rv) ∨
    ((∃ i, FullAt m blankC N i) ∧ e = .returned (.tuple #[.pointer (some ⟨b, 0, none⟩), .bool false]) ∧ Ext w w')
set_option maxRecDepth 20000 in
set_option maxHeartbeats 1000000 in
theorem afterSteps_c (w : World) (m : MachD) (mv : Value) (N : Nat) (hr : Rules w mv m.rules) (hm : machOk m = true) (hN : N ≤ 20000) :
    Calls Try.prog 18 #[.agg #[.int .i64 m.sy, .int .i64 m.st, mv], .int .i64 N] w (AftRes w m mv N) := by
  obtain ⟨Am, cm, rfl, _, _⟩ := id hr.form
  obtain ⟨W, hW⟩ : ∃ W, W = w.alloc (.cells #[.int .i64 m.sy, .int .i64 m.st, .slice Am m.rules.length cm] 26) := ⟨_, rfl⟩
  have hX : Ext w W := by rw [hW]; exact Ext.alloc _ _
  have HM := Lib.hid hm
  have HR := Lib.hid hr
  have HG := Lib.hid (blank_good hm)
  clear hm hr
  go_enter Try.func18, Try.ntmps18
  go_wp2_with fail
  rw [← hW]
  clear hW
  refine (blankRun_c W m _ (HR.out.ext hX)).mono ?_
  rintro e w2 ⟨b, lv, rv, rfl, hRun⟩
  have hR2 := hRun.under HR.out hX
  clear hRun
  go_wp2_with fail
  refine (run_c w w2 b m blankC _ lv rv N (by omega) HM.out HG.out (by decide) hR2).mono ?_
  rintro e w3 (⟨i, l3, r3, hE, rfl, R3⟩ | ⟨⟨i, hFull⟩, rfl, hx3⟩)
  · have HE := Lib.hid hE
    have H3 := Lib.hid R3
    clear hE R3 hR2
    by_cases hiN : (i : Int) = (N : Int)
    · have hb : ((i : Int) == (N : Int)) = true := by simp [hiN]
      have HB := Lib.hid hb
      clear hiN
      go_wp2
      exact bodyPost_ret (v := .tuple #[.pointer (some ⟨b, 0, none⟩), .bool true]) (by simp [results, Try.results18, go_sem]) rfl ⟨b, .inl ⟨i, l3, r3, HE.out, by rw [HB.out], H3.out⟩⟩
    · have hb : ((i : Int) == (N : Int)) = false := by simpa using hiN
      have HB := Lib.hid hb
      clear hiN
      go_wp2
      exact bodyPost_ret (v := .tuple #[.pointer (some ⟨b, 0, none⟩), .bool false]) (by simp [results, Try.results18, go_sem]) rfl ⟨b, .inl ⟨i, l3, r3, HE.out, by rw [HB.out], H3.out⟩⟩
  · have HF := Lib.hid hFull
    clear hFull hR2
    go_wp2
    exact bodyPost_ret (v := .tuple #[.pointer (some ⟨b, 0, none⟩), .bool false]) (by simp [results, Try.results18, go_sem]) rfl ⟨b, .inr ⟨⟨i, HF.out⟩, rfl, hx3⟩⟩
/-- The track of the head. -/
def TrackOk (w : World) (m : MachD) (N : Nat) (e : Ending) (w' : World) : Prop :=
  ∃ pv, e = .returned (.tuple #[pv, .int .i64 0]) ∧ Ints w' pv (posM m blankC (N + 1)) ∧ Ext w w'
set_option maxRecDepth 20000 in
set_option maxHeartbeats 1000000 in
theorem HeadTrack_c (w : World) (m : MachD) (mv : Value) (N : Nat) (hr : Rules w mv m.rules) (hm : machOk m = true) (hN : N ≤ 60) (hrun : RunsTo m blankC N) :
    Calls Try.prog 10 #[.agg #[.int .i64 m.sy, .int .i64 m.st, mv], .int .i64 N] w (TrackOk w m N) := by
  obtain ⟨Am, cm, rfl, _, _⟩ := id hr.form
  obtain ⟨W, hW⟩ : ∃ W, W = w.alloc (.cells #[.int .i64 m.sy, .int .i64 m.st, .slice Am m.rules.length cm] 26) := ⟨_, rfl⟩
  have hX : Ext w W := by rw [hW]; exact Ext.alloc _ _
  have bM : Blk W w.heap.size 26 #[.int .i64 m.sy, .int .i64 m.st, .slice Am m.rules.length cm] := by rw [hW]; exact Blk.new _ _ _ _ rfl
  have HM := Lib.hid hm
  have HR := Lib.hid hr
  have HRUN := Lib.hid hrun
  clear hm hr hrun
  go_enter Try.func10, Try.ntmps10
  go_wp2_with fail
  rw [← hW]
  clear hW
  refine (ValidMachine_c _ m W ⟨_, rfl, HR.out.ext hX⟩).mono ?_
  rintro e w1 ⟨rfl, hx1⟩
  rw [HM.out]
  have m0 := (bM.ext hx1).cell 0
  have m1 := (bM.ext hx1).cell 1
  have m2 := (bM.ext hx1).cell 2
  simp only [List.getElem?_toArray, List.getElem?_cons_zero, List.getElem?_cons_succ] at m0 m1 m2
  go_wp2_with fail
  refine (within_c _ _ _ w1).mono ?_
  rintro e w' ⟨rfl, rfl⟩
  have hin : inB (N : Int) 0 60 = true := by simp [inB]; omega
  rw [hin]
  clear hin
  go_wp2_with fail
  refine (tracked_c w1 m _ N (HR.out.ext (hX.trans hx1)) HM.out (by omega)).mono ?_
  rintro e w2 ⟨x, i, rs, lo, hi, pv, qv, hT, hRS, hx2, hrl, ⟨hE, rfl⟩ | ⟨hF, rfl⟩⟩
  · have hiN : i = N := by
      rcases hE.stop with e | e
      · exact e
      · by_cases hlt : i < N
        · exact absurd e (HRUN.out.no i hlt)
        · have := hE.le; omega
    subst hiN
    have HP := Lib.hid hT.pos.ints
    have p0 := hT.blk.cell 0
    simp only [List.getElem?_toArray, List.getElem?_cons_zero] at p0
    obtain ⟨Ap, cp, rfl, _, _⟩ := hT.pos.ints.form
    have HXX := Lib.hid ((hX.trans hx1).trans hx2)
    obtain ⟨y, hy⟩ : ∃ y, decide (lookI m (cfgI m blankC i) = noR) = y := ⟨_, rfl⟩
    rw [hy]
    clear hT hRS hE hy hrl
    go_wp2
    exact bodyPost_ret (v := .tuple #[.slice Ap (posM m blankC (i + 1)).length cp, .int .i64 0]) (by simp [results, Try.results10, go_sem]) rfl ⟨_, rfl, HP.out, HXX.out⟩
  · exfalso
    have h1 := hF.full
    have h2 := HRUN.out.fit (i + 1) hF.le
    rw [h1] at h2
    exact absurd h2 (by decide)
end Go.Proofs.Ytpdnmhhieokogaa
