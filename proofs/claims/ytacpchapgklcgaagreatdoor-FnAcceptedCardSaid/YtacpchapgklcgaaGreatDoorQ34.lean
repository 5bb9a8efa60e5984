/- Plain words: the program's run of a machine from the blank tape and the reference's are one. No program stands here.
Contract of the program's test whether a machine halts ahead of so many steps. -/
import Derived.Test.YtacpchapgklcgaaGreatDoorQ33
import Derived.Test.YtacpchapgklcgaaGreatDoorQ29
import Derived.Test.YtacpchapgklcgaaGreatDoorQ31
section
set_option linter.unusedSimpArgs false
set_option linter.unusedVariables false
namespace Go.Proofs.YtacpchapgklcgaaGreatDoor
open Go Go.RowKit Go.Proofs
abbrev blank0 : ConfD := ⟨0, [], []⟩
theorem lookI_ruleAt (m : MachD) (c : ConfD) : ruleAt m (cR c) = lookI m c := rfl
theorem cfg_runC (m : MachD) : ∀ t, runC m t = cR (cfgI m blank0 t) ∧ tidyL (cfgI m blank0 t).l ∧ tidyL (cfgI m blank0 t).r := by
  intro t
  induction t with
  | zero => exact ⟨rfl, .inl rfl, .inl rfl⟩
  | succ t ih =>
    obtain ⟨e, h1, h2⟩ := ih
    have e2 : runC m (t + 1) = stepC (ruleAt m (runC m t)) (runC m t) := rfl
    have e3 : cfgI m blank0 (t + 1) = stepI (lookI m (cfgI m blank0 t)) (cfgI m blank0 t) := rfl
    refine ⟨?_, ?_⟩
    · rw [e2, e, lookI_ruleAt, stepC_eq ⟨h1, h2⟩, e3]
    · rw [e3]
      exact tidy_step ⟨h1, h2⟩
/-- The machine halts from the blank tape behind T steps. -/
def HaltsAt (m : MachD) (T : Nat) : Prop := (∀ j < T, ¬ lookI m (cfgI m blank0 j) = noR) ∧ lookI m (cfgI m blank0 T) = noR
theorem haltsAt_ref {m : MachD} {T : Nat} (h1 : ∀ j < T, ¬ ruleAt m (runC m j) = noR) (h2 : ruleAt m (runC m T) = noR) : HaltsAt m T := by
  refine ⟨fun j hj => ?_, ?_⟩
  · have := h1 j hj
    rw [(cfg_runC m j).1] at this
    exact this
  · rw [(cfg_runC m T).1] at h2
    exact h2
theorem haltsAt_run {m : MachD} (hm : machOk m = true) {T : Nat} (h : HaltsAt m T) : HaltRun m T (fun t => tapeOf (runC m t) (posC m t)) (posC m) (fun t => (runC m t).q) :=
  runC_halts hm (fun j hj => by rw [(cfg_runC m j).1]; exact h.1 j hj) (by rw [(cfg_runC m T).1]; exact h.2)
theorem haltsAt_unique {m : MachD} {T T' : Nat} (h : HaltsAt m T) (h' : HaltsAt m T') : T = T' := by
  rcases Nat.lt_trichotomy T T' with c | c | c
  · exact absurd h.2 (h'.1 T c)
  · exact c
  · exact absurd h'.2 (h.1 T' c)
theorem blank_goodB {m : MachD} (hm : machOk m = true) : IGood m blank0 := by
  obtain ⟨⟨_, _, h3, _⟩, _, _⟩ := machOk_five hm
  exact ⟨Int.le_refl _, by show (0 : Int) < m.st; omega, fun z hz => (by cases hz), fun z hz => (by cases hz)⟩
theorem cfg_goodB {m : MachD} (hm : machOk m = true) {T : Nat} (h : ∀ j < T, ¬ lookI m (cfgI m blank0 j) = noR) : ∀ t, t ≤ T → IGood m (cfgI m blank0 t) := by
  intro t
  induction t with
  | zero => intro _; exact blank_goodB hm
  | succ t ih => intro ht; exact (ih (by omega)).step hm (h t (by omega))
end Go.Proofs.YtacpchapgklcgaaGreatDoor
end
section
set_option linter.unusedSimpArgs false
set_option linter.unusedVariables false
namespace Go.Proofs.YtacpchapgklcgaaGreatDoor
open Go Go.RowKit Go.Proofs
set_option maxHeartbeats 400000
theorem lenB (m : MachD) (n : Nat) : (cfgI m blankC n).l.length ≤ n ∧ (cfgI m blankC n).r.length ≤ n + 1 := by
  have hp : ∀ (z : Int) (l : List Int), (pushL z l).length ≤ l.length + 1 := fun z l => by unfold pushL; split <;> simp
  induction n with
  | zero => exact ⟨Nat.le_refl _, by show 0 ≤ 1; omega⟩
  | succ n ih =>
    have e : cfgI m blankC (n + 1) = stepI (lookI m (cfgI m blankC n)) (cfgI m blankC n) := rfl
    rw [e]
    generalize cfgI m blankC n = c at *
    generalize lookI m c = ru
    unfold stepI
    split
    · have := hp ru.w c.l
      refine ⟨by show (pushL ru.w c.l).length ≤ n + 1; omega, by show (c.r.drop 1).length ≤ n + 1 + 1; rw [List.length_drop]; omega⟩
    · have h1 := hp ru.w (c.r.drop 1)
      have h2 := hp (hdD c.l) (pushL ru.w (c.r.drop 1))
      rw [List.length_drop] at h1
      refine ⟨by show (c.l.drop 1).length ≤ n + 1; rw [List.length_drop]; omega, by show (pushL (hdD c.l) (pushL ru.w (c.r.drop 1))).length ≤ n + 1 + 1; omega⟩
theorem notFullB {m : MachD} {N i : Nat} (h : FullAt m blankC N i) (hN : N ≤ 199) : False := by
  have h1 := h.full
  have := lenB m i
  have := h.le
  have h2 : fitI (cfgI m blankC i) = true := by
    simp only [fitI, Bool.and_eq_true, decide_eq_true_eq]
    omega
  rw [h1] at h2
  cases h2
/-- What the run says of halting ahead of N steps. -/
theorem before_iff {m : MachD} {N i : Nat} (h : EndAt m blankC N i) : (((i : Int) < (N : Int)) ∧ decide (lookI m (cfgI m blankC i) = noR) = true) ↔ ∃ T, T < N ∧ HaltsAt m T := by
  constructor
  · rintro ⟨h1, h2⟩
    exact ⟨i, by omega, h.runs.no, of_decide_eq_true h2⟩
  · rintro ⟨T, hT, hh⟩
    have : i = T := by
      rcases h.stop with e | e
      · subst e
        exact absurd hh.2 (h.runs.no T hT)
      · exact haltsAt_unique ⟨h.runs.no, e⟩ hh
    subst this
    exact ⟨by omega, decide_eq_true hh.2⟩
def HbRes (w : World) (m : MachD) (d : Nat) (e : Ending) (w' : World) : Prop := ∃ r : Bool, e = .returned (.bool r) ∧ (r = true ↔ ∃ T, T < d ∧ HaltsAt m T) ∧ Ext w w'
set_option maxRecDepth 20000 in
set_option maxHeartbeats 1000000 in
theorem haltsBefore_c (w : World) (m : MachD) (mv : Value) (N : Nat) (hr : Rules w mv m.rules) (hm : machOk m = true) (hN : N ≤ 199) :
    Calls Tryz.prog 26 #[.agg #[.int .i64 m.sy, .int .i64 m.st, mv], .int .i64 N] w (HbRes w m N) := by
  obtain ⟨Am, cm, rfl, _, _⟩ := id hr.form
  obtain ⟨W, hW⟩ : ∃ W, W = w.alloc (.cells #[.int .i64 m.sy, .int .i64 m.st, .slice Am m.rules.length cm] 26) := ⟨_, rfl⟩
  have hX : Ext w W := by rw [hW]; exact Ext.alloc _ _
  have HM := Lib.hid hm
  have HR := Lib.hid hr
  have HG := Lib.hid (blank_goodB hm)
  clear hm hr
  go_enter Tryz.func26, Tryz.ntmps26
  go_wp2_with fail
  rw [← hW]
  clear hW
  refine (blankRun_c W m _ (HR.out.ext hX)).mono ?_
  rintro e w2 ⟨b, lv, rv, rfl, hRun⟩
  have hR2 := hRun.under HR.out hX
  clear hRun
  go_wp2_with fail
  refine (run_c w w2 b m blankC _ lv rv N (by omega) HM.out HG.out (by decide) hR2).mono ?_
  rintro e w3 (⟨i, l3, r3, hE, rfl, R3⟩ | ⟨⟨i, hFull⟩, rfl, hx3⟩)
  · have HB := Lib.hid (before_iff hE)
    have HX := Lib.hid R3.ext0
    clear hE R3 hR2
    generalize decide (lookI m (cfgI m blankC i) = noR) = q at *
    by_cases hiN : (i : Int) < (N : Int)
    · have HI := Lib.hid hiN
      cases q
      · go_wp2_with fail
        exact bodyPost_ret (v := .bool false) (by simp [results, Tryz.results26, go_sem]) rfl ⟨false, rfl, by rw [← HB.out]; simp, HX.out⟩
      · go_wp2_with fail
        exact bodyPost_ret (v := .bool true) (by simp [results, Tryz.results26, go_sem]) rfl ⟨true, rfl, by rw [← HB.out]; simp [HI.out], HX.out⟩
    · have HI := Lib.hid hiN
      cases q
      · go_wp2_with fail
        exact bodyPost_ret (v := .bool false) (by simp [results, Tryz.results26, go_sem]) rfl ⟨false, rfl, by rw [← HB.out]; simp; try omega, HX.out⟩
      · go_wp2_with fail
        exact bodyPost_ret (v := .bool false) (by simp [results, Tryz.results26, go_sem]; omega) rfl ⟨false, rfl, by rw [← HB.out]; simp; omega, HX.out⟩
  · exact (notFullB hFull hN).elim
end Go.Proofs.YtacpchapgklcgaaGreatDoor
end
