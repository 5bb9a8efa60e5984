/- Plain words: the program's run of a machine from the blank tape and the reference's are one. No program stands here.
Plain words: where each abstraction that is reached has a rule, the machine does not halt from the blank tape.
Contracts of the program's check of automata: each abstraction that is reached has a rule. -/
import Derived.Test.YtacpchapgklcgaaGreatDoorR17
import Derived.Test.YtacpchapgklcgaaGreatDoorR18
import Derived.Test.YtacpchapgklcgaaGreatDoorR14
import Derived.Test.YtacpchapgklcgaaGreatDoorR15
section
set_option linter.unusedSimpArgs false
set_option linter.unusedVariables false
namespace Go.Proofs.YtacpchapgklcgaaGreatDoor
open Go Go.RowKit Go.Proofs
abbrev blank0 : ConfD := ⟨0, [], []⟩
theorem lookI_ruleAt (m : MachD) (c : ConfD) : ruleAt m (cR c) = lookI m c := rfl
theorem cfg_runC (m : MachD) : ∀ t, runC m t = cR (cfgI m blank0 t) ∧ tidyL (cfgI m blank0 t).l ∧ tidyL (cfgI m blank0 t).r := by
  intro t
  induction t with
  | zero => exact ⟨rfl, .inl rfl, .inl rfl⟩
  | succ t ih =>
    obtain ⟨e, h1, h2⟩ := ih
    have e2 : runC m (t + 1) = stepC (ruleAt m (runC m t)) (runC m t) := rfl
    have e3 : cfgI m blank0 (t + 1) = stepI (lookI m (cfgI m blank0 t)) (cfgI m blank0 t) := rfl
    refine ⟨?_, ?_⟩
    · rw [e2, e, lookI_ruleAt, stepC_eq ⟨h1, h2⟩, e3]
    · rw [e3]
      exact tidy_step ⟨h1, h2⟩
/-- The machine halts from the blank tape behind T steps. -/
def HaltsAt (m : MachD) (T : Nat) : Prop := (∀ j < T, ¬ lookI m (cfgI m blank0 j) = noR) ∧ lookI m (cfgI m blank0 T) = noR
theorem haltsAt_ref {m : MachD} {T : Nat} (h1 : ∀ j < T, ¬ ruleAt m (runC m j) = noR) (h2 : ruleAt m (runC m T) = noR) : HaltsAt m T := by
  refine ⟨fun j hj => ?_, ?_⟩
  · have := h1 j hj
    rw [(cfg_runC m j).1] at this
    exact this
  · rw [(cfg_runC m T).1] at h2
    exact h2
theorem haltsAt_run {m : MachD} (hm : machOk m = true) {T : Nat} (h : HaltsAt m T) : HaltRun m T (fun t => tapeOf (runC m t) (posC m t)) (posC m) (fun t => (runC m t).q) :=
  runC_halts hm (fun j hj => by rw [(cfg_runC m j).1]; exact h.1 j hj) (by rw [(cfg_runC m T).1]; exact h.2)
theorem haltsAt_unique {m : MachD} {T T' : Nat} (h : HaltsAt m T) (h' : HaltsAt m T') : T = T' := by
  rcases Nat.lt_trichotomy T T' with c | c | c
  · exact absurd h.2 (h'.1 T c)
  · exact c
  · exact absurd h'.2 (h.1 T' c)
theorem blank_goodB {m : MachD} (hm : machOk m = true) : IGood m blank0 := by
  obtain ⟨⟨_, _, h3, _⟩, _, _⟩ := machOk_five hm
  exact ⟨Int.le_refl _, by show (0 : Int) < m.st; omega, fun z hz => (by cases hz), fun z hz => (by cases hz)⟩
theorem cfg_goodB {m : MachD} (hm : machOk m = true) {T : Nat} (h : ∀ j < T, ¬ lookI m (cfgI m blank0 j) = noR) : ∀ t, t ≤ T → IGood m (cfgI m blank0 t) := by
  intro t
  induction t with
  | zero => intro _; exact blank_goodB hm
  | succ t ih => intro ht; exact (ih (by omega)).step hm (h t (by omega))
end Go.Proofs.YtacpchapgklcgaaGreatDoor
end
section
set_option linter.unusedSimpArgs false
set_option linter.unusedVariables false
namespace Go.Proofs.YtacpchapgklcgaaGreatDoor
open Go Go.RowKit Go.Proofs
theorem avoid_sound {m : MachD} {L R : DfaD} (hm : machOk m = true) (hL : dfaOk L m.sy = true) (hR : dfaOk R m.sy = true) {K : Nat} (hK : (rndA m L R K).length ≤ K) (hr : rulA m L R K = true) {T : Nat} (h : HaltsAt m T) : False := by
  have hgood := cfg_goodB hm h.1
  have key : ∀ t, t ≤ T → ofA m L R (cfgI m blank0 t) ∈ rndA m L R K := by
    intro t
    induction t with
    | zero => intro _; exact rndA_start m L R K
    | succ t ih =>
      intro ht
      obtain ⟨i, hi, e⟩ := List.getElem_of_mem (ih (by omega))
      exact rndA_done (i := i) (by omega) (by rw [List.getElem?_eq_getElem hi, e]) _ (abs_step hm hL hR (hgood t (by omega)) (h.1 t (by omega)))
  have hmem := key T (Nat.le_refl _)
  unfold rulA at hr
  rw [List.take_of_length_le hK, List.all_eq_true] at hr
  have := hr _ hmem
  have e : m.rules.getD ((ofA m L R (cfgI m blank0 T)).2.1 * m.sy + (ofA m L R (cfgI m blank0 T)).2.2.1).toNat noR = lookI m (cfgI m blank0 T) := rfl
  rw [e, h.2] at this
  simp [isR, rEq, noR] at this
end Go.Proofs.YtacpchapgklcgaaGreatDoor
end
section
set_option linter.unusedSimpArgs false
set_option linter.unusedVariables false
set_option linter.unusedSectionVars false
set_option maxHeartbeats 4000000
namespace Go.Proofs.YtacpchapgklcgaaGreatDoor
open Go Go.RowKit Go.Proofs
theorem rndA_pre (m : MachD) (L R : DfaD) (j k : Nat) (h : j ≤ k) : rndA m L R j <+: rndA m L R k := by
  induction k with
  | zero => obtain rfl : j = 0 := by omega
            exact List.prefix_rfl
  | succ k ih =>
    by_cases e : j = k + 1
    · subst e; exact List.prefix_rfl
    · exact (ih (by omega)).trans (rndA_prefix m L R k)
theorem rndA_fix {m : MachD} {L R : DfaD} {k : Nat} (h : (rndA m L R k).length ≤ k) (j : Nat) (hj : k ≤ j) : rndA m L R j = rndA m L R k := by
  induction j with
  | zero => obtain rfl : k = 0 := by omega
            rfl
  | succ j ih =>
    by_cases e : k = j + 1
    · subst e; rfl
    · have e2 := ih (by omega)
      rw [rndA, e2, List.getElem?_eq_none (by omega)]
/-- What is asked of a closure. -/
def CloYes (m : MachD) (L R : DfaD) : Prop := ∃ K, (rndA m L R K).length ≤ K ∧ (rndA m L R K).length ≤ 3000 ∧ rulA m L R K = true
theorem cloYes_iff {m : MachD} {L R : DfaD} {K : Nat} (h1 : (rndA m L R K).length ≤ K) (h2 : (rndA m L R K).length ≤ 3000) : rulA m L R K = true ↔ CloYes m L R := by
  constructor
  · intro h; exact ⟨K, h1, h2, h⟩
  · rintro ⟨K', g1, g2, g3⟩
    have e : rndA m L R K = rndA m L R K' := by
      rcases Nat.le_total K K' with c | c
      · exact (rndA_fix h1 K' c).symm
      · exact rndA_fix g1 K c
    unfold rulA at g3 ⊢
    rw [List.take_of_length_le g1] at g3
    rw [List.take_of_length_le h1, e]
    exact g3
theorem cloYes_no {m : MachD} {L R : DfaD} {K : Nat} (h1 : 3000 < (rndA m L R K).length) : ¬ CloYes m L R := by
  rintro ⟨K', g1, g2, g3⟩
  rcases Nat.le_total K K' with c | c
  · have := (rndA_pre m L R K K' c).length_le
    omega
  · rw [rndA_fix g1 K c] at h1
    omega
def AvYes (m : MachD) (L R : DfaD) : Prop := dfaOk L m.sy = true ∧ dfaOk R m.sy = true ∧ CloYes m L R
theorem AvYes.sound {m : MachD} (hm : machOk m = true) {L R : DfaD} (h : AvYes m L R) (T : Nat) : ¬ HaltsAt m T := by
  obtain ⟨h1, h2, K, k1, _, k3⟩ := h
  intro ht
  exact avoid_sound hm h1 h2 k1 k3 ht
theorem valid_autos_g (v : Value) (m : MachD) (L R : DfaD) (w : World) (h : Autos w v m L R) (hm : machOk m = true) :
    Calls Tryz.prog 28 #[v] w fun e w' => e = .returned (.bool (dfaOk L m.sy && dfaOk R m.sy)) ∧ Ext w w' := by
  obtain ⟨⟨m1, m2, m3, m4⟩, _, _⟩ := machOk_five hm
  obtain ⟨rv, lv, tv, rfl, h1, h2, h3⟩ := h
  obtain ⟨W, hW⟩ : ∃ W, W = w.alloc (.cells #[.int .i64 m.sy, .int .i64 m.st, rv, .int .i64 L.st, lv, .int .i64 R.st, tv] 66) := ⟨_, rfl⟩
  have hX : Ext w W := by rw [hW]; exact Ext.alloc _ _
  have bA : Blk W w.heap.size 66 #[.int .i64 m.sy, .int .i64 m.st, rv, .int .i64 L.st, lv, .int .i64 R.st, tv] := by rw [hW]; exact Blk.new _ _ _ _ rfl
  have c0 := bA.cell 0
  have c1 := bA.cell 1
  have c2 := bA.cell 2
  have c3 := bA.cell 3
  have c4 := bA.cell 4
  have c5 := bA.cell 5
  have c6 := bA.cell 6
  simp only [List.getElem?_toArray, List.getElem?_cons_zero, List.getElem?_cons_succ] at c0 c1 c2 c3 c4 c5 c6
  go_enter Tryz.func28, Tryz.ntmps28
  go_wp2_with fail
  rw [← hW]
  clear hW
  refine (ValidMachine_c _ m W ⟨_, rfl, h1.ext hX⟩).mono ?_
  rintro e w2 ⟨rfl, hx2⟩
  have d0 := hx2.cell c0
  have d3 := hx2.cell c3
  have d4 := hx2.cell c4
  have d5 := hx2.cell c5
  have d6 := hx2.cell c6
  clear c0 c1 c2 c3 c4 c5 c6
  rw [hm]
  go_wp2_with fail
  refine (ValidDfa_g _ L m.sy w2 ⟨_, rfl, (h2.ext hX).ext hx2⟩ (by omega) (by omega)).mono ?_
  rintro e w3 ⟨rfl, hx3⟩
  have c0 := hx3.cell d0
  have c5 := hx3.cell d5
  have c6 := hx3.cell d6
  clear d0 d3 d4 d5 d6
  cases hq : dfaOk L m.sy with
  | false =>
    have HQ := Lib.hid hq
    clear hq
    go_wp2
    go_ret
    exact ⟨by rw [HQ.out]; rfl, ((hX.trans hx2).trans hx3)⟩
  | true =>
    have HQ := Lib.hid hq
    clear hq
    go_wp2_with fail
    refine (ValidDfa_g _ R m.sy w3 ⟨_, rfl, ((h3.ext hX).ext hx2).ext hx3⟩ (by omega) (by omega)).mono ?_
    rintro e w4 ⟨rfl, hx4⟩
    cases hq : dfaOk R m.sy with
    | false =>
      have HQ2 := Lib.hid hq
      clear hq
      go_wp2
      go_ret
      exact ⟨by rw [HQ.out, HQ2.out]; rfl, ((hX.trans hx2).trans hx3).trans hx4⟩
    | true =>
      have HQ2 := Lib.hid hq
      clear hq
      go_wp2
      go_ret
      exact ⟨by rw [HQ.out, HQ2.out]; rfl, ((hX.trans hx2).trans hx3).trans hx4⟩
def AvRes (P : Prop) (w : World) (e : Ending) (w' : World) : Prop := ∃ r : Bool, e = .returned (.bool r) ∧ (r = true ↔ P) ∧ Ext w w'
theorem avoids_c (v : Value) (m : MachD) (L R : DfaD) (w : World) (hA : Autos w v m L R) (hm : machOk m = true) (hL : dfaOk L m.sy = true) (hR : dfaOk R m.sy = true) :
    Calls Tryz.prog 29 #[v] w (AvRes (CloYes m L R) w) := by
  have hA0 := hA
  obtain ⟨rv, uv, tv, rfl, h1, h2, h3⟩ := hA
  obtain ⟨W, hW⟩ : ∃ W, W = w.alloc (.cells #[.int .i64 m.sy, .int .i64 m.st, rv, .int .i64 L.st, uv, .int .i64 R.st, tv] 66) := ⟨_, rfl⟩
  have hX : Ext w W := by rw [hW]; exact Ext.alloc _ _
  have bA : Blk W w.heap.size 66 #[.int .i64 m.sy, .int .i64 m.st, rv, .int .i64 L.st, uv, .int .i64 R.st, tv] := by rw [hW]; exact Blk.new _ _ _ _ rfl
  have c0 := bA.cell 0
  have c1 := bA.cell 1
  have c2 := bA.cell 2
  have c3 := bA.cell 3
  have c4 := bA.cell 4
  have c5 := bA.cell 5
  have c6 := bA.cell 6
  simp only [List.getElem?_toArray, List.getElem?_cons_zero, List.getElem?_cons_succ] at c0 c1 c2 c3 c4 c5 c6
  go_enter Tryz.func29, Tryz.ntmps29
  go_wp2_with fail
  rw [← hW]
  clear hW
  refine (closure_c _ m L R W (hA0.ext hX) hm hL hR).mono ?_
  rintro e w2 ⟨hx2, ⟨K, lv, k1, k2, ho, rfl⟩ | ⟨K, hk, rfl⟩⟩
  · have HI := Lib.hid (cloYes_iff k1 k2)
    generalize rulA m L R K = q at *
    cases q
    · go_wp2
      go_ret
      exact ⟨false, rfl, by simpa using HI.out, hX.trans hx2⟩
    · go_wp2
      go_ret
      exact ⟨true, rfl, by simpa using HI.out, hX.trans hx2⟩
  · have HI := Lib.hid (cloYes_no hk)
    go_wp2
    go_ret
    exact ⟨false, rfl, ⟨fun h => (by cases h), fun h => absurd h HI.out⟩, hX.trans hx2⟩
theorem AvoidsHalting_c (m : MachD) (L R : DfaD) (mv uv tv : Value) (w : World) (hr : Rules w mv m.rules) (hu : Ints w uv L.nx) (ht : Ints w tv R.nx) (hm : machOk m = true) :
    Calls Tryz.prog 10 #[.agg #[.int .i64 m.sy, .int .i64 m.st, mv], .agg #[.int .i64 L.st, uv], .agg #[.int .i64 R.st, tv]] w (AvRes (AvYes m L R) w) := by
  obtain ⟨Am, cm, rfl, _, _⟩ := hr.form
  obtain ⟨Au, cu, rfl, _, _⟩ := hu.form
  obtain ⟨At, ct, rfl, _, _⟩ := ht.form
  obtain ⟨W, hW⟩ : ∃ W, W = (((w.alloc (.cells #[.int .i64 m.sy, .int .i64 m.st, .slice Am m.rules.length cm] 26)).alloc (.cells #[.int .i64 L.st, .slice Au L.nx.length cu] 40)).alloc (.cells #[.int .i64 R.st, .slice At R.nx.length ct] 40)).alloc (.cells #[.int .i64 m.sy, .int .i64 m.st, .slice Am m.rules.length cm, .int .i64 L.st, .slice Au L.nx.length cu, .int .i64 R.st, .slice At R.nx.length ct] 66) := ⟨_, rfl⟩
  have hX : Ext w W := by rw [hW]; exact ((((Ext.alloc _ _).trans (Ext.alloc _ _)).trans (Ext.alloc _ _)).trans (Ext.alloc _ _))
  have bA : Blk W (w.heap.size + 1 + 1 + 1) 66 #[.int .i64 m.sy, .int .i64 m.st, .slice Am m.rules.length cm, .int .i64 L.st, .slice Au L.nx.length cu, .int .i64 R.st, .slice At R.nx.length ct] := by rw [hW]; exact Blk.new _ _ _ _ (by simp)
  have hAu : Autos W (.agg #[.int .i64 m.sy, .int .i64 m.st, .slice Am m.rules.length cm, .int .i64 L.st, .slice Au L.nx.length cu, .int .i64 R.st, .slice At R.nx.length ct]) m L R := ⟨_, _, _, rfl, hr.ext hX, hu.ext hX, ht.ext hX⟩
  have a0 := bA.cell 0
  have a1 := bA.cell 1
  have a2 := bA.cell 2
  have a3 := bA.cell 3
  have a4 := bA.cell 4
  have a5 := bA.cell 5
  have a6 := bA.cell 6
  simp only [List.getElem?_toArray, List.getElem?_cons_zero, List.getElem?_cons_succ] at a0 a1 a2 a3 a4 a5 a6
  have hval := valid_autos_g _ m L R W hAu hm
  rw [hW] at a0 a1 a2 a3 a4 a5 a6
  have HW := Lib.hid hW
  clear hW
  go_enter Tryz.func10, Tryz.ntmps10
  go_wp2_with fail
  rw [← HW.out]
  rw [← HW.out] at a0 a1 a2 a3 a4 a5 a6
  refine hval.mono ?_
  rintro e w2 ⟨rfl, hx2⟩
  have b0 := hx2.cell a0
  have b1 := hx2.cell a1
  have b2 := hx2.cell a2
  have b3 := hx2.cell a3
  have b4 := hx2.cell a4
  have b5 := hx2.cell a5
  have b6 := hx2.cell a6
  clear a0 a1 a2 a3 a4 a5 a6 HW
  cases hL : dfaOk L m.sy with
  | false =>
    have HI : Hid ((false = true) ↔ AvYes m L R) := Lib.hid ⟨fun h => (by cases h), fun h => by rw [h.1] at hL; cases hL⟩
    clear hL
    go_wp2
    go_ret
    exact ⟨false, rfl, by simpa using HI.out, hX.trans hx2⟩
  | true =>
    cases hR : dfaOk R m.sy with
    | false =>
      have HI : Hid ((false = true) ↔ AvYes m L R) := Lib.hid ⟨fun h => (by cases h), fun h => by rw [h.2.1] at hR; cases hR⟩
      clear hR hL
      go_wp2
      go_ret
      exact ⟨false, rfl, by simpa using HI.out, hX.trans hx2⟩
    | true =>
      have HL := Lib.hid hL
      have HR := Lib.hid hR
      have HC := Lib.hid (avoids_c _ m L R w2 (hAu.ext hx2) hm hL hR)
      clear hL hR
      go_wp2_with fail
      refine HC.out.mono ?_
      rintro e w3 ⟨r, rfl, hrr, hx3⟩
      have HI : Hid ((r = true) ↔ AvYes m L R) := Lib.hid ⟨fun h => ⟨HL.out, HR.out, hrr.1 h⟩, fun h => hrr.2 h.2.2⟩
      clear hrr
      cases r
      · go_wp2
        go_ret
        exact ⟨false, rfl, by simpa using HI.out, (hX.trans hx2).trans hx3⟩
      · go_wp2
        go_ret
        exact ⟨true, rfl, by simpa using HI.out, (hX.trans hx2).trans hx3⟩
end Go.Proofs.YtacpchapgklcgaaGreatDoor
end
