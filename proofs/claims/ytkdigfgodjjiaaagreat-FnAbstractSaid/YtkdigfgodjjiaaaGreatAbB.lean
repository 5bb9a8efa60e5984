/- Contracts on automata, continued: the state behind a word of a valid automaton. -/
import Derived.Test.YtkdigfgodjjiaaaGreatAbA
set_option linter.unusedSimpArgs false
set_option linter.unusedVariables false
set_option linter.unusedSectionVars false
set_option maxHeartbeats 4000000
namespace Go.Proofs.YtkdigfgodjjiaaaGreat
open Go Go.RowKit Go.Proofs
theorem RunDfa_c (v u : Value) (d : DfaD) (zs : List Int) (sy : Int) (w : World) (h : Dfas w v d) (hz : Ints w u zs) (hd : dfaOk d sy = true) (hl : zs.length ≤ 400) (hw : ∀ z ∈ zs, 0 ≤ z ∧ z < sy) :
    Calls Tryz.prog 15 #[v, .int .i64 sy, u] w fun e w' => e = .returned (.tuple #[.int .i64 (runD d sy zs), .int .i64 0]) ∧ Ext w w' := by
  obtain ⟨rv, rfl, hr⟩ := h
  obtain ⟨A, c, rfl, g1, g2⟩ := hz.form
  obtain ⟨⟨h1, h1'⟩, _⟩ := dfaOk_parts hd
  obtain ⟨w1, bk, e1, e2, hx, p0, p1, bB, hsz⟩ := box2 w (.int .i64 d.st) rv 30
  have E1 := Lib.hid e1
  have E2 := Lib.hid e2
  clear e1 e2
  have hB3 : (zs.all fun z => inB z 0 (sy - 1)) = true := by
    rw [List.all_eq_true]
    intro z hz
    have := hw z hz
    exact inB_iff.2 (by omega)
  have HW := Lib.hid hw
  clear hw
  go_enter Tryz.func15, Tryz.ntmps15
  go_wp2_with fail
  rw [E1.out, E2.out]
  refine (ValidDfa_c _ d sy w1 ⟨_, rfl, hr.ext hx⟩ hd).mono ?_
  rintro e w2 ⟨rfl, hx2⟩
  have hX := hx.trans hx2
  have q0 := hx2.cell p0
  have q1 := hx2.cell p1
  clear p0 p1
  go_wp2_with fail
  refine (allWithin_c _ zs 0 (sy - 1) w2 (hz.ext hX)).mono ?_
  rintro e w3 ⟨rfl, rfl⟩
  rw [hB3]
  go_wp2_with fail
  refine (run_word_c _ _ d zs sy _ ⟨_, rfl, hr.ext hX⟩ (hz.ext hX) hd HW.out).mono ?_
  rintro e w4 ⟨rfl, hx4⟩
  go_wp2
  refine bodyPost_ret (v := .tuple #[.int .i64 (runD d sy zs), .int .i64 0]) (by simp [results, Tryz.results15, go_sem]) rfl ⟨rfl, hX.trans hx4⟩
end Go.Proofs.YtkdigfgodjjiaaaGreat
