/- Contracts of the program's search of a shift, and of the law's run of so many steps. -/
import Derived.Test.YtpdnmhhieokogaaShI
import Derived.Test.YtpdnmhhieokogaaShH
set_option linter.unusedSimpArgs false
set_option linter.unusedVariables false
namespace Go.Proofs.Ytpdnmhhieokogaa
open Go Go.RowKit Go.Proofs
set_option maxHeartbeats 400000
def FShRes (w : World) (m : MachD) (N : Nat) (e : Ending) (w' : World) : Prop :=
  Ext w w' ∧ ((∃ code : Int, (code = 3 ∨ code = 5 ∨ code = 6) ∧ e = .returned (.tuple #[.agg #[.int .i64 0, .slice none 0 0, .slice none 0 0], .int .i64 code])) ∨
    ∃ (a b : Nat) (d : Int) (nv : Value), Shift m a b d ∧ 1 ≤ a ∧ a + b ≤ N ∧ Ints w' nv [(a : Int), (b : Int), d] ∧ e = .returned (.tuple #[.agg #[.int .i64 3, nv, .slice none 0 0], .int .i64 0]))
set_option maxRecDepth 20000 in
set_option maxHeartbeats 4000000 in
theorem FindShift_c (w : World) (m : MachD) (mv : Value) (N : Nat) (hr : Rules w mv m.rules) (hm : machOk m = true) (h1 : 1 ≤ N) (hN : N ≤ 4000) :
    Calls Try.prog 6 #[.agg #[.int .i64 m.sy, .int .i64 m.st, mv], .int .i64 N] w (FShRes w m N) := by
  obtain ⟨Am, cm, rfl, _, _⟩ := id hr.form
  obtain ⟨W, hW⟩ : ∃ W, W = (w.alloc (.cells #[.int .i64 m.sy, .int .i64 m.st, .slice Am m.rules.length cm] 26)).alloc (.cells #[.int .i64 0, .slice none 0 0, .slice none 0 0] 31) := ⟨_, rfl⟩
  have hX : Ext w W := by rw [hW]; exact (Ext.alloc _ _).trans (Ext.alloc _ _)
  have bM : Blk W w.heap.size 26 #[.int .i64 m.sy, .int .i64 m.st, .slice Am m.rules.length cm] := by rw [hW]; exact (Blk.new _ _ _ _ rfl).alloc _
  obtain ⟨g, hg⟩ : ∃ g, g = w.heap.size + 1 := ⟨_, rfl⟩
  have bR : Blk W g 31 #[.int .i64 0, .slice none 0 0, .slice none 0 0] := by rw [hW, hg]; exact Blk.new _ _ _ _ (by simp)
  have HG : Hid (w.heap.size ≤ g) := Lib.hid (by omega)
  have HM := Lib.hid hm
  have HR := Lib.hid (hr.ext hX)
  have HX := Lib.hid hX
  clear hm hr hX
  go_enter Try.func6, Try.ntmps6
  go_wp2_with fail
  rw [← hW, ← hg]
  clear hW hg
  refine (budgeted_c _ m N W ⟨_, rfl, HR.out⟩).mono ?_
  rintro e w1 ⟨rfl, hx1⟩
  have hbc : budC m N = 0 := by
    unfold budC
    rw [HM.out]
    have : inB (N : Int) 1 20000 = true := by simp [inB]; omega
    rw [this]
    rfl
  rw [hbc]
  have m0 := (bM.ext hx1).cell 0
  have m1 := (bM.ext hx1).cell 1
  have m2 := (bM.ext hx1).cell 2
  simp only [List.getElem?_toArray, List.getElem?_cons_zero, List.getElem?_cons_succ] at m0 m1 m2
  clear hbc
  go_wp2_with fail
  refine (tracked_c w1 m _ N (HR.out.ext hx1) HM.out (by omega)).mono ?_
  rintro e w2 ⟨x, i, rs, lo, hi, pv, qv, hT, hRS, hx2, hrl, hcase⟩
  have bR2 := (bR.ext hx1).ext hx2
  have HX2 := Lib.hid ((HX.out.trans hx1).trans hx2)
  clear m0 m1 m2 bM bR
  obtain ⟨hruns, hiN, hl, code, he, hcode⟩ : RunsTo m blankC i ∧ i ≤ N ∧ ∃ (hl : Bool) (code : Int), e = .returned (.tuple #[.pointer (some ⟨x, 0, none⟩), .bool hl, .int .i64 code]) ∧ (code = 0 ∨ code = 5) := by
    rcases hcase with ⟨hE, rfl⟩ | ⟨hF, rfl⟩
    · exact ⟨hE.runs, hE.le, _, 0, rfl, .inl rfl⟩
    · exact ⟨by simpa using hF.runs, by have := hF.le; omega, false, 5, rfl, .inr rfl⟩
  subst he
  have HRUN := Lib.hid hruns
  have HT := Lib.hid hT
  have HRS := Lib.hid hRS
  clear hcase hruns hRS
  cases hl with
  | true =>
    have r0 := bR2.cell
    have f0 := bR2.frozen
    have HB := Lib.hid bR2
    clear bR2 hT
    go_wp2
    exact bodyPost_ret (v := .tuple #[.agg #[.int .i64 0, .slice none 0 0, .slice none 0 0], .int .i64 3]) (by
      have e0 := (((HB.out.set_ 0 (.int .i64 0)).set_ 1 (.slice none 0 0)).set_ 2 (.slice none 0 0)).cell
      simp [results, Try.results6, go_sem, e0]) rfl ⟨((HX2.out.setCell HG.out _).setCell HG.out _).setCell HG.out _, .inl ⟨3, .inl rfl, rfl⟩⟩
  | false =>
    obtain ⟨Aq, cq, rfl, hcq, _, _⟩ := (ownsRow_row hT.rec_).form
    have x1 := hT.blk.cell 1
    simp only [List.getElem?_toArray, List.getElem?_cons_zero, List.getElem?_cons_succ] at x1
    clear hT
    go_wp2
    go_loopw [35] (fun iv wr => ∃ k : Nat, k ≤ rs.length ∧ iv = .int .i64 (k : Int) ∧ Ext w2 wr) (fun iv _ => rs.length - (intOf iv).toNat)
    case atStart => exact ⟨0, Nat.zero_le _, rfl, Ext.refl _⟩
    case round =>
      clear x1
      obtain ⟨k, hk, rfl, hx⟩ := hrel
      by_cases hlt : k < rs.length
      · have hd : decide ((k : Int) < (rs.length : Int)) = true := by simp [hlt]
        go_wp2_with fail
        refine (shiftTo_c w1 wr x (i + 1) k m rs lo hi pv _ (HT.out.ext hx) HRS.out HM.out (by omega) (by simpa using HRUN.out) hlt (by omega)).mono ?_
        rintro e w4 ⟨hx4, rfl | ⟨a, b, d, nv, hsh, hnv, rfl⟩⟩
        · go_wp2
          go_roundw
          case rel => exact ⟨k + 1, by omega, by go_num, (hx.trans hx4).trans (Ext.alloc _ _)⟩
          case measure => simp [intOf]; omega
        · obtain ⟨h1', h2', h3'⟩ := HRS.out.shift (by simpa using HRUN.out) hsh
          have HSH := Lib.hid h1'
          obtain ⟨An, cn, rfl, _, _⟩ := hnv.ints.form
          have bR4 := (bR2.ext hx).ext hx4
          have hg4 := bR4.lt
          have r0 := bR4.cell
          have f0 := bR4.frozen
          have hxx := (hx.trans hx4)
          obtain ⟨S, hS⟩ : ∃ S, S = ((w4.setCell ⟨g, 0, none⟩ (.int .i64 3)).setCell ⟨g, 1, none⟩ (.slice An 3 cn)).setCell ⟨g, 2, none⟩ (.slice none 0 0) := ⟨_, rfl⟩
          have bS : Blk S g 31 #[.int .i64 3, .slice An 3 cn, .slice none 0 0] := by rw [hS]; exact ((bR4.set_ 0 _).set_ 1 _).set_ 2 _
          have hES : Ext w S := by rw [hS]; exact (((HX2.out.trans hxx).setCell HG.out _).setCell HG.out _).setCell HG.out _
          have hES4 : Ints S (.slice An 3 cn) [(a : Int), (b : Int), d] := by
            have hfar := own_far_blk hnv bR4 (by decide)
            rw [hS]
            exact OwnInts.ints (ownsRow_far (ownsRow_far (ownsRow_far hnv hfar _) hfar _) hfar _)
          have HES := Lib.hid (hES.trans (Ext.alloc S (.cells #[.int .i64 3, .slice An 3 cn, .slice none 0 0] 31)))
          have HN := Lib.hid (hES4.ext (Ext.alloc S (.cells #[.int .i64 3, .slice An 3 cn, .slice none 0 0] 31)))
          have HEE := Lib.hid ((bS.alloc (.cells #[.int .i64 3, .slice An 3 cn, .slice none 0 0] 31)).cell)
          have HSS := Lib.hid hS
          simp only [List.length_cons, List.length_nil, Nat.zero_add, Nat.reduceAdd]
          clear hES hES4 bR4 bS hS hnv
          go_wp2
          rw [← HSS.out]
          exact bodyPost_ret (v := .tuple #[.agg #[.int .i64 3, .slice An 3 cn, .slice none 0 0], .int .i64 0]) (by
            have e0 := HEE.out
            simp [results, Try.results6, go_sem, e0]) rfl ⟨HES.out, .inr ⟨a, b, d, _, HSH.out, h2', by omega, HN.out, rfl⟩⟩
      · have hke : k = rs.length := by omega
        subst hke
        have hd : decide ((rs.length : Int) < (rs.length : Int)) = false := by simp
        have bR4 := bR2.ext hx
        have HB := Lib.hid bR4
        have r0 := bR4.cell
        have f0 := bR4.frozen
        have HXX := Lib.hid (HX2.out.trans hx)
        clear bR4
        rcases hcode with rfl | rfl
        · go_wp2
          exact bodyPost_ret (v := .tuple #[.agg #[.int .i64 0, .slice none 0 0, .slice none 0 0], .int .i64 6]) (by
            have e0 := (((HB.out.set_ 0 (.int .i64 0)).set_ 1 (.slice none 0 0)).set_ 2 (.slice none 0 0)).cell
            simp [results, Try.results6, go_sem, e0]) rfl ⟨((HXX.out.setCell HG.out _).setCell HG.out _).setCell HG.out _, .inl ⟨6, .inr (.inr rfl), rfl⟩⟩
        · go_wp2
          exact bodyPost_ret (v := .tuple #[.agg #[.int .i64 0, .slice none 0 0, .slice none 0 0], .int .i64 5]) (by
            have e0 := (((HB.out.set_ 0 (.int .i64 0)).set_ 1 (.slice none 0 0)).set_ 2 (.slice none 0 0)).cell
            simp [results, Try.results6, go_sem, e0]) rfl ⟨((HXX.out.setCell HG.out _).setCell HG.out _).setCell HG.out _, .inl ⟨5, .inr (.inl rfl), rfl⟩⟩
end Go.Proofs.Ytpdnmhhieokogaa
