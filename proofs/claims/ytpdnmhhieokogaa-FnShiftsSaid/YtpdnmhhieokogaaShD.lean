/- Contract of the program's tracker where it sees a configuration. -/
import Derived.Test.YtpdnmhhieokogaaShC
import Derived.Deep.RegionLaw
import Derived.Deep.AppendLies
import Derived.Maps.AppendAt
set_option linter.unusedSimpArgs false
set_option linter.unusedVariables false
namespace Go.Proofs.Ytpdnmhhieokogaa
open Go Go.RowKit Go.Proofs
set_option maxHeartbeats 400000
/-- What the tracker holds behind a configuration with the head at z. -/
def SeenQ (c : ConfD) (z : Int) (n : Nat) (rs rs' : List RecV) (lo hi lo' hi' : Int) : Prop :=
  (hi < z ∧ (∃ lv rv, rs' = rs ++ [⟨n, 1, c, lv, rv⟩]) ∧ lo' = lo ∧ hi' = z) ∨ (¬ hi < z ∧ z < lo ∧ (∃ lv rv, rs' = rs ++ [⟨n, -1, c, lv, rv⟩]) ∧ lo' = z ∧ hi' = hi) ∨ (¬ hi < z ∧ ¬ z < lo ∧ rs' = rs ∧ lo' = lo ∧ hi' = hi)
def SawRes (w0 : World) (b x : Nat) (m : MachD) (c : ConfD) (mv lv rv : Value) (P : List Int) (rs : List RecV) (lo hi z : Int) (e : Ending) (w' : World) : Prop :=
  e = .returned (.tuple #[]) ∧ ∃ rs' lo' hi' pv' qv', RunAt w0 w' b m c mv lv rv ∧ TrkAt w0 w' x lv rv (P ++ [z]) rs' lo' hi' pv' qv' ∧ SeenQ c z P.length rs rs' lo hi lo' hi'
set_option maxRecDepth 20000 in
set_option maxHeartbeats 4000000 in
theorem quickConfig_c (w0 W : World) (b x : Nat) (m : MachD) (c : ConfD) (mv lv rv pv qv : Value) (P : List Int) (rs : List RecV) (lo hi z : Int) (hR : RunAt w0 W b m c mv lv rv) (hT : TrkAt w0 W x lv rv P rs lo hi pv qv)
    (hl : c.l.length ≤ 1000) (hn : c.r.length ≤ 1000) (hP : P.length ≤ 100000) (hrs : rs.length ≤ 100000) :
    Calls Try.prog 101 #[.pointer (some ⟨x, 0, none⟩), .pointer (some ⟨b, 0, none⟩), .int .i64 z] W (SawRes w0 b x m c mv lv rv P rs lo hi z) := by
  obtain ⟨i0, hi0, hz0, hz1, hz2⟩ := info_parts recInfo
  obtain ⟨j0, hj0, hy0, hy1, hy2⟩ := info_parts intInfo
  have hsz := hR.ext0.size
  obtain ⟨Ap, cp, rfl, _, _⟩ := hT.pos.ints.form
  obtain ⟨Aq, cq, rfl, _, _, _⟩ := (ownsRow_row hT.rec_).form
  have c2 := hT.blk.cell 2
  have c3 := hT.blk.cell 3
  have f3 := hT.blk.frozen 3
  have f2 := hT.blk.frozen 2
  simp only [List.getElem?_toArray, List.getElem?_cons_zero, List.getElem?_cons_succ] at c2 c3
  by_cases h1 : hi < z
  · have e1 : decide (hi < z) = true := by simp [h1]
    have H1 := Lib.hid h1
    clear h1
    obtain ⟨hT1, hR1⟩ := TrkAt.set hT hR 3 (.int .i64 z) lo z rfl
    obtain ⟨W1, hW1⟩ : ∃ W1, W1 = W.setCell ⟨x, 3, none⟩ (.int .i64 z) := ⟨_, rfl⟩
    rw [← hW1] at hT1 hR1
    go_enter Try.func101, Try.ntmps101
    go_wp2_with fail
    rw [← hW1]
    clear hW1 c2 c3 f2 f3
    have hRd := hR1.ext (Ext.drew _)
    have hTd := hT1.ext (Ext.drew _)
    have hcfg := config_c w0 W1.drew b m c mv lv rv hRd hl hn
    have hsize := sizeInt_c _ P W1.drew hTd.pos.ints
    have c0 := hT1.blk.cell 0
    have c1 := hT1.blk.cell 1
    simp only [List.getElem?_toArray, List.getElem?_cons_zero, List.getElem?_cons_succ] at c0 c1
    have hs1 : w0.heap.size ≤ W1.heap.size := hR1.ext0.size
    go_region_law (first
      | (go_simp; go_at_call 85; ((with_reducible refine hsize.mono ?_)); rintro e w' ⟨rfl, rfl⟩)
      | (go_simp; go_at_call 20; ((with_reducible refine hcfg.mono ?_)); rintro e w4 ⟨l4, r4, rfl, ol, orr, hap, hx4⟩; obtain ⟨Al, kl, rfl, _, _⟩ := ol.ints.form; obtain ⟨Ar, kr, rfl, _, _⟩ := orr.ints.form; have hT4 := hTd.ext hx4; have hR4 := hRd.ext hx4; have d0 := hT4.blk.cell 0; have d1 := hT4.blk.cell 1; simp only [List.getElem?_toArray, List.getElem?_cons_zero, List.getElem?_cons_succ] at d0 d1; have hsize4 := sizeInt_c _ P w4 hT4.pos.ints; have eA := Ext.alloc w4 (.cells #[.int .i64 P.length, .int .i64 1, .int .i64 c.q, .slice Al c.l.length kl, .slice Ar c.r.length kr] 76); have hs4 : W1.heap.size ≤ w4.heap.size := hx4.size; have hT5 := hT4.ext eA; have hR5 := hR4.ext eA; have g1 := hT5.blk.cell 1; simp only [List.getElem?_toArray, List.getElem?_cons_zero, List.getElem?_cons_succ] at g1)
      | (refine step_append_lies _ (by rfl) _ _ _ (by rfl) w0.heap.size 76 i0 _ 5 72 Try.underlying49 hi0 hz0 hz1 hz2 rfl (by omega) _ _ (rs.flatMap encC) (by first | rfl | simp [Act.eval, Act.put]) hT5.rec_ ⟨w4.heap.size, 0, none⟩ 1 1 [.int .i64 P.length, .int .i64 1, .int .i64 c.q, .slice Al c.l.length kl, .slice Ar c.r.length kr] (by first | rfl | simp [Act.eval, Act.put]) rfl (World.news_of_block (heap_alloc_new w4 _)) (by simp [Value.oneCell']) (by omega) (by unfold maxLen; omega) (by omega) (by simp; omega) (w4.heap.size + 1) (by simp) ?_; intro g7 cap w7 hown7 hg7 hat7 hlt7; have B7 := Blk.apart hT5.blk hT5.rec_ (by decide) hg7; have z1 := B7.cell 1; have v1 := B7.frozen 1; simp only [List.getElem?_toArray, List.getElem?_cons_zero, List.getElem?_cons_succ] at z1))
    all_goals
      have hbl : OwnInts W1.heap.size w4 (.slice Al c.l.length kl) c.l := ol
      have hbr : OwnInts W1.heap.size w4 (.slice Ar c.r.length kr) c.r := orr
      obtain ⟨hT6, hR6⟩ := TrkAt.reced (v := .slice (some ⟨g7, 0, none⟩) (rs.length + 1) cap) hT5 hR5 ⟨P.length, 1, c, .slice Al c.l.length kl, .slice Ar c.r.length kr⟩ hown7 hg7 (ownsRow_ext (ownsRow_base hbl hs1) eA) (ownsRow_ext (ownsRow_base hbr hs1) eA) (fun g hg => by
        have hge : W1.heap.size ≤ g := by
          rcases hg with hg | hg
          · exact (hbl.lt g hg).1
          · exact (hbr.lt g hg).1
        refine ⟨fun e => ?_, fun e => ?_, fun e => ?_⟩
        · have := (hR1.l.lt g e).2; omega
        · have := (hR1.r.lt g e).2; omega
        · have := (hT1.pos.lt g e).2; omega)
      obtain ⟨W8, hW8⟩ : ∃ W8, W8 = w7.setCell ⟨x, 1, none⟩ (.slice (some ⟨g7, 0, none⟩) (rs.length + 1) cap) := ⟨_, rfl⟩
      rw [← hW8] at hT6 hR6
      have HS : Hid (SeenQ c z P.length rs (rs ++ [⟨P.length, 1, c, .slice Al c.l.length kl, .slice Ar c.r.length kr⟩]) lo hi lo z) := Lib.hid (.inl ⟨H1.out, ⟨_, _, rfl⟩, rfl, rfl⟩)
      generalize rs ++ [(⟨P.length, 1, c, .slice Al c.l.length kl, .slice Ar c.r.length kr⟩ : RecV)] = rs' at *
      clear hT hR hT1 hR1 hRd hTd hcfg hsize c0 c1 g1 hT4 hR4 d0 d1 hsize4 hT5 hR5 B7 z1 v1 ol orr hbl hbr hap
      have p0 := (hT6.blk.alloc (.cells #[.int .i64 z] 2)).cell 0
      have p0' := hT6.blk.cell 0
      simp only [List.getElem?_toArray, List.getElem?_cons_zero, List.getElem?_cons_succ] at p0 p0'
      have ho9 := hT6.pos.alloc (.cells #[.int .i64 z] 2)
      have hs8 : w0.heap.size ≤ W8.heap.size := hR6.ext0.size
      try rw [← hW8]
      try clear hW8
      have eZ := Ext.alloc W8 (.cells #[.int .i64 z] 2)
      have hT9 := hT6.ext eZ
      have hR9 := hR6.ext eZ
      go_wp2_with (at_builtin; refine wpList_append_own_at _ rfl _ _ 28 rfl w0.heap.size 2 j0 (.int .i64 0) 1 8 Try.underlying28 hj0 hy0 hy1 hy2 rfl (by decide) _ _ _ rfl ho9 ⟨W8.heap.size, 0, none⟩ 1 1 [.int .i64 z] rfl rfl (cell_one_new _ _ _) ?c2 ?c3 ?c4 ?c5 ?_)
      case c2 => first | (intro u hu; simp at hu; subst hu; rfl) | rfl | simp [Value.oneCell']
      case c3 => unfold maxLen; omega
      case c4 => omega
      case c5 => first | (simp; omega) | omega
      intro v' wA hownA hgA _ hloc
      obtain ⟨Az, cz, rfl, _, _, _⟩ := (ownsRow_row hownA).form
      have BA := Blk.apart hT9.blk ho9 (by decide) hgA
      have p1 := BA.cell 0
      have q1 := BA.frozen 0
      simp only [List.getElem?_toArray, List.getElem?_cons_zero, List.getElem?_cons_succ] at p1
      obtain ⟨hTz, hRz⟩ := TrkAt.posed hT9 hR9 z hownA hgA (fun g hg => by
        rcases hloc with e | e
        · exact .inl (e.symm.trans hg)
        · rw [e] at hg
          injection hg with hg
          exact .inr (by simp; omega))
      have HT := Lib.hid hTz
      have HR := Lib.hid hRz
      clear hTz hRz hT9 hR9 hT6 hR6 ho9 BA p0 p0' hownA hgA
      go_wp2
      go_end0
      exact ⟨rfl, _, _, _, _, _, HR.out, HT.out, HS.out⟩

  · have e1 : decide (hi < z) = false := by simp [h1]
    have H1 := Lib.hid h1
    clear h1
    by_cases h2 : z < lo
    · have e2 : decide (z < lo) = true := by simp [h2]
      have H2 := Lib.hid h2
      clear h2
      obtain ⟨hT1, hR1⟩ := TrkAt.set hT hR 2 (.int .i64 z) z hi rfl
      obtain ⟨W1, hW1⟩ : ∃ W1, W1 = W.setCell ⟨x, 2, none⟩ (.int .i64 z) := ⟨_, rfl⟩
      rw [← hW1] at hT1 hR1
      go_enter Try.func101, Try.ntmps101
      go_wp2_with fail
      rw [← hW1]
      clear hW1 c2 c3 f2 f3
      have hRd := hR1.ext (Ext.drew _)
      have hTd := hT1.ext (Ext.drew _)
      have hcfg := config_c w0 W1.drew b m c mv lv rv hRd hl hn
      have hsize := sizeInt_c _ P W1.drew hTd.pos.ints
      have c0 := hT1.blk.cell 0
      have c1 := hT1.blk.cell 1
      simp only [List.getElem?_toArray, List.getElem?_cons_zero, List.getElem?_cons_succ] at c0 c1
      have hs1 : w0.heap.size ≤ W1.heap.size := hR1.ext0.size
      go_region_law (first
        | (go_simp; go_at_call 85; ((with_reducible refine hsize.mono ?_)); rintro e w' ⟨rfl, rfl⟩)
        | (go_simp; go_at_call 20; ((with_reducible refine hcfg.mono ?_)); rintro e w4 ⟨l4, r4, rfl, ol, orr, hap, hx4⟩; obtain ⟨Al, kl, rfl, _, _⟩ := ol.ints.form; obtain ⟨Ar, kr, rfl, _, _⟩ := orr.ints.form; have hT4 := hTd.ext hx4; have hR4 := hRd.ext hx4; have d0 := hT4.blk.cell 0; have d1 := hT4.blk.cell 1; simp only [List.getElem?_toArray, List.getElem?_cons_zero, List.getElem?_cons_succ] at d0 d1; have hsize4 := sizeInt_c _ P w4 hT4.pos.ints; have eA := Ext.alloc w4 (.cells #[.int .i64 P.length, .int .i64 (-1), .int .i64 c.q, .slice Al c.l.length kl, .slice Ar c.r.length kr] 76); have hs4 : W1.heap.size ≤ w4.heap.size := hx4.size; have hT5 := hT4.ext eA; have hR5 := hR4.ext eA; have g1 := hT5.blk.cell 1; simp only [List.getElem?_toArray, List.getElem?_cons_zero, List.getElem?_cons_succ] at g1)
        | (refine step_append_lies _ (by rfl) _ _ _ (by rfl) w0.heap.size 76 i0 _ 5 72 Try.underlying49 hi0 hz0 hz1 hz2 rfl (by omega) _ _ (rs.flatMap encC) (by first | rfl | simp [Act.eval, Act.put]) hT5.rec_ ⟨w4.heap.size, 0, none⟩ 1 1 [.int .i64 P.length, .int .i64 (-1), .int .i64 c.q, .slice Al c.l.length kl, .slice Ar c.r.length kr] (by first | rfl | simp [Act.eval, Act.put]) rfl (World.news_of_block (heap_alloc_new w4 _)) (by simp [Value.oneCell']) (by omega) (by unfold maxLen; omega) (by omega) (by simp; omega) (w4.heap.size + 1) (by simp) ?_; intro g7 cap w7 hown7 hg7 hat7 hlt7; have B7 := Blk.apart hT5.blk hT5.rec_ (by decide) hg7; have z1 := B7.cell 1; have v1 := B7.frozen 1; simp only [List.getElem?_toArray, List.getElem?_cons_zero, List.getElem?_cons_succ] at z1))
      all_goals
        have hbl : OwnInts W1.heap.size w4 (.slice Al c.l.length kl) c.l := ol
        have hbr : OwnInts W1.heap.size w4 (.slice Ar c.r.length kr) c.r := orr
        obtain ⟨hT6, hR6⟩ := TrkAt.reced (v := .slice (some ⟨g7, 0, none⟩) (rs.length + 1) cap) hT5 hR5 ⟨P.length, (-1), c, .slice Al c.l.length kl, .slice Ar c.r.length kr⟩ hown7 hg7 (ownsRow_ext (ownsRow_base hbl hs1) eA) (ownsRow_ext (ownsRow_base hbr hs1) eA) (fun g hg => by
          have hge : W1.heap.size ≤ g := by
            rcases hg with hg | hg
            · exact (hbl.lt g hg).1
            · exact (hbr.lt g hg).1
          refine ⟨fun e => ?_, fun e => ?_, fun e => ?_⟩
          · have := (hR1.l.lt g e).2; omega
          · have := (hR1.r.lt g e).2; omega
          · have := (hT1.pos.lt g e).2; omega)
        obtain ⟨W8, hW8⟩ : ∃ W8, W8 = w7.setCell ⟨x, 1, none⟩ (.slice (some ⟨g7, 0, none⟩) (rs.length + 1) cap) := ⟨_, rfl⟩
        rw [← hW8] at hT6 hR6
        have HS : Hid (SeenQ c z P.length rs (rs ++ [⟨P.length, (-1), c, .slice Al c.l.length kl, .slice Ar c.r.length kr⟩]) lo hi z hi) := Lib.hid (.inr (.inl ⟨by have := H1.out; omega, by have := H2.out; omega, ⟨_, _, rfl⟩, rfl, rfl⟩))
        generalize rs ++ [(⟨P.length, (-1), c, .slice Al c.l.length kl, .slice Ar c.r.length kr⟩ : RecV)] = rs' at *
        clear hT hR hT1 hR1 hRd hTd hcfg hsize c0 c1 g1 hT4 hR4 d0 d1 hsize4 hT5 hR5 B7 z1 v1 ol orr hbl hbr hap
        have p0 := (hT6.blk.alloc (.cells #[.int .i64 z] 2)).cell 0
        have p0' := hT6.blk.cell 0
        simp only [List.getElem?_toArray, List.getElem?_cons_zero, List.getElem?_cons_succ] at p0 p0'
        have ho9 := hT6.pos.alloc (.cells #[.int .i64 z] 2)
        have hs8 : w0.heap.size ≤ W8.heap.size := hR6.ext0.size
        try rw [← hW8]
        try clear hW8
        have eZ := Ext.alloc W8 (.cells #[.int .i64 z] 2)
        have hT9 := hT6.ext eZ
        have hR9 := hR6.ext eZ
        go_wp2_with (at_builtin; refine wpList_append_own_at _ rfl _ _ 28 rfl w0.heap.size 2 j0 (.int .i64 0) 1 8 Try.underlying28 hj0 hy0 hy1 hy2 rfl (by decide) _ _ _ rfl ho9 ⟨W8.heap.size, 0, none⟩ 1 1 [.int .i64 z] rfl rfl (cell_one_new _ _ _) ?c2 ?c3 ?c4 ?c5 ?_)
        case c2 => first | (intro u hu; simp at hu; subst hu; rfl) | rfl | simp [Value.oneCell']
        case c3 => unfold maxLen; omega
        case c4 => omega
        case c5 => first | (simp; omega) | omega
        intro v' wA hownA hgA _ hloc
        obtain ⟨Az, cz, rfl, _, _, _⟩ := (ownsRow_row hownA).form
        have BA := Blk.apart hT9.blk ho9 (by decide) hgA
        have p1 := BA.cell 0
        have q1 := BA.frozen 0
        simp only [List.getElem?_toArray, List.getElem?_cons_zero, List.getElem?_cons_succ] at p1
        obtain ⟨hTz, hRz⟩ := TrkAt.posed hT9 hR9 z hownA hgA (fun g hg => by
          rcases hloc with e | e
          · exact .inl (e.symm.trans hg)
          · rw [e] at hg
            injection hg with hg
            exact .inr (by simp; omega))
        have HT := Lib.hid hTz
        have HR := Lib.hid hRz
        clear hTz hRz hT9 hR9 hT6 hR6 ho9 BA p0 p0' hownA hgA
        go_wp2
        go_end0
        exact ⟨rfl, _, _, _, _, _, HR.out, HT.out, HS.out⟩

    · have e2 : decide (z < lo) = false := by simp [h2]
      have HS : Hid (SeenQ c z P.length rs rs lo hi lo hi) := Lib.hid (.inr (.inr ⟨by have := H1.out; omega, h2, rfl, rfl, rfl⟩))
      clear h2
      have hT6 := hT
      have hR6 := hR
      clear hT hR
      go_enter Try.func101, Try.ntmps101
      have p0 := (hT6.blk.alloc (.cells #[.int .i64 z] 2)).cell 0
      have p0' := hT6.blk.cell 0
      simp only [List.getElem?_toArray, List.getElem?_cons_zero, List.getElem?_cons_succ] at p0 p0'
      have ho9 := hT6.pos.alloc (.cells #[.int .i64 z] 2)
      have hs8 : w0.heap.size ≤ W.heap.size := hR6.ext0.size
      have eZ := Ext.alloc W (.cells #[.int .i64 z] 2)
      have hT9 := hT6.ext eZ
      have hR9 := hR6.ext eZ
      go_wp2_with (at_builtin; refine wpList_append_own_at _ rfl _ _ 28 rfl w0.heap.size 2 j0 (.int .i64 0) 1 8 Try.underlying28 hj0 hy0 hy1 hy2 rfl (by decide) _ _ _ rfl ho9 ⟨W.heap.size, 0, none⟩ 1 1 [.int .i64 z] rfl rfl (cell_one_new _ _ _) ?c2 ?c3 ?c4 ?c5 ?_)
      case c2 => first | (intro u hu; simp at hu; subst hu; rfl) | rfl | simp [Value.oneCell']
      case c3 => unfold maxLen; omega
      case c4 => omega
      case c5 => first | (simp; omega) | omega
      intro v' wA hownA hgA _ hloc
      obtain ⟨Az, cz, rfl, _, _, _⟩ := (ownsRow_row hownA).form
      have BA := Blk.apart hT9.blk ho9 (by decide) hgA
      have p1 := BA.cell 0
      have q1 := BA.frozen 0
      simp only [List.getElem?_toArray, List.getElem?_cons_zero, List.getElem?_cons_succ] at p1
      obtain ⟨hTz, hRz⟩ := TrkAt.posed hT9 hR9 z hownA hgA (fun g hg => by
        rcases hloc with e | e
        · exact .inl (e.symm.trans hg)
        · rw [e] at hg
          injection hg with hg
          exact .inr (by simp; omega))
      have HT := Lib.hid hTz
      have HR := Lib.hid hRz
      clear hTz hRz hT9 hR9 hT6 hR6 ho9 BA p0 p0' hownA hgA
      go_wp2
      go_end0
      exact ⟨rfl, _, _, _, _, _, HR.out, HT.out, HS.out⟩

end Go.Proofs.Ytpdnmhhieokogaa
