/- Contracts of both machines on one half of the tape: the program's and the reference's. The machine is valid. -/
import Derived.Test.YtejgobemlgogiaaListT
set_option linter.unusedSimpArgs false
set_option linter.unusedVariables false
namespace Go.Proofs.Ytejgobemlgogiaa
open Go Go.RowKit Go.Proofs
set_option maxHeartbeats 400000
def foldOf (m : MachD) : Option (List FP × List RuleD) := if m.sy = 6 then none else foldB m
def Make13 (w : World) (m : MachD) (b : Nat) (e : Ending) (w' : World) : Prop :=
  ((foldOf m = none ∧ ∃ bk, e = .returned (.tuple #[.pointer (some ⟨bk, 0, none⟩), .bool false])) ∨
    ∃ s bk rv pv vs, foldOf m = some s ∧ e = .returned (.tuple #[.pointer (some ⟨bk, 0, none⟩), .bool true]) ∧ MkSt w.heap.size w' bk b (m.sy + 1) s.1.length s.2 s.1 rv pv vs ∧ (∀ p ∈ s.1, POk m.st p) ∧ 1 ≤ s.1.length ∧ s.1.length ≤ 1000) ∧ Ext w w'
set_option maxHeartbeats 1000000 in
set_option maxRecDepth 20000 in
theorem l13MakeFold_c (b : Nat) (m : MachD) (w : World) (hM : MachAt w b m) (hm : machOk m = true) :
    Calls Try.prog 18 #[.pointer (some ⟨b, 0, none⟩)] w (Make13 w m b) := by
  obtain ⟨s1, s2, s3, s4, hl⟩ := machOk_all hm
  have hM0 := hM
  obtain ⟨rv, p0, p1, p2, hr⟩ := hM
  obtain ⟨W, hW⟩ : ∃ W, W = w.alloc (.cells #[.pointer (some ⟨b, 0, none⟩), .pointer none, .int .i64 1, .slice none 0 0, .int .i64 0, .int .i64 0, .slice none 0 0] 54) := ⟨_, rfl⟩
  have hXW : Ext w W := by rw [hW]; exact Ext.alloc _ _
  have bK : Blk W w.heap.size 54 #[.pointer (some ⟨b, 0, none⟩), .pointer none, .int .i64 1, .slice none 0 0, .int .i64 0, .int .i64 0, .slice none 0 0] := by rw [hW]; exact Blk.new _ _ _ _ rfl
  have q0 := hXW.cell p0
  have q0' := q0
  rw [hW] at q0'
  by_cases h6 : m.sy = 6
  · have hb6 : (m.sy == 6) = true := by simp [h6]
    have HE : Hid (foldOf m = none) := by unfold Hid foldOf; rw [if_pos h6]
    clear h6
    go_enter Try.func18, Try.ntmps18
    go_wp2
    go_ret2
    exact ⟨.inl ⟨HE.out, _, rfl⟩, Ext.alloc _ _⟩
  · have hb6 : (m.sy == 6) = false := by simp [h6]
    have HE : Hid (foldOf m = foldB m) := by unfold Hid foldOf; rw [if_neg h6]
    have h5 : m.sy ≤ 5 := by omega
    obtain ⟨V, hV⟩ : ∃ V, V = W.alloc (.cells #[.int .i64 0, .int .i64 0, .int .i64 0] 2) := ⟨_, rfl⟩
    have hXV : Ext W V := by rw [hV]; exact Ext.alloc _ _
    have hsz : W.heap.size = w.heap.size + 1 := by rw [hW]; simp
    have bL : Blk V (w.heap.size + 1) 2 (ivs [0, 0, 0]).toArray := by rw [hV]; exact Blk.new _ _ _ _ hsz
    have oL := own_of_blk (base := w.heap.size) bL (by omega) (by simp)
    clear h6
    go_enter Try.func18, Try.ntmps18
    go_wp2_with fail
    rw [← hW, ← hV]
    clear hV hW q0'
    refine (build13_c w V w.heap.size b m _ hM0 (hXW.trans hXV) (Nat.le_refl _) (bK.ext hXV) oL hm h5).mono ?_
    rintro e w1 ⟨hres, hx1⟩
    rcases hres with ⟨hn, rfl⟩ | ⟨s, rv1, pv1, vs1, hs, rfl, hst, hok, l1, l2⟩
    · go_wp2
      go_ret2
      exact ⟨.inl ⟨HE.out.trans hn, _, rfl⟩, hx1⟩
    · go_wp2
      go_ret2
      exact ⟨.inr ⟨s, _, rv1, pv1, vs1, HE.out.trans hs, rfl, hst, hok, l1, l2⟩, hx1⟩
def FoldRes (w : World) (m : MachD) (e : Ending) (w' : World) : Prop :=
  ((foldOf m = none ∧ e = .returned (.tuple #[.pointer none, .bool false])) ∨
    ∃ s bx bm rv pv, foldOf m = some s ∧ e = .returned (.tuple #[.pointer (some ⟨bx, 0, none⟩), .bool true]) ∧ PlSt w.heap.size w' bx (m.sy + 1) s.1.length s.2 s.1 rv pv bm ∧ (∀ p ∈ s.1, POk m.st p) ∧ 1 ≤ s.1.length ∧ s.1.length ≤ 1000) ∧ Ext w w'
set_option maxHeartbeats 1000000 in
set_option maxRecDepth 20000 in
theorem folded_c (mv : Value) (m : MachD) (w : World) (hM : Mach w mv m) (hm : machOk m = true) :
    Calls Try.prog 27 #[mv] w (FoldRes w m) := by
  obtain ⟨s1, s2, s3, s4, hl⟩ := machOk_all hm
  obtain ⟨rv, rfl, hr⟩ := hM
  obtain ⟨A, c, rfl, _, _⟩ := hr.form
  obtain ⟨W, hW⟩ : ∃ W, W = w.alloc (.cells #[.int .i64 m.sy, .int .i64 m.st, .slice A m.rules.length c] 35) := ⟨_, rfl⟩
  have hXW : Ext w W := by rw [hW]; exact Ext.alloc _ _
  have bM : Blk W w.heap.size 35 #[.int .i64 m.sy, .int .i64 m.st, .slice A m.rules.length c] := by rw [hW]; exact Blk.new _ _ _ _ rfl
  by_cases h6 : m.sy = 6
  · have hb6 : (m.sy == 6) = true := by simp [h6]
    have HE : Hid (foldOf m = none) := by unfold Hid foldOf; rw [if_pos h6]
    clear h6
    go_enter Try.func27, Try.ntmps27
    go_wp2
    go_ret2
    exact ⟨.inl ⟨HE.out, rfl⟩, Ext.alloc _ _⟩
  · have hb6 : (m.sy == 6) = false := by simp [h6]
    have HE : Hid (foldOf m = foldB m) := by unfold Hid foldOf; rw [if_neg h6]
    have h5 : m.sy ≤ 5 := by omega
    clear h6
    have hbd := buildF_c W w.heap.size _ m bM (hr.ext hXW) hm h5
    simp only [fp0, FP.v] at hbd
    go_enter Try.func27, Try.ntmps27
    go_wp2_with fail
    rw [← hW]
    refine hbd.mono ?_
    rintro e w1 ⟨hres, hx1⟩
    have hX := hXW.trans hx1
    rcases hres with ⟨hn, rfl⟩ | ⟨s, bx, bm, rv1, pv1, hs, rfl, hst, hok, l1, l2⟩
    · go_wp2
      go_ret2
      exact ⟨.inl ⟨HE.out.trans hn, rfl⟩, hX⟩
    · have hst' : PlSt w.heap.size w1 bx (m.sy + 1) s.1.length s.2 s.1 rv1 pv1 bm :=
        ⟨hst.blk, ownsRow_base hst.rules hXW.size, ownsRow_base hst.places hXW.size, hst.tbl, Nat.le_trans hXW.size hst.lowX, Nat.le_trans hXW.size hst.lowM⟩
      go_wp2
      go_ret2
      exact ⟨.inr ⟨s, bx, bm, rv1, pv1, HE.out.trans hs, rfl, hst', hok, l1, l2⟩, hX⟩
end Go.Proofs.Ytejgobemlgogiaa
