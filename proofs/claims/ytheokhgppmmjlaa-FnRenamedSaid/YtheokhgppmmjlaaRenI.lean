/- The contract of the laws' r8Good where it holds. -/
import Derived.Test.YtheokhgppmmjlaaRenH
import Derived.BigQuiet
set_option linter.unusedSimpArgs false
set_option linter.unusedVariables false
namespace Go.Proofs.Ytheokhgppmmjlaa
open Go Go.RowKit Go.Proofs
set_option maxHeartbeats 400000
set_option maxRecDepth 20000 in
set_option maxHeartbeats 2000000 in
theorem r8Good_c (w : World) (sy st q : Int) (mv lv rv : Value) (l r : List Int) (hl : Ints w lv l) (hr : Ints w rv r) (gl : ∀ z ∈ l, 0 ≤ z ∧ z < sy) (gr : ∀ z ∈ r, 0 ≤ z ∧ z < sy) (q0 : 0 ≤ q) (q1 : q < st) :
    Calls Try.prog 12 #[.agg #[.int .i64 sy, .int .i64 st, mv], .agg #[.int .i64 q, lv, rv]] w fun e w' => e = .returned (.bool true) ∧ Ext w w' := by
  obtain ⟨A1, c1, rfl, _, _⟩ := id hl.form
  obtain ⟨A2, c2, rfl, _, _⟩ := id hr.form
  obtain ⟨W, hW⟩ : ∃ W, W = (w.alloc (.cells #[.int .i64 sy, .int .i64 st, mv] 26)).alloc (.cells #[.int .i64 q, .slice A1 l.length c1, .slice A2 r.length c2] 29) := ⟨_, rfl⟩
  have hX : Ext w W := by rw [hW]; exact (Ext.alloc _ _).trans (Ext.alloc _ _)
  have b1 : Blk W w.heap.size 26 #[.int .i64 sy, .int .i64 st, mv] := by rw [hW]; exact (Blk.new _ _ _ _ rfl).alloc _
  have b2 : Blk W (w.heap.size + 1) 29 #[.int .i64 q, .slice A1 l.length c1, .slice A2 r.length c2] := by rw [hW]; exact Blk.new _ _ _ _ (by simp)
  have HL := Lib.hid (hl.ext hX)
  have HR := Lib.hid (hr.ext hX)
  have GL := Lib.hid gl
  have GR := Lib.hid gr
  clear hl hr gl gr
  generalize hg : w.heap.size = g at *
  have hq0 : decide (q ≥ 0) = true := by simp; omega
  have hq1 : decide (q < st) = true := by simp; omega
  go_enter Try.func12, Try.ntmps12
  go_wp2
  rw [← hW]
  clear hW hg
  go_loopw [5] (fun i wr => ∃ k : Nat, k ≤ l.length ∧ i = .int .i64 k ∧ Ext W wr) (fun i _ => l.length - (intOf i).toNat)
  case atStart => exact ⟨0, Nat.zero_le _, rfl, Ext.refl _⟩
  case round =>
    obtain ⟨k, hk, rfl, hx⟩ := hrel
    have x1 := (b2.ext hx).cell 1
    have x0 := (b1.ext hx).cell 0
    simp only [List.getElem?_toArray, List.getElem?_cons_zero, List.getElem?_cons_succ] at x0 x1
    by_cases hlt : k < l.length
    · obtain ⟨b, off, rfl, hc⟩ := HL.out.at hlt
      have c0 := hx.cell (hc k hlt)
      obtain ⟨z0, z1⟩ := GL.out _ (List.getElem_mem hlt)
      generalize l[k] = z at *
      have e0 : decide (z < 0) = false := by simp; omega
      have e1 : decide (z ≥ sy) = false := by simp; omega
      clear hc
      go_wp2
      go_quiet (fail)
      go_wp2
      go_roundw
      case rel => exact ⟨k + 1, by omega, by go_num, hx.trans (Ext.drewN _ _)⟩
      case measure => simp [intOf]; omega
    · have hke : k = l.length := by omega
      subst hke
      have hd : decide ((l.length : Int) < (l.length : Int)) = false := by simp
      clear x0 x1
      have B1 := b1.ext hx
      have B2 := b2.ext hx
      have hXW := hX.trans hx
      have HR2 := Lib.hid (HR.out.ext hx)
      have x1 := B2.cell 1
      simp only [List.getElem?_toArray, List.getElem?_cons_zero, List.getElem?_cons_succ] at x1
      go_wp2
      clear x1
      go_loopw [6] (fun i ws => ∃ j : Nat, j ≤ r.length ∧ i = .int .i64 j ∧ Ext wr ws) (fun i _ => r.length - (intOf i).toNat)
      case atStart => exact ⟨0, Nat.zero_le _, rfl, Ext.refl _⟩
      case round =>
        obtain ⟨j, hj, rfl, hy⟩ := hrel
        have x2 := (B2.ext hy).cell 2
        have y0 := (B2.ext hy).cell 0
        have x0 := (B1.ext hy).cell 0
        have x1 := (B1.ext hy).cell 1
        simp only [List.getElem?_toArray, List.getElem?_cons_zero, List.getElem?_cons_succ] at x0 x1 x2 y0
        by_cases hlt : j < r.length
        · obtain ⟨b, off, rfl, hc⟩ := HR2.out.at hlt
          have c0 := hy.cell (hc j hlt)
          obtain ⟨z0, z1⟩ := GR.out _ (List.getElem_mem hlt)
          generalize r[j] = z at *
          have e0 : decide (z < 0) = false := by simp; omega
          have e1 : decide (z ≥ sy) = false := by simp; omega
          clear hc
          go_wp2
          go_quiet (fail)
          go_wp2
          go_roundw
          case rel => exact ⟨j + 1, by omega, by go_num, hy.trans (Ext.drewN _ _)⟩
          case measure => simp [intOf]; omega
        · have hke : j = r.length := by omega
          subst hke
          have hd2 : decide ((r.length : Int) < (r.length : Int)) = false := by simp
          go_wp2
          go_ret
          exact ⟨rfl, hXW.trans hy⟩
end Go.Proofs.Ytheokhgppmmjlaa
