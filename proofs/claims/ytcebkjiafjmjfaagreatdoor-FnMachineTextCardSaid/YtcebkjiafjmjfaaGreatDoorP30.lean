/- The contracts of the program's RenameStates and SwapSymbols at a valid machine and an order. Written by mkrene.py.
Contracts of the laws' small tests: r8Long; r8Config and r8Good where they hold. -/
import Derived.Test.YtcebkjiafjmjfaaGreatDoorP29
section
set_option linter.unusedSimpArgs false
set_option linter.unusedVariables false
namespace Go.Proofs.YtcebkjiafjmjfaaGreatDoor
open Go Go.RowKit Go.Proofs
set_option maxHeartbeats 400000
/-- What stands in a list at a number. -/
def pickL (order : List Int) (z : Int) : Int := order.getD z.toNat 0
theorem isOrd_range {order : List Int} {n : Int} (h : isOrd order n = true) : (order.length : Int) = n ∧ ∀ x ∈ order, 0 ≤ x ∧ x < n := by
  simp only [isOrd, Bool.and_eq_true, decide_eq_true_eq] at h
  refine ⟨h.1, fun x hx => ?_⟩
  have hm : x ∈ sortL order := (List.mergeSort_perm order _).mem_iff.2 hx
  rw [h.2] at hm
  simp only [upL, List.mem_map, List.mem_range] at hm
  obtain ⟨k, hk, rfl⟩ := hm
  omega
theorem pickL_range {order : List Int} {n : Int} (h : isOrd order n = true) : ∀ z, 0 ≤ z → z < n → 0 ≤ pickL order z ∧ pickL order z < n := by
  obtain ⟨hl, ha⟩ := isOrd_range h
  intro z h0 h1
  have hz : z.toNat < order.length := by omega
  have e : pickL order z = order[z.toNat] := by unfold pickL; rw [List.getD_eq_getElem?_getD, List.getElem?_eq_getElem hz]; rfl
  rw [e]
  exact ha _ (List.getElem_mem hz)
theorem id_range (n : Int) : ∀ z, 0 ≤ z → z < n → 0 ≤ (fun z : Int => z) z ∧ (fun z : Int => z) z < n := fun z h0 h1 => ⟨h0, h1⟩
end Go.Proofs.YtcebkjiafjmjfaaGreatDoor
end
section
set_option linter.unusedSimpArgs false
set_option linter.unusedVariables false
namespace Go.Proofs.YtcebkjiafjmjfaaGreatDoor
open Go Go.RowKit Go.Proofs
set_option maxHeartbeats 400000
theorem r8Long_c (w : World) (A B : Option Addr) (n c k d : Nat) :
    Calls Tryz.prog 4 #[.slice A n c, .slice B k d] w fun e w' => e = .returned (.bool (decide (1048576 < n) || decide (1048576 < k))) ∧ w = w' := by
  by_cases h1 : 1048576 < n
  · have e1 : decide ((n : Int) > 1048576) = true := by simp; omega
    have HH := Lib.hid h1
    clear h1
    go_enter Tryz.func4, Tryz.ntmps4
    go_wp2
    go_ret
    exact ⟨by simp [HH.out], rfl⟩
  · have e1 : decide ((n : Int) > 1048576) = false := by simp; omega
    have HH := Lib.hid h1
    clear h1
    by_cases h2 : 1048576 < k
    · have e2 : decide ((k : Int) > 1048576) = true := by simp; omega
      have HK := Lib.hid h2
      clear h2
      go_enter Tryz.func4, Tryz.ntmps4
      go_wp2
      go_ret
      exact ⟨by simp [HH.out, HK.out], rfl⟩
    · have e2 : decide ((k : Int) > 1048576) = false := by simp; omega
      have HK := Lib.hid h2
      clear h2
      go_enter Tryz.func4, Tryz.ntmps4
      go_wp2
      go_ret
      exact ⟨by simp [HH.out, HK.out], rfl⟩
set_option maxRecDepth 20000 in
set_option maxHeartbeats 2000000 in
theorem r8Config_c (w : World) (q : Int) (lv rv lv2 rv2 : Value) (l r : List Int) (hl : Ints w lv l) (hr : Ints w rv r) (hl2 : Ints w lv2 l) (hr2 : Ints w rv2 r) :
    Calls Tryz.prog 12 #[.agg #[.int .i64 q, lv, rv], .agg #[.int .i64 q, lv2, rv2]] w fun e w' => e = .returned (.bool true) ∧ Ext w w' := by
  obtain ⟨A1, c1, rfl, _, _⟩ := id hl.form
  obtain ⟨A2, c2, rfl, _, _⟩ := id hr.form
  obtain ⟨A3, c3, rfl, _, _⟩ := id hl2.form
  obtain ⟨A4, c4, rfl, _, _⟩ := id hr2.form
  obtain ⟨W, hW⟩ : ∃ W, W = (w.alloc (.cells #[.int .i64 q, .slice A1 l.length c1, .slice A2 r.length c2] 29)).alloc (.cells #[.int .i64 q, .slice A3 l.length c3, .slice A4 r.length c4] 29) := ⟨_, rfl⟩
  have hX : Ext w W := by rw [hW]; exact (Ext.alloc _ _).trans (Ext.alloc _ _)
  have b1 : Blk W w.heap.size 29 #[.int .i64 q, .slice A1 l.length c1, .slice A2 r.length c2] := by rw [hW]; exact (Blk.new _ _ _ _ rfl).alloc _
  have b2 : Blk W (w.heap.size + 1) 29 #[.int .i64 q, .slice A3 l.length c3, .slice A4 r.length c4] := by rw [hW]; exact Blk.new _ _ _ _ (by simp)
  have p0 := b1.cell 0
  have p1 := b1.cell 1
  have p2 := b1.cell 2
  have q0 := b2.cell 0
  have q1 := b2.cell 1
  have q2 := b2.cell 2
  simp only [List.getElem?_toArray, List.getElem?_cons_zero, List.getElem?_cons_succ] at p0 p1 p2 q0 q1 q2
  rw [hW] at p0 p1 p2 q0 q1 q2
  have HL := Lib.hid (hl.ext hX)
  have HR := Lib.hid (hr.ext hX)
  have HL2 := Lib.hid (hl2.ext hX)
  have HR2 := Lib.hid (hr2.ext hX)
  go_enter Tryz.func12, Tryz.ntmps12
  go_wp2_with fail
  rw [← hW]
  clear hW p0 p1 p2 q0 q1 q2
  refine (r8Same_c W _ _ l l HL.out HL2.out).mono ?_
  rintro e w2 ⟨rfl, hx2⟩
  rw [lEq_true rfl]
  have b1' := b1.ext hx2
  have b2' := b2.ext hx2
  have p2 := b1'.cell 2
  have q2 := b2'.cell 2
  simp only [List.getElem?_toArray, List.getElem?_cons_zero, List.getElem?_cons_succ] at p2 q2
  go_wp2_with fail
  refine (r8Same_c w2 _ _ r r (HR.out.ext hx2) (HR2.out.ext hx2)).mono ?_
  rintro e w3 ⟨rfl, hx3⟩
  rw [lEq_true rfl]
  go_wp2
  go_ret
  exact ⟨rfl, (hX.trans hx2).trans hx3⟩
end Go.Proofs.YtcebkjiafjmjfaaGreatDoor
end
