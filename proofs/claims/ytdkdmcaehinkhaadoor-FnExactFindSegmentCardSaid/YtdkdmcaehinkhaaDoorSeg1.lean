/- Contracts of the copies of lists and of the nodes of segments. Lists are not empty and short. -/
import Derived.Test.YtdkdmcaehinkhaaDoorHalt2
import Derived.Test.YtdkdmcaehinkhaaDoorShelf
import Derived.Laws.CopyOwn
namespace Go.Proofs.YtdkdmcaehinkhaaDoor
open Go Go.RowKit Go.Proofs
set_option maxHeartbeats 400000
theorem intSize (w : World) : (Go.sizeOf 2).run Tryd.prog w = .ok 1 w := by kernel_rfl
theorem ivs_one (zs : List Int) : ∀ u ∈ ivs zs, u.oneCell' = true := by
  intro u hu
  simp only [ivs, List.mem_map] at hu
  obtain ⟨z, _, rfl⟩ := hu
  rfl
theorem ints_cells {w : World} {b off : Nat} {zs : List Int} (hc : ∀ j, (hj : j < zs.length) → w.cell? ⟨b, off + j, none⟩ = some (.int .i64 zs[j])) : ∀ j u, (ivs zs)[j]? = some u → w.cell? ⟨b, off + j, none⟩ = some u := by
  intro j u hj
  obtain ⟨hl, _⟩ := List.getElem?_eq_some_iff.1 hj
  rw [ivs_length] at hl
  rw [ivs_get zs j hl] at hj
  injection hj with hj
  subst hj
  exact hc j hl
theorem Clone_c (v : Value) (zs : List Int) (w : World) (h : Ints w v zs) (h0 : 0 < zs.length) (h1 : zs.length ≤ 1048576) :
    Calls Tryd.prog 89 #[v] w fun e w' => ∃ u, e = .returned u ∧ OwnInts w.heap.size w' u zs ∧ Ext w w' := by
  obtain ⟨i0, hi, hz0, hz1, hz2⟩ := info_parts intInfo
  obtain ⟨A, c, rfl, _, _⟩ := h.form
  obtain ⟨b, off, rfl, hc⟩ := h.at h0
  have hm : zs.length ≤ maxLen := by unfold maxLen; omega
  refine (Tryd.slices_Clone i0 _ 1 8 hi hz0 hz1 hz2 rfl (by omega) intSize b off zs.length c (ivs zs) w (by simp) hm (by omega) (ints_cells hc) (ivs_one zs)).mono ?_
  rintro e w' ⟨u, rfl, ho, _, hb⟩
  exact ⟨u, rfl, ho, hb⟩
/-- A node with a place, a state, and a symbol at a cell. -/
def segNode (x : List Int) (place state symbol : Int) : List Int :=
  if 0 ≤ place ∧ place ≤ (x.length : Int) - 3 then ((x.set 0 place).set 1 state).set (2 + place).toNat symbol else (x.set 0 place).set 1 state
theorem ivs_set (zs : List Int) (k : Nat) (a : Int) : ivs (zs.set k a) = (ivs zs).set k (.int .i64 a) := by simp [ivs, List.map_set]
@[simp] theorem segNode_length (x : List Int) (a b c : Int) : (segNode x a b c).length = x.length := by unfold segNode; split <;> simp
theorem segmentNode_c (v : Value) (zs : List Int) (p s y : Int) (w : World) (h : Ints w v zs) (h0 : 3 ≤ zs.length) (h1 : zs.length ≤ 1048576) (hp : -1 ≤ p) (hp' : p ≤ 1048576) :
    Calls Tryd.prog 76 #[v, .int .i64 p, .int .i64 s, .int .i64 y] w fun e w' => ∃ u, e = .returned u ∧ OwnInts w.heap.size w' u (segNode zs p s y) ∧ Ext w w' := by
  go_enter Tryd.func76, Tryd.ntmps76
  go_wp2_with fail
  refine (Clone_c v zs w h (by omega) h1).mono ?_
  rintro e w1 ⟨u, rfl, ho, hx⟩
  obtain ⟨A, c, rfl, _, _⟩ := ho.ints.form
  obtain ⟨g, rfl, hb, hgl⟩ := own_at ho (by omega)
  have q0 := ho.cellAt 0 (by omega)
  have q1 := ho.cellAt 1 (by omega)
  rw [ivs_get zs 0 (by omega)] at q0
  rw [ivs_get zs 1 (by omega)] at q1
  have f0 := ho.frozenAt 0
  have f1 := ho.frozenAt 1
  have hl3 : (1 : Int) < (zs.length : Int) := by omega
  have hl4 : (0 : Int) < (zs.length : Int) := by omega
  have hE : Ext w ((w1.setCell ⟨g, 0, none⟩ (.int .i64 p)).setCell ⟨g, 1, none⟩ (.int .i64 s)) := (hx.setCell hb _).setCell hb _
  have h2 := ((ho.stored 0 (.int .i64 p)).1.stored 1 (.int .i64 s)).1
  go_wp2_with fail
  rw [← ivs_set, ← ivs_set] at h2
  generalize (w1.setCell ⟨g, 0, none⟩ (.int .i64 p)).setCell ⟨g, 1, none⟩ (.int .i64 s) = w2 at *
  clear q0 q1 f0 f1 hl3 hl4 ho hgl hx
  refine (sizeInt_c v zs w2 (h.ext hE)).mono ?_
  rintro e w' ⟨rfl, rfl⟩
  go_wp2_with fail
  refine (within_c _ _ _ _).mono ?_
  rintro e w' ⟨rfl, rfl⟩
  by_cases hin : 0 ≤ p ∧ p ≤ (zs.length : Int) - 3
  · have H : inB p 0 ((zs.length : Int) - 3) = true := inB_true hin
    have HS : Hid (segNode zs p s y = ((zs.set 0 p).set 1 s).set (2 + p).toNat y) := by unfold Hid segNode; rw [if_pos hin]
    obtain ⟨n1, n2⟩ := hin
    obtain ⟨k, rfl⟩ := Int.eq_ofNat_of_zero_le n1
    have e2 : (2 + (k : Int)).toNat = 2 + k := by omega
    rw [e2] at HS
    clear e2
    have q0 := h2.cellAt (2 + k) (by omega)
    rw [ivs_get _ _ (by simp; omega)] at q0
    have f0 := h2.frozenAt (2 + k)
    have hE2 := hE.setCell (p := ⟨g, 2 + k, none⟩) hb (.int .i64 y)
    have h3 := (h2.stored (2 + k) (.int .i64 y)).1
    rw [← ivs_set] at h3
    go_wp2
    go_ret
    refine ⟨_, rfl, ?_, hE2⟩
    rw [HS.out]
    show World.ownsRow _ _ _ _ _ _ _
    simpa using h3
  · have H : inB p 0 ((zs.length : Int) - 3) = false := by rw [Bool.eq_false_iff]; intro h; exact hin (inB_iff.1 h)
    have HS : Hid (segNode zs p s y = (zs.set 0 p).set 1 s) := by unfold Hid segNode; rw [if_neg hin]
    clear hin
    go_wp2
    go_ret
    refine ⟨_, rfl, ?_, hE⟩
    rw [HS.out]
    show World.ownsRow _ _ _ _ _ _ _
    simpa using h2
end Go.Proofs.YtdkdmcaehinkhaaDoor
