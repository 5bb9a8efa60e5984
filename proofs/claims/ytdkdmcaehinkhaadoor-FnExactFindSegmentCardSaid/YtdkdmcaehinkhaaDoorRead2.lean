/- Contracts of the reference's test whether a node may begin, and of its copies. -/
import Derived.Test.YtdkdmcaehinkhaaDoorRead
namespace Go.Proofs.YtdkdmcaehinkhaaDoor
open Go Go.RowKit Go.Proofs
set_option maxHeartbeats 400000
theorem mayS_no {x : List Int} {k : Nat} (h2 : 2 ≤ k) (hk : k < x.length) (he : 0 < x[k]) : mayS x = false := by
  unfold mayS
  have : (x.drop 2).all (fun z => decide (z ≤ 0)) = false := by
    rw [List.all_eq_false]
    exact ⟨x[k], by rw [List.mem_drop_iff_getElem]; exact ⟨k - 2, by omega, by congr 1; omega⟩, by simp; omega⟩
  rw [this]; simp
theorem mayS_yes {x : List Int} (hl : 3 ≤ x.length) (h1 : x[1] ≤ 0) (h : ∀ j, 2 ≤ j → (hj : j < x.length) → x[j] ≤ 0) : mayS x = true := by
  unfold mayS
  have e1 : x.getD 1 0 = x[1] := by rw [List.getD_eq_getElem?_getD, List.getElem?_eq_getElem (by omega)]; rfl
  rw [e1]
  have : (x.drop 2).all (fun z => decide (z ≤ 0)) = true := by
    rw [List.all_eq_true]
    intro z hz
    rw [List.mem_drop_iff_getElem] at hz
    obtain ⟨j, hj, rfl⟩ := hz
    have := h (j + 2) (by omega) hj
    simpa [Nat.add_comm] using this
  rw [this]; simp [h1]
theorem mayS_no1 {x : List Int} (hl : 3 ≤ x.length) (h1 : ¬ x[1] ≤ 0) : mayS x = false := by
  unfold mayS
  have e1 : x.getD 1 0 = x[1] := by rw [List.getD_eq_getElem?_getD, List.getElem?_eq_getElem (by omega)]; rfl
  rw [e1]; simp [h1]
def lowTo (x : List Int) (k : Nat) : Prop := ∀ j, 2 ≤ j → j < k → (hj : j < x.length) → x[j] ≤ 0
theorem l26May_c (v : Value) (x : List Int) (w : World) (h : Ints w v x) (hl : 3 ≤ x.length) :
    Calls Tryd.prog 49 #[v] w fun e w' => e = .returned (.bool (mayS x)) ∧ w = w' := by
  obtain ⟨A, c, rfl, h1, h2⟩ := h.form
  obtain ⟨b, off, rfl, hc⟩ := h.at (k := 1) (by omega)
  have c0 := hc 1 (by omega)
  have hl1 : (1 : Int) < (x.length : Int) := by omega
  by_cases hx : x[1] ≤ 0
  · go_enter Tryd.func49, Tryd.ntmps49
    go_wp2
    go_loop [3] (fun i => ∃ k : Nat, 2 ≤ k ∧ k ≤ x.length ∧ i = .int .i64 k ∧ lowTo x k) (fun i => x.length - (intOf i).toNat)
    case atStart => exact ⟨2, Nat.le_refl _, by omega, rfl, fun j h1 h2 => by omega⟩
    case round =>
      obtain ⟨k, hk2, hk, rfl, ht⟩ := hrel
      by_cases hlt : k < x.length
      · have ck := hc k hlt
        have HC := Lib.hid hc
        have HT := Lib.hid ht
        clear hc ht
        by_cases he : x[k] ≤ 0
        · go_wp2
          go_round
          case rel =>
            refine ⟨k + 1, by omega, by omega, by go_num, fun j a1 a2 hj => ?_⟩
            by_cases e : j = k
            · subst e; exact he
            · exact HT.out j a1 (by omega) hj
          case measure => simp [intOf]; omega
        · go_wp2
          go_ret
          exact ⟨by simp [mayS_no hk2 hlt (by omega)], rfl⟩
      · have HT := Lib.hid ht
        clear ht
        go_wp2
        go_ret
        exact ⟨by simp [mayS_yes hl hx (fun j a1 hj => HT.out j a1 (by omega) hj)], rfl⟩
  · go_enter Tryd.func49, Tryd.ntmps49
    go_wp2
    go_ret
    exact ⟨by simp [mayS_no1 hl (by omega)], rfl⟩
theorem l00Own_c (v : Value) (zs : List Int) (w : World) (h : Ints w v zs) (h0 : 0 < zs.length) (h1 : zs.length ≤ 1048576) :
    Calls Tryd.prog 86 #[v] w fun e w' => ∃ u, e = .returned u ∧ OwnInts w.heap.size w' u zs ∧ Ext w w' := by
  obtain ⟨i0, hi, hz0, hz1, hz2⟩ := info_parts intInfo
  obtain ⟨A, c, rfl, _, _⟩ := h.form
  obtain ⟨b, off, rfl, hc⟩ := h.at h0
  have hcl := ints_cells hc
  have hown0 : (w.alloc (.cells #[] 2)).ownsRow w.heap.size 2 1 (.slice (some ⟨w.heap.size, 0, none⟩) 0 0) 0 [] :=
    World.ownsRow_made (base := w.heap.size) (e := 2) (size := 1) w #[] 0 (by simp) (by unfold maxLen; omega) (by simp)
  have hcl2 : ∀ j u, (ivs zs)[j]? = some u → (w.alloc (.cells #[] 2)).cell? ((⟨b, off, none⟩ : Addr).add j) = some u := by
    intro j u hj
    have hadd : (⟨b, off, none⟩ : Addr).add j = ⟨b, off + j, none⟩ := by unfold Addr.add; split <;> simp_all
    rw [hadd]
    exact (Ext.alloc _ _).cell (hcl j u hj)
  have hm : 0 + zs.length ≤ maxLen := by unfold maxLen; omega
  have HC := Lib.hid hcl2
  have HO := Lib.hid hown0
  clear hcl2 hcl hc hown0
  go_enter Tryd.func86, Tryd.ntmps86
  go_wp2_with (at_builtin; refine wpList_append_own _ rfl _ _ 38 rfl w.heap.size 2 i0 (.int .i64 0) 1 8 Tryd.underlying38 hi hz0 hz1 hz2 rfl (by decide) _ _ _ rfl HO.out ⟨b, off, none⟩ zs.length c (ivs zs) rfl (by simp) HC.out (ivs_one zs) hm (by omega) (by simp) ?_)
  intro v' w1 hown' hgrow _
  go_wp2
  go_ret
  refine ⟨_, rfl, ?_, (Ext.alloc _ _).grown hgrow (fun b hb => (HO.out.lt b hb).1)⟩
  simpa [OwnInts] using hown'
end Go.Proofs.YtdkdmcaehinkhaaDoor
