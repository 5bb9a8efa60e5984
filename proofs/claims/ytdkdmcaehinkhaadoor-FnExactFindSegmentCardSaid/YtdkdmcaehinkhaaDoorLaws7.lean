/- Contracts of the marks that the laws look for in slices of slices, and lay in machines. The marks stay below 2 to the power of 62. -/
import Derived.Test.YtdkdmcaehinkhaaDoorLaws6
namespace Go.Proofs.YtdkdmcaehinkhaaDoor
open Go Go.RowKit Go.Proofs
set_option maxHeartbeats 400000
theorem numRows_get (k : Int) (xss : List (List Int)) (j : Nat) (h : j < xss.length) : (numRows k xss)[j]? = some (nums (k + tot (xss.take j)) xss[j].length) := by
  induction xss generalizing k j with
  | nil => simp at h
  | cons x r ih =>
    cases j with
    | zero => simp [numRows, tot]
    | succ j =>
      simp only [numRows, List.getElem?_cons_succ, List.getElem_cons_succ, List.take_succ_cons]
      rw [ih _ j (by simpa using h)]
      simp only [tot, List.map_cons, List.sum_cons]
      congr 2
      omega
theorem heldInt64SS_c (v : Value) (xss : List (List Int)) (k : Int) (w : World) (h : IntRows w v xss) (h0 : 0 ≤ k) (h1 : k + tot xss ≤ 4611686018427387904) (hz : xss = numRows k xss) :
    Calls Tryd.prog 14 #[v, .int .i64 k] w fun e w' => e = .returned (.int .i64 (k + tot xss)) ∧ w = w' := by
  obtain ⟨A, c, rfl, h2, h2'⟩ := h.form
  have HZ := Lib.hid hz
  clear hz
  go_enter Tryd.func14, Tryd.ntmps14
  go_wp2
  go_loop [1, 5] (fun q i => ∃ j : Nat, j ≤ xss.length ∧ i = .int .i64 j ∧ q = .int .i64 (k + (tot (xss.take j) : Nat))) (fun _ i => xss.length - (intOf i).toNat)
  case atStart => exact ⟨0, Nat.zero_le _, rfl, by simp [tot]⟩
  case round =>
    obtain ⟨j, hj, rfl, rfl⟩ := hrel
    have ht := tot_take_le xss j
    by_cases hlt : j < xss.length
    · have hts := tot_take_succ xss j hlt
      have ht1 := tot_take_le xss (j + 1)
      obtain ⟨b, off, rfl, hc⟩ := h.at hlt
      obtain ⟨A1, c1, c0, r0⟩ := hc j hlt
      have e : xss[j] = nums (k + tot (xss.take j)) xss[j].length := by
        have e1 := numRows_get k xss j hlt
        rw [← HZ.out, List.getElem?_eq_getElem hlt] at e1
        exact Option.some.inj e1
      have HT := Lib.hid hts
      have HE := Lib.hid e
      have hlen : tot (xss.take j) + xss[j].length ≤ tot xss := by omega
      clear hts e hc
      go_wp2_with fail
      refine (heldInt64S_c _ _ _ _ r0 (by omega) (by omega) HE.out).mono ?_
      rintro e w2 ⟨rfl, rfl⟩
      go_wp2
      go_round
      case rel => exact ⟨j + 1, by omega, by go_num, by rw [HT.out]; congr 1; omega⟩
      case measure => simp [intOf]; omega
    · have hje : j = xss.length := by omega
      subst hje
      go_wp2
      go_ret
      exact ⟨by simp, rfl⟩
theorem set3 {base : Nat} {w : World} {e : TypeId} {g n cap : Nat} {xs : List Value} (h : w.ownsRow base e 3 (.slice (some ⟨g, 0, none⟩) n cap) n xs) (j : Nat) (a b c : Value) :
    (((w.setCell ⟨g, j, none⟩ a).setCell ⟨g, j + 1, none⟩ b).setCell ⟨g, j + 2, none⟩ c).ownsRow base e 3 (.slice (some ⟨g, 0, none⟩) n cap) n (((xs.set j a).set (j + 1) b).set (j + 2) c) ∧
    w.grownBy (((w.setCell ⟨g, j, none⟩ a).setCell ⟨g, j + 1, none⟩ b).setCell ⟨g, j + 2, none⟩ c) (some g) := by
  obtain ⟨a1, a2⟩ := h.stored j a
  obtain ⟨b1, b2⟩ := a1.stored (j + 1) b
  obtain ⟨c1, c2⟩ := b1.stored (j + 2) c
  exact ⟨c1, grownBy_trans a2 (grownBy_trans b2 c2)⟩
theorem markRuleS_c (base : Nat) (v : Value) (rs : List RuleD) (k : Int) (w : World) (h : OwnRules base w v rs) (h0 : 0 ≤ k) (h1 : k + 3 * rs.length ≤ 4611686018427387904) :
    Calls Tryd.prog 36 #[v, .int .i64 k] w fun e w' => e = .returned (.int .i64 (k + 3 * rs.length)) ∧ w.grownBy w' v.ownBlock := by
  obtain ⟨A, c, rfl, h2, h2'⟩ := h.rules.form
  go_enter Tryd.func36, Tryd.ntmps36
  go_wp2
  go_loopw [1, 5] (fun q i wr => ∃ j : Nat, j ≤ rs.length ∧ i = .int .i64 j ∧ q = .int .i64 (k + 3 * j) ∧ w.grownBy wr (Value.slice A rs.length c).ownBlock ∧ ∃ xs, wr.ownsRow base 79 3 (.slice A rs.length c) rs.length xs) (fun _ i _ => rs.length - (intOf i).toNat)
  case atStart => exact ⟨0, Nat.zero_le _, rfl, by simp, World.grownBy.refl _ _, _, h⟩
  case round =>
    obtain ⟨j, hj, rfl, rfl, hg, xs, ho⟩ := hrel
    have hl := ho.1
    by_cases hlt : j < rs.length
    · obtain ⟨g, rfl, hb, hgl⟩ := own_at ho (by omega)
      have q0 := ho.cellAt (j * 3) (by omega)
      have q1 := ho.cellAt (j * 3 + 1) (by omega)
      have q2 := ho.cellAt (j * 3 + 2) (by omega)
      have HL := Lib.hid hl
      have hl' : j * 3 + 2 < xs.length := by omega
      clear hl
      rw [List.getElem?_eq_getElem (by omega)] at q0 q1 q2
      have f0 := ho.frozenAt (j * 3)
      have f1 := ho.frozenAt (j * 3 + 1)
      have f2 := ho.frozenAt (j * 3 + 2)
      go_wp2
      obtain ⟨s1, s2⟩ := set3 ho (j * 3) (.int .i64 (k + 3 * j)) (.int .i64 (k + 3 * j + 1)) (.int .i64 (k + 3 * j + 1 + 1))
      go_roundw
      case rel => exact ⟨j + 1, by omega, by go_num, by congr 1; omega, grownBy_trans hg s2, _, s1⟩
      case measure => simp [intOf]; omega
    · have hje : j = rs.length := by omega
      subst hje
      go_wp2
      go_ret
      exact ⟨rfl, hg⟩
theorem markMachine_c (base : Nat) (a b : Int) (rv : Value) (rs : List RuleD) (k : Int) (w : World) (h : OwnRules base w rv rs) (hbw : base ≤ w.heap.size) (h0 : 0 ≤ k) (h1 : k + 3 * rs.length ≤ 4611686018427387904) :
    Calls Tryd.prog 12 #[.agg #[.int .i64 a, .int .i64 b, rv], .int .i64 k] w fun e w' => e = .returned (.int .i64 (k + 3 * rs.length)) ∧ Below base w w' ∧ w.grownBy w' rv.ownBlock := by
  go_enter Tryd.func12, Tryd.ntmps12
  go_wp2_with fail
  refine (markRuleS_c base _ _ _ _ (h.ext (Ext.alloc _ _)) h0 h1).mono ?_
  rintro e w2 ⟨rfl, hg⟩
  have hg' : w.grownBy w2 rv.ownBlock := grownBy_trans (World.grownBy_alloc _ _ _) hg
  clear hg
  go_wp2
  go_ret
  exact ⟨rfl, (Below.refl _ _).grown hg' hbw (fun b hb' => (h.lt b hb').1), hg'⟩
end Go.Proofs.YtdkdmcaehinkhaaDoor
