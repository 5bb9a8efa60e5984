/- Contracts of the program's list of the places without a rule. The machine has at most 6000 rules. -/
import Derived.Test.YtdkdmcaehinkhaaDoorValid4
import Derived.Test.YtdkdmcaehinkhaaDoorLaws5
namespace Go.Proofs.YtdkdmcaehinkhaaDoor
open Go Go.RowKit Go.Proofs
set_option maxHeartbeats 400000
theorem intInfo : (Tryd.prog.info? 2).map (fun i => (i.zero, i.size, i.bytes)) = some (some (.int .i64 0), 1, 8) := by kernel_rfl
def freeTo (rs : List RuleD) (k : Nat) : List Int := (List.range k).filterMap fun (j : Nat) => if rs[j]? = some noR then some (Int.ofNat j) else none
theorem freeTo_yes {rs : List RuleD} {k : Nat} (hk : k < rs.length) (h : rs[k] = noR) : freeTo rs (k + 1) = freeTo rs k ++ [(k : Int)] := by
  simp [freeTo, List.range_succ, hk, h]
theorem freeTo_no {rs : List RuleD} {k : Nat} (hk : k < rs.length) (h : ¬ rs[k] = noR) : freeTo rs (k + 1) = freeTo rs k := by
  simp [freeTo, List.range_succ, hk, h]
theorem freeTo_length (rs : List RuleD) (k : Nat) : (freeTo rs k).length ≤ k := by
  unfold freeTo
  exact Nat.le_trans (List.length_filterMap_le _ _) (by simp)
theorem isR_mk (r : RuleD) : isR ⟨r.w, r.m, r.n⟩ = isR r := rfl
theorem freeRules_c (v : Value) (m : MachD) (w : World) (h : Mach w v m) (hn : m.rules.length ≤ 6000) :
    Calls Tryd.prog 87 #[v] w fun e w' => ∃ u, e = .returned u ∧ OwnInts w.heap.size w' u (freeTo m.rules m.rules.length) ∧ Ext w w' := by
  obtain ⟨rv, rfl, hr⟩ := h
  obtain ⟨A, c, rfl, h2, h2'⟩ := hr.form
  obtain ⟨i0, hi, hz0, hz1, hz2⟩ := info_parts intInfo
  go_enter Tryd.func87, Tryd.ntmps87
  go_wp2
  have hx0 := (Ext.alloc w (.cells #[.int .i64 m.sy, .int .i64 m.st, .slice A m.rules.length c] 31)).trans (Ext.alloc _ (.cells #[] 2))
  have hown0 : ((w.alloc (.cells #[.int .i64 m.sy, .int .i64 m.st, .slice A m.rules.length c] 31)).alloc (.cells #[] 2)).ownsRow w.heap.size 2 1 (.slice (some ⟨w.heap.size + 1, 0, none⟩) 0 0) 0 [] := by
    have := World.ownsRow_made (base := w.heap.size) (e := 2) (size := 1) (w.alloc (.cells #[.int .i64 m.sy, .int .i64 m.st, .slice A m.rules.length c] 31)) #[] 0 (by simp) (by unfold maxLen; omega) (by simp)
    simpa using this
  generalize hW : (w.alloc (.cells #[.int .i64 m.sy, .int .i64 m.st, .slice A m.rules.length c] 31)).alloc (.cells #[] 2) = W at *
  clear hW
  go_loopw [3, 10] (fun l i wr => ∃ k : Nat, k ≤ m.rules.length ∧ i = .int .i64 k ∧ Ext w wr ∧ OwnInts w.heap.size wr l (freeTo m.rules k)) (fun _ i _ => m.rules.length - (intOf i).toNat)
  case atStart => exact ⟨0, Nat.zero_le _, rfl, hx0, hown0⟩
  case round =>
    obtain ⟨k, hk, rfl, hx, ho⟩ := hrel
    obtain ⟨Al, cl, rfl, h3, h3'⟩ := ho.ints.form
    have hfl := freeTo_length m.rules k
    clear hown0 hx0
    by_cases hlt : k < m.rules.length
    · obtain ⟨b', off, rfl, hc⟩ := hr.at hlt
      obtain ⟨c0, c1, c2⟩ := hc k hlt
      have c0 := hx.cell c0
      have c1 := hx.cell c1
      have c2 := hx.cell c2
      clear hc
      go_wp2_with fail
      refine (isRule_c _ _ _ _).mono ?_
      rintro e w2 ⟨rfl, hx2⟩
      have hx2' := (Ext.alloc _ _).trans hx2
      rw [isR_mk]
      have ho2 := ho.ext hx2'
      have hX := hx.trans hx2'
      clear c0 c1 c2 hx2 hx2'
      by_cases he : m.rules[k] = noR
      · have H : isR m.rules[k] = false := by simp [isR, rEq, he]
        have HE := Lib.hid (freeTo_yes hlt he)
        clear he
        go_wp2_with (at_builtin; refine wpList_append_own _ rfl _ _ 38 rfl w.heap.size 2 i0 (.int .i64 0) 1 8 Tryd.underlying38 hi hz0 hz1 hz2 rfl (by decide) _ _ _ rfl (ho2.alloc _) ⟨w2.heap.size, 0, none⟩ 1 1 [.int .i64 k] rfl rfl ?c1 ?c2 ?c3 ?c4 ?c5 ?_)
        case c1 =>
          intro j u hj
          match j, hj with
          | 0, hj => simp at hj; subst hj; simp [Addr.add]
        case c2 => intro u hu; simp at hu; subst hu; rfl
        case c3 => unfold maxLen; omega
        case c4 => omega
        case c5 => have := hX.size; simp; omega
        intro v' w3 hown' hgrow _
        have hX3 : Ext w w3 := hX.grown (grownBy_trans (World.grownBy_alloc _ _ _) hgrow) (fun b hb => (ho2.lt b hb).1)
        have R : OwnInts w.heap.size w3 v' (freeTo m.rules (k + 1)) := by
          rw [HE.out]
          unfold OwnInts
          rw [ivs_append, List.length_append]
          exact hown'
        clear hown' hgrow ho2 ho
        go_wp2
        go_roundw
        case rel => exact ⟨k + 1, by omega, by go_num, hX3, R⟩
        case measure => simp [intOf]; omega
      · have H : isR m.rules[k] = true := by simp [isR, rEq, he]
        have HE := Lib.hid (freeTo_no hlt he)
        clear he
        go_wp2
        go_roundw
        case rel => exact ⟨k + 1, by omega, by go_num, hX, by rw [HE.out]; exact ho2⟩
        case measure => simp [intOf]; omega
    · have hke : k = m.rules.length := by omega
      go_wp2
      go_ret
      exact ⟨_, rfl, hke ▸ ho, hx⟩
end Go.Proofs.YtdkdmcaehinkhaaDoor
