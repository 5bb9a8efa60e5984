/- Contracts of the program's small functions on lists of numbers. Lists are short. -/
import Derived.Test.YtejgobemlgogiaaListS
set_option linter.unusedSimpArgs false
set_option linter.unusedVariables false
namespace Go.Proofs.Ytejgobemlgogiaa
open Go Go.RowKit Go.Proofs
set_option maxHeartbeats 400000
theorem symbolAt_c (v : Value) (zs : List Int) (k : Nat) (w : World) (h : Ints w v zs) :
    Calls Try.prog 71 #[v, .int .i64 k] w fun e w' => e = .returned (.int .i64 (zs.getD k 0)) ∧ w = w' := by
  obtain ⟨A, c, rfl, h2, h2'⟩ := h.form
  by_cases hlt : k < zs.length
  · obtain ⟨b, off, rfl, hc⟩ := h.at hlt
    have c0 := hc k hlt
    have HR : Hid (zs.getD k 0 = zs[k]) := by unfold Hid; rw [List.getD_eq_getElem?_getD, List.getElem?_eq_getElem hlt]; rfl
    generalize zs[k] = z at *
    clear hc
    go_enter Try.func71, Try.ntmps71
    go_wp2
    go_ret
    exact ⟨by rw [HR.out]; rfl, rfl⟩
  · have HR : Hid (zs.getD k 0 = 0) := by unfold Hid; rw [List.getD_eq_getElem?_getD, List.getElem?_eq_none (by omega)]; rfl
    go_enter Try.func71, Try.ntmps71
    go_wp2
    go_ret
    exact ⟨by rw [HR.out]; rfl, rfl⟩
def indexN (zs : List Int) (n : Int) : Int := if n ∈ zs then (zs.idxOf n : Nat) else -1
set_option maxRecDepth 20000 in
theorem Index_c (v : Value) (zs : List Int) (n : Int) (w : World) (h : Ints w v zs) (_hn : zs.length ≤ 1048576) :
    Calls Try.prog 54 #[v, .int .i64 n] w fun e w' => e = .returned (.int .i64 (indexN zs n)) ∧ w = w' := by
  obtain ⟨A, c, rfl, h2, h2'⟩ := h.form
  go_enter Try.func54, Try.ntmps54
  go_wp2
  go_loopw [8] (fun i wr => ∃ k : Nat, k ≤ zs.length ∧ i = .int .i64 k ∧ wr = w ∧ Hid (n ∉ zs.take k)) (fun i _ => zs.length - (intOf i).toNat)
  case atStart => exact ⟨0, Nat.zero_le _, rfl, rfl, by unfold Hid; simp⟩
  case round =>
    obtain ⟨k, hk, rfl, rfl, hno⟩ := hrel
    by_cases hlt : k < zs.length
    · obtain ⟨b, off, rfl, hc⟩ := h.at hlt
      have c0 := hc k hlt
      have HT := Lib.hid (List.take_succ_eq_append_getElem hlt)
      have HM := Lib.hid (List.getElem_mem hlt)
      have HD := Lib.hid (List.drop_eq_getElem_cons hlt)
      generalize zs[k] = z at *
      clear hc
      by_cases he : n = z
      · subst he
        have HR : Hid (indexN zs n = (k : Int)) := by
          unfold Hid indexN
          rw [if_pos HM.out]
          congr 1
          have e1 : zs = zs.take k ++ n :: zs.drop (k + 1) := by rw [← HD.out, List.take_append_drop]
          rw [e1, List.idxOf_append, if_neg hno.out]
          simp
          omega
        go_wp2
        go_ret
        exact ⟨by rw [HR.out]; rfl, rfl⟩
      · have hb : (n == z) = false := by simp [he]
        go_wp2
        go_roundw
        case rel =>
          refine ⟨k + 1, by omega, by go_num, by first | rfl | trivial, ?_⟩
          unfold Hid
          rw [HT.out]
          intro hm
          rcases List.mem_append.1 hm with h' | h'
          · exact hno.out h'
          · simp at h'; exact he h'
        case measure => simp [intOf]; omega
    · have HR : Hid (indexN zs n = -1) := by
        unfold Hid indexN
        have := hno.out
        rw [List.take_of_length_le (by omega)] at this
        rw [if_neg this]
      go_wp2
      go_ret
      exact ⟨by rw [HR.out]; rfl, rfl⟩
theorem indexN_neg (zs : List Int) (n : Int) : decide (indexN zs n ≥ 0) = decide (n ∈ zs) := by
  unfold indexN
  by_cases h : n ∈ zs <;> simp [h]
theorem Contains_c (v : Value) (zs : List Int) (n : Int) (w : World) (h : Ints w v zs) (hn : zs.length ≤ 1048576) :
    Calls Try.prog 55 #[v, .int .i64 n] w fun e w' => e = .returned (.bool (decide (n ∈ zs))) ∧ w = w' := by
  obtain ⟨A, c, rfl, h2, h2'⟩ := h.form
  have HI := Lib.hid (indexN_neg zs n)
  go_enter Try.func55, Try.ntmps55
  go_wp2_with fail
  refine (Index_c _ zs n w h hn).mono ?_
  rintro e w' ⟨rfl, rfl⟩
  generalize indexN zs n = z at *
  go_wp2
  go_ret
  exact ⟨by rw [← HI.out]; rfl, rfl⟩
end Go.Proofs.Ytejgobemlgogiaa
