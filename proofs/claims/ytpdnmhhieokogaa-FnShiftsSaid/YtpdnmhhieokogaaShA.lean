/- Contracts of the program's small functions on shifts: the least and the greatest of numbers, sides that begin alike, configurations that fit. -/
import Derived.Test.YtpdnmhhieokogaaShQ
import Derived.Test.YtpdnmhhieokogaaRead
import Derived.Test.YtpdnmhhieokogaaListI
import Derived.BigQuiet
set_option linter.unusedSimpArgs false
set_option linter.unusedVariables false
namespace Go.Proofs.Ytpdnmhhieokogaa
open Go Go.RowKit Go.Proofs
set_option maxHeartbeats 400000
theorem minL_take {xs : List Int} (h : 0 < xs.length) (k : Nat) (hk : k < xs.length) (h1 : 1 ≤ k) : minL (xs.take (k + 1)) = min (minL (xs.take k)) xs[k] := by
  cases xs with
  | nil => simp at h
  | cons a l =>
    obtain ⟨k, rfl⟩ : ∃ j, k = j + 1 := ⟨k - 1, by omega⟩
    have hk' : k < l.length := by simpa using hk
    simp only [List.take_succ_cons, minL, List.getElem_cons_succ]
    rw [List.take_succ_eq_append_getElem hk', List.foldl_append]
    rfl
theorem maxL_take {xs : List Int} (h : 0 < xs.length) (k : Nat) (hk : k < xs.length) (h1 : 1 ≤ k) : maxL (xs.take (k + 1)) = max (maxL (xs.take k)) xs[k] := by
  cases xs with
  | nil => simp at h
  | cons a l =>
    obtain ⟨k, rfl⟩ : ∃ j, k = j + 1 := ⟨k - 1, by omega⟩
    have hk' : k < l.length := by simpa using hk
    simp only [List.take_succ_cons, maxL, List.getElem_cons_succ]
    rw [List.take_succ_eq_append_getElem hk', List.foldl_append]
    rfl
set_option maxRecDepth 20000 in
theorem slicesMin_c (v : Value) (xs : List Int) (w : World) (h : Ints w v xs) (h0 : 0 < xs.length) :
    Calls Try.prog 40 #[v] w fun e w' => e = .returned (.int .i64 (minL xs)) ∧ w = w' := by
  obtain ⟨A, c, rfl, h2, h2'⟩ := h.form
  obtain ⟨b, off, rfl, hc⟩ := h.at h0
  have c0 := hc 0 h0
  have HC := Lib.hid hc
  have H0 : Hid (minL (xs.take 1) = xs[0]) := Lib.hid (by
    cases xs with
    | nil => simp at h0
    | cons a l => rfl)
  generalize xs[0] = x0 at *
  simp only [Nat.add_zero] at c0
  clear hc
  have hl1 : ¬ xs.length < 1 := by omega
  have HL := Lib.hid h0
  go_enter Try.func40, Try.ntmps40
  go_wp2
  go_loopw [3, 4] (fun m i wr => ∃ k : Nat, 1 ≤ k ∧ k ≤ xs.length ∧ i = .int .i64 (k : Int) ∧ wr = w ∧ m = .int .i64 (minL (xs.take k))) (fun _ i _ => xs.length - (intOf i).toNat)
  case atStart => exact ⟨1, Nat.le_refl _, h0, rfl, rfl, by rw [H0.out]⟩
  case round =>
    clear c0 H0
    obtain ⟨k, hk1, hk, rfl, rfl, rfl⟩ := hrel
    by_cases hlt : k < xs.length
    · have c1 := HC.out k hlt
      have HM := Lib.hid (minL_take HL.out k hlt hk1)
      generalize xs[k] = z at *
      generalize minL (xs.take k) = y at *
      clear h0
      go_wp2
      go_roundw
      case rel => exact ⟨k + 1, by omega, by omega, by go_num, by first | rfl | trivial, by rw [HM.out]⟩
      case measure => simp [intOf]; omega
    · have hke : k = xs.length := by omega
      subst hke
      rw [List.take_length]
      go_wp2
      go_ret
      first | exact ⟨rfl, rfl⟩ | exact ⟨trivial, rfl⟩
set_option maxRecDepth 20000 in
theorem slicesMax_c (v : Value) (xs : List Int) (w : World) (h : Ints w v xs) (h0 : 0 < xs.length) :
    Calls Try.prog 41 #[v] w fun e w' => e = .returned (.int .i64 (maxL xs)) ∧ w = w' := by
  obtain ⟨A, c, rfl, h2, h2'⟩ := h.form
  obtain ⟨b, off, rfl, hc⟩ := h.at h0
  have c0 := hc 0 h0
  have HC := Lib.hid hc
  have H0 : Hid (maxL (xs.take 1) = xs[0]) := Lib.hid (by
    cases xs with
    | nil => simp at h0
    | cons a l => rfl)
  generalize xs[0] = x0 at *
  simp only [Nat.add_zero] at c0
  clear hc
  have hl1 : ¬ xs.length < 1 := by omega
  have HL := Lib.hid h0
  go_enter Try.func41, Try.ntmps41
  go_wp2
  go_loopw [3, 4] (fun m i wr => ∃ k : Nat, 1 ≤ k ∧ k ≤ xs.length ∧ i = .int .i64 (k : Int) ∧ wr = w ∧ m = .int .i64 (maxL (xs.take k))) (fun _ i _ => xs.length - (intOf i).toNat)
  case atStart => exact ⟨1, Nat.le_refl _, h0, rfl, rfl, by rw [H0.out]⟩
  case round =>
    clear c0 H0
    obtain ⟨k, hk1, hk, rfl, rfl, rfl⟩ := hrel
    by_cases hlt : k < xs.length
    · have c1 := HC.out k hlt
      have HM := Lib.hid (maxL_take HL.out k hlt hk1)
      generalize xs[k] = z at *
      generalize maxL (xs.take k) = y at *
      clear h0
      go_wp2
      go_roundw
      case rel => exact ⟨k + 1, by omega, by omega, by go_num, by first | rfl | trivial, by rw [HM.out]⟩
      case measure => simp [intOf]; omega
    · have hke : k = xs.length := by omega
      subst hke
      rw [List.take_length]
      go_wp2
      go_ret
      first | exact ⟨rfl, rfl⟩ | exact ⟨trivial, rfl⟩
theorem minL_mem : ∀ {xs : List Int}, 0 < xs.length → minL xs ∈ xs := by
  have aux : ∀ (l : List Int) (a : Int), l.foldl min a = a ∨ l.foldl min a ∈ l := by
    intro l
    induction l with
    | nil => intro a; exact .inl rfl
    | cons b l ih =>
      intro a
      rw [List.foldl_cons]
      rcases ih (min a b) with h | h
      · rw [h]
        by_cases c : a ≤ b
        · exact .inl (by omega)
        · exact .inr (by rw [show min a b = b by omega]; exact List.mem_cons_self)
      · exact .inr (List.mem_cons_of_mem _ h)
  intro xs h
  cases xs with
  | nil => simp at h
  | cons a l =>
    rcases aux l a with h | h
    · exact List.mem_cons.2 (.inl h)
    · exact List.mem_cons_of_mem _ h
theorem maxL_mem : ∀ {xs : List Int}, 0 < xs.length → maxL xs ∈ xs := by
  have aux : ∀ (l : List Int) (a : Int), l.foldl max a = a ∨ l.foldl max a ∈ l := by
    intro l
    induction l with
    | nil => intro a; exact .inl rfl
    | cons b l ih =>
      intro a
      rw [List.foldl_cons]
      rcases ih (max a b) with h | h
      · rw [h]
        by_cases c : b ≤ a
        · exact .inl (by omega)
        · exact .inr (by rw [show max a b = b by omega]; exact List.mem_cons_self)
      · exact .inr (List.mem_cons_of_mem _ h)
  intro xs h
  cases xs with
  | nil => simp at h
  | cons a l =>
    rcases aux l a with h | h
    · exact List.mem_cons.2 (.inl h)
    · exact List.mem_cons_of_mem _ h
set_option maxRecDepth 20000 in
theorem behindHead_c (v : Value) (xs : List Int) (d : Int) (w : World) (h : Ints w v xs) (h0 : 0 < xs.length) (hb : ∀ x ∈ xs, -1000000 ≤ x ∧ x ≤ 1000000) :
    Calls Try.prog 21 #[v, .int .i64 d] w fun e w' => e = .returned (.int .i64 (behB xs d)) ∧ Ext w w' := by
  obtain ⟨A, c, rfl, h2, h2'⟩ := id h.form
  obtain ⟨b, off, rfl, hc⟩ := h.at h0
  have c0 := hc 0 h0
  have hx0 : xs.getD 0 0 = xs[0] := by rw [List.getD_eq_getElem?_getD, List.getElem?_eq_getElem h0]; rfl
  have b0 := hb _ (List.getElem_mem h0)
  have b1 := hb _ (minL_mem h0)
  have b2 := hb _ (maxL_mem h0)
  have HB : Hid (behB xs d = if 0 < d then xs[0] - minL xs else maxL xs - xs[0]) := Lib.hid (by unfold behB; rw [hx0])
  generalize xs[0] = x0 at *
  simp only [Nat.add_zero] at c0
  have HH := Lib.hid h
  have d0 := cellR c0
  have H0 := Lib.hid h0
  have i0 : (0 : Int) < (xs.length : Int) := by omega
  clear hc hx0 hb
  by_cases hd : 0 < d
  · have e1 : decide (0 < d) = true := by simp [hd]
    have HD := Lib.hid hd
    have HV : Hid (behB xs d = x0 - minL xs) := Lib.hid (by rw [HB.out, if_pos hd])
    clear hd HB b2 h
    go_enter Try.func21, Try.ntmps21
    go_wp2
    refine wp_region_ext (by kernel_rfl) (by kernel_rfl) ?_
    repeat (go_big_quiet_step ((first | (go_at_call 40; exact Calls.sameR (slicesMin_c _ xs _ (HH.out.ext (below_regrown _ _ _)) H0.out)))))
    refine wpQuiet_nil ?_
    intro w2 hx2
    go_wp2
    go_ret
    exact ⟨by rw [HV.out]; rfl, hx2⟩
  · have e1 : decide (0 < d) = false := by simp [hd]
    have HD := Lib.hid hd
    have HV : Hid (behB xs d = maxL xs - x0) := Lib.hid (by rw [HB.out, if_neg hd])
    clear hd HB b1 h
    go_enter Try.func21, Try.ntmps21
    go_wp2
    refine wp_region_ext (by kernel_rfl) (by kernel_rfl) ?_
    repeat (go_big_quiet_step ((first | (go_at_call 41; exact Calls.sameR (slicesMax_c _ xs _ (HH.out.ext (below_regrown _ _ _)) H0.out)))))
    refine wpQuiet_nil ?_
    intro w2 hx2
    go_wp2
    go_ret
    exact ⟨by rw [HV.out]; rfl, hx2⟩
theorem spanOk_c (a b : Int) (w : World) (h : -1000000000000 ≤ a ∧ a ≤ 1000000000000) :
    Calls Try.prog 17 #[.int .i64 a, .int .i64 b] w fun e w' => e = .returned (.bool (decide (0 ≤ a) && decide (1 ≤ b) && decide (a ≤ 20000) && decide (b ≤ 20000 - a))) ∧ w = w' := by
  go_enter Try.func17, Try.ntmps17
  by_cases h1 : 0 ≤ a <;> by_cases h2 : 1 ≤ b <;> by_cases h3 : a ≤ 20000 <;> by_cases h4 : b ≤ 20000 - a
  all_goals
    go_wp2
    go_ret
    exact ⟨by simp [h1, h2, h3, h4], rfl⟩
end Go.Proofs.Ytpdnmhhieokogaa
