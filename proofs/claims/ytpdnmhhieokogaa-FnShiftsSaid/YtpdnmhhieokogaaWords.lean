/- Contracts of the program's tests on words and proofs. No condition. -/
import Derived.Test.YtpdnmhhieokogaaProof
import Derived.Test.YtpdnmhhieokogaaRead
import Derived.Test.YtpdnmhhieokogaaValid
namespace Go.Proofs.Ytpdnmhhieokogaa
open Go Go.RowKit Go.Proofs
set_option maxHeartbeats 400000
def wordB (x : List Int) : Bool := decide (x.length ≤ 400) && x.all fun z => inB z 0 9
theorem isLetters_c (v : Value) (x : List Int) (w : World) (h : Ints w v x) :
    Calls Try.prog 84 #[v] w fun e w' => e = .returned (.bool (x.all fun z => inB z 0 9)) ∧ w = w' := by
  go_enter Try.func84, Try.ntmps84
  go_wp2_with fail
  refine (allWithin_c _ _ _ _ _ h).mono ?_
  rintro e w' ⟨rfl, rfl⟩
  go_wp2
  go_ret
  exact ⟨rfl, rfl⟩
theorem IsWord_c (v : Value) (x : List Int) (w : World) (h : Ints w v x) :
    Calls Try.prog 74 #[v] w fun e w' => e = .returned (.bool (wordB x)) ∧ w = w' := by
  obtain ⟨A, c, rfl, _, _⟩ := h.form
  by_cases hl : x.length ≤ 400
  · have H : wordB x = x.all fun z => inB z 0 9 := by simp [wordB, hl]
    rw [H]
    have hd : decide (x.length ≤ 400) = true := by simp [hl]
    go_enter Try.func74, Try.ntmps74
    go_wp2_with fail
    refine (isLetters_c _ _ _ h).mono ?_
    rintro e w' ⟨rfl, rfl⟩
    go_wp2
    go_ret
    exact ⟨rfl, rfl⟩
  · have H : wordB x = false := by simp [wordB, hl]
    rw [H]
    have hd : decide (x.length ≤ 400) = false := by simp [hl]
    go_enter Try.func74, Try.ntmps74
    go_wp2
    go_ret
    exact ⟨rfl, rfl⟩
theorem words1_c (v : Value) (x : List Int) (w : World) (h : Ints w v x) :
    Calls Try.prog 73 #[v] w fun e w' => e = .returned (.bool (!wordB x)) ∧ w = w' := by
  go_enter Try.func73, Try.ntmps73
  go_wp2_with fail
  refine (IsWord_c _ _ _ h).mono ?_
  rintro e w' ⟨rfl, rfl⟩
  go_wp2
  go_ret
  exact ⟨rfl, rfl⟩
def wordsTo (xss : List (List Int)) (k : Nat) : Prop := (xss.take k).all wordB = true
theorem wordsTo_step {xss : List (List Int)} {k : Nat} (h : wordsTo xss k) (hk : k < xss.length) (he : wordB xss[k] = true) : wordsTo xss (k + 1) := by
  unfold wordsTo at *
  rw [List.take_succ_eq_append_getElem hk, List.all_append, h]
  simp [he]
theorem wordsTo_end {xss : List (List Int)} {k : Nat} (h : wordsTo xss k) (hk : xss.length ≤ k) : xss.all wordB = true := by
  unfold wordsTo at h
  rwa [List.take_of_length_le hk] at h
theorem words_no {xss : List (List Int)} {k : Nat} (hk : k < xss.length) (he : wordB xss[k] = false) : xss.all wordB = false := by
  rw [List.all_eq_false]
  exact ⟨xss[k], List.getElem_mem hk, by simp [he]⟩
theorem indexWord_c (u : Value) (xss : List (List Int)) (w : World) (hu : IntRows w u xss) :
    Calls Try.prog 83 #[u, .func (.func 73) #[] #[]] w fun e w' => (∃ k : Int, e = .returned (.int .i64 k) ∧ decide (0 ≤ k) = !xss.all wordB) ∧ Ext w w' := by
  obtain ⟨A, c, rfl, h5, h5'⟩ := hu.form
  go_enter Try.func83, Try.ntmps83
  go_wp2
  go_loopw [8] (fun i wr => ∃ k : Nat, k ≤ xss.length ∧ i = .int .i64 k ∧ Ext w wr ∧ wordsTo xss k) (fun i _ => xss.length - (intOf i).toNat)
  case atStart => exact ⟨0, Nat.zero_le _, rfl, Ext.refl _, rfl⟩
  case round =>
    obtain ⟨k, hk, rfl, hx, ht⟩ := hrel
    by_cases hlt : k < xss.length
    · obtain ⟨b', off, rfl, hc⟩ := hu.at hlt
      obtain ⟨A1, d1, c0, r0⟩ := hc k hlt
      have c0 := hx.cell c0
      clear hc
      go_wp2_with fail
      refine (words1_c _ _ _ (r0.ext hx)).mono ?_
      rintro e w2 ⟨rfl, rfl⟩
      cases he : wordB xss[k] with
      | false =>
        have HM := Lib.hid (words_no hlt he)
        clear he
        go_wp2
        go_ret
        exact ⟨⟨k, rfl, by simp [HM.out]⟩, hx⟩
      | true =>
        have HM := Lib.hid (wordsTo_step ht hlt he)
        clear he
        go_wp2
        go_roundw
        case rel => exact ⟨k + 1, by omega, by go_num, hx, HM.out⟩
        case measure => simp [intOf]; omega
    · go_wp2
      go_ret
      exact ⟨⟨-1, rfl, by simp [wordsTo_end ht (by omega)]⟩, hx⟩
theorem containsWord_c (u : Value) (xss : List (List Int)) (w : World) (hu : IntRows w u xss) :
    Calls Try.prog 72 #[u, .func (.func 73) #[] #[]] w fun e w' => e = .returned (.bool (!xss.all wordB)) ∧ Ext w w' := by
  go_enter Try.func72, Try.ntmps72
  go_wp2_with fail
  refine (indexWord_c u xss _ hu).mono ?_
  rintro e w2 ⟨⟨k, rfl, hk⟩, hx2⟩
  have HK := Lib.hid hk
  clear hk
  go_wp2
  go_ret
  exact ⟨by simp [← HK.out], hx2⟩
theorem areWords_c (u : Value) (xss : List (List Int)) (w : World) (hu : IntRows w u xss) :
    Calls Try.prog 58 #[u] w fun e w' => e = .returned (.bool (xss.all wordB)) ∧ Ext w w' := by
  go_enter Try.func58, Try.ntmps58
  go_wp2_with fail
  refine (containsWord_c u xss _ hu).mono ?_
  rintro e w2 ⟨rfl, hx2⟩
  go_wp2
  go_ret
  exact ⟨by simp, hx2⟩
def prfOk (p : ProofD) : Bool := inB p.k 1 8 && decide (p.ns.length ≤ 300) && decide (p.ws.length ≤ 300) && (p.ns.all fun z => inB z (-1000000000000) 1000000000000) && p.ws.all wordB
set_option maxHeartbeats 1000000 in
theorem ValidProof_c (v : Value) (p : ProofD) (w : World) (h : Prf w v p) :
    Calls Try.prog 32 #[v] w fun e w' => e = .returned (.bool (prfOk p)) ∧ Ext w w' := by
  obtain ⟨nv, wv, rfl, hn, hw⟩ := h
  obtain ⟨An, cn, rfl, _, _⟩ := hn.form
  obtain ⟨Aw, cw, rfl, _, _⟩ := hw.form
  have hx0 := Ext.alloc w (.cells #[.int .i64 p.k, .slice An p.ns.length cn, .slice Aw p.ws.length cw] 31)
  go_enter Try.func32, Try.ntmps32
  go_wp2_with fail
  refine (within_c _ _ _ _).mono ?_
  rintro e w' ⟨rfl, rfl⟩
  cases hk : inB p.k 1 8 with
  | false =>
    go_wp2
    go_ret
    exact ⟨by simp [prfOk, hk], hx0⟩
  | true =>
    have HK := Lib.hid hk
    clear hk
    by_cases h1 : p.ns.length ≤ 300
    · by_cases h2 : p.ws.length ≤ 300
      · have d1 : decide (300 < p.ns.length) = false := by simp; omega
        have d2 : decide (300 < p.ws.length) = false := by simp; omega
        go_wp2_with fail
        refine (allWithin_c _ _ _ _ _ (hn.ext hx0)).mono ?_
        rintro e w' ⟨rfl, rfl⟩
        cases ha : (p.ns.all fun z => inB z (-1000000000000) 1000000000000) with
        | false =>
          go_wp2
          go_ret
          exact ⟨by simp [prfOk, ha], hx0⟩
        | true =>
          have HA := Lib.hid ha
          clear ha
          go_wp2_with fail
          refine (areWords_c _ _ _ (hw.ext hx0)).mono ?_
          rintro e w2 ⟨rfl, hx2⟩
          go_wp2
          go_ret
          exact ⟨by simp [prfOk, HK.out, HA.out, h1, h2], hx0.trans hx2⟩
      · have d1 : decide (300 < p.ns.length) = false := by simp; omega
        have d2 : decide (300 < p.ws.length) = true := by simp; omega
        go_wp2
        go_ret
        exact ⟨by simp [prfOk, h2], hx0⟩
    · have d1 : decide (300 < p.ns.length) = true := by simp; omega
      go_wp2
      go_ret
      exact ⟨by simp [prfOk, h1], hx0⟩
end Go.Proofs.Ytpdnmhhieokogaa
