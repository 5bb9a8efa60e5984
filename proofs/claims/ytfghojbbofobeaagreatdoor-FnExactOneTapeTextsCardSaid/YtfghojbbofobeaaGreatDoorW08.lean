/- Contracts of the program's small functions on lists of numbers. Lists are short.
Contract of the program's list without zeros at its end.
The order of lists of numbers, and the library's comparison of two. -/
import Derived.Test.YtfghojbbofobeaaGreatDoorW07
import Derived.Test.YtfghojbbofobeaaGreatDoorW03
import Derived.Sort.Statements
section
set_option linter.unusedSimpArgs false
set_option linter.unusedVariables false
namespace Go.Proofs.YtfghojbbofobeaaGreatDoor
open Go Go.RowKit Go.Proofs
set_option maxHeartbeats 400000
theorem symbolAt_c (v : Value) (zs : List Int) (k : Nat) (w : World) (h : Ints w v zs) :
    Calls Tryz.prog 65 #[v, .int .i64 k] w fun e w' => e = .returned (.int .i64 (zs.getD k 0)) ∧ w = w' := by
  obtain ⟨A, c, rfl, h2, h2'⟩ := h.form
  by_cases hlt : k < zs.length
  · obtain ⟨b, off, rfl, hc⟩ := h.at hlt
    have c0 := hc k hlt
    have HR : Hid (zs.getD k 0 = zs[k]) := by unfold Hid; rw [List.getD_eq_getElem?_getD, List.getElem?_eq_getElem hlt]; rfl
    generalize zs[k] = z at *
    clear hc
    go_enter Tryz.func65, Tryz.ntmps65
    go_wp2
    go_ret
    exact ⟨by rw [HR.out]; rfl, rfl⟩
  · have HR : Hid (zs.getD k 0 = 0) := by unfold Hid; rw [List.getD_eq_getElem?_getD, List.getElem?_eq_none (by omega)]; rfl
    go_enter Tryz.func65, Tryz.ntmps65
    go_wp2
    go_ret
    exact ⟨by rw [HR.out]; rfl, rfl⟩
end Go.Proofs.YtfghojbbofobeaaGreatDoor
end
section
set_option linter.unusedSimpArgs false
set_option linter.unusedVariables false
namespace Go.Proofs.YtfghojbbofobeaaGreatDoor
open Go Go.RowKit Go.Proofs
set_option maxHeartbeats 400000
theorem OwnInts.take {base : Nat} {w : World} {A : Option Addr} {c : Nat} {zs : List Int} (h : OwnInts base w (.slice A zs.length c) zs) (k : Nat) (hk : k ≤ zs.length) (h0 : A ≠ none) : OwnInts base w (.slice A k c) (zs.take k) := by
  obtain ⟨h1, h2⟩ := h
  have hl : (zs.take k).length = k := by simp; omega
  refine ⟨by simp, ?_⟩
  rcases h2 with ⟨e, _⟩ | ⟨g, cap, cur, e, hb, hh, q1, q2, q3, q4⟩
  · injection e with e1 e2 e3
    exact absurd e1 h0
  · injection e with e1 e2 e3
    subst e1 e3
    refine .inr ⟨g, c, cur, by rw [hl], hb, hh, by omega, q2, q3, ?_⟩
    have : ivs (zs.take k) = (ivs zs).take k := by simp [ivs, List.map_take]
    rw [this, ← q4, List.take_take, hl]
    congr 1
    omega
set_option maxRecDepth 20000 in
theorem trimmed_c (v : Value) (zs : List Int) (w : World) (h : Ints w v zs) (hn : zs.length ≤ 1048576) :
    Calls Tryz.prog 66 #[v] w fun e w' => (∃ A c, v = .slice A zs.length c ∧ e = .returned (.slice A (trimN zs zs.length) c)) ∧ w = w' := by
  obtain ⟨A, c, rfl, h2, h2'⟩ := h.form
  go_enter Tryz.func66, Tryz.ntmps66
  go_wp2
  go_loopw [0] (fun u wr => ∃ k : Nat, k ≤ zs.length ∧ u = .slice A k c ∧ wr = w ∧ Hid (trimN zs k = trimN zs zs.length)) (fun u _ => match u with | .slice _ n _ => n | _ => 0)
  case atStart => exact ⟨zs.length, Nat.le_refl _, rfl, rfl, rfl⟩
  case round =>
    obtain ⟨k, hk, rfl, rfl, ht⟩ := hrel
    by_cases h0 : k = 0
    · subst h0
      have HR : Hid (trimN zs zs.length = 0) := by unfold Hid; rw [← ht.out]; rfl
      go_wp2
      go_ret
      exact ⟨⟨A, c, rfl, by rw [HR.out]; rfl⟩, rfl⟩
    · obtain ⟨j, rfl⟩ : ∃ j, k = j + 1 := ⟨k - 1, by omega⟩
      have hj : j < zs.length := by omega
      obtain ⟨b, off, rfl, hc⟩ := h.at hj
      have c0 := hc j hj
      have e0 : zs.getD j 0 = zs[j] := by rw [List.getD_eq_getElem?_getD, List.getElem?_eq_getElem hj]; rfl
      have i3 : ((((j + 1 : Nat) : Int) - 1)).toNat = j := by omega
      by_cases hz : zs[j] = 0
      · have HT : Hid (trimN zs j = trimN zs zs.length) := by unfold Hid; rw [← ht.out]; simp only [trimN]; rw [e0, if_pos hz]
        generalize zs[j] = z at *
        subst hz
        clear hc e0
        go_wp2
        go_roundw
        case rel => exact ⟨j, by omega, by first | rfl | go_num, by first | rfl | trivial, HT⟩
        case measure => first | (simp; done) | (simp; omega)
      · have HR : Hid (trimN zs zs.length = j + 1) := by unfold Hid; rw [← ht.out]; simp only [trimN]; rw [e0, if_neg hz]
        have hzb : (zs[j] == 0) = false := by simp [hz]
        generalize zs[j] = z at *
        clear hc e0 hz
        go_wp2
        go_ret
        exact ⟨⟨_, c, rfl, by rw [HR.out]; rfl⟩, rfl⟩
end Go.Proofs.YtfghojbbofobeaaGreatDoor
end
section
set_option linter.unusedSimpArgs false
set_option linter.unusedVariables false
set_option linter.unusedSectionVars false
set_option maxHeartbeats 4000000
namespace Go.Proofs.YtfghojbbofobeaaGreatDoor
open Go Go.RowKit Go.Proofs
/-- How two lists stand to one another. -/
def cmpL : List Int → List Int → Int
  | [], [] => 0
  | [], _ :: _ => -1
  | _ :: _, [] => 1
  | a :: s, b :: t => if a < b then -1 else if b < a then 1 else cmpL s t
theorem cmpL_self : ∀ xs : List Int, cmpL xs xs = 0
  | [] => rfl
  | a :: s => by
    unfold cmpL
    rw [if_neg (by omega), if_neg (by omega)]
    exact cmpL_self s
theorem cmpL_trans : ∀ xs ys zs : List Int, cmpL xs ys < 0 → cmpL ys zs < 0 → cmpL xs zs < 0
  | [], [], _, h, _ => by simp [cmpL] at h
  | [], _ :: _, [], _, h => by simp [cmpL] at h
  | [], _ :: _, _ :: _, _, _ => by simp [cmpL]
  | _ :: _, [], _, h, _ => by simp [cmpL] at h
  | _ :: _, _ :: _, [], _, h => by simp [cmpL] at h
  | a :: s, b :: t, c :: u, h1, h2 => by
    have ih := cmpL_trans s t u
    unfold cmpL at h1 h2 ⊢
    split at h1
    · split at h2
      · rw [if_pos (by omega)]; decide
      · split at h2
        · omega
        · rw [if_pos (by omega)]; decide
    · split at h1
      · omega
      · split at h2
        · rw [if_pos (by omega)]; decide
        · split at h2
          · omega
          · rw [if_neg (by omega), if_neg (by omega)]
            exact ih h1 h2
theorem cmpL_ntrans : ∀ xs ys zs : List Int, ¬ cmpL xs ys < 0 → ¬ cmpL ys zs < 0 → ¬ cmpL xs zs < 0
  | [], [], _, _, h => h
  | [], _ :: _, _, h, _ => by simp [cmpL] at h
  | _ :: _, _, [], _, _ => by simp [cmpL]
  | _ :: _, [], _ :: _, _, h => by simp [cmpL] at h
  | a :: s, b :: t, c :: u, h1, h2 => by
    have ih := cmpL_ntrans s t u
    unfold cmpL at h1 h2 ⊢
    split at h1
    · simp at h1
    · split at h2
      · simp at h2
      · rw [if_neg (by omega)]
        split
        · simp
        · rename_i n1 n2 n3
          have e1 : ¬ b < a := by omega
          have e2 : ¬ c < b := by omega
          rw [if_neg e1] at h1
          rw [if_neg e2] at h2
          exact ih h1 h2
theorem cmpL_drop {xs ys : List Int} {k : Nat} (h1 : k < xs.length) (h2 : k < ys.length) : cmpL (xs.drop k) (ys.drop k) = if xs[k] < ys[k] then -1 else if ys[k] < xs[k] then 1 else cmpL (xs.drop (k + 1)) (ys.drop (k + 1)) := by
  rw [List.drop_eq_getElem_cons h1, List.drop_eq_getElem_cons h2]
  rfl
theorem cmpL_out {xs ys : List Int} {k : Nat} (h1 : k < xs.length) (h2 : ys.length ≤ k) : cmpL (xs.drop k) (ys.drop k) = 1 := by
  rw [List.drop_eq_getElem_cons h1, List.drop_eq_nil_of_le h2]
  rfl
theorem cmpL_end {xs ys : List Int} {k : Nat} (h1 : xs.length ≤ k) : cmpL (xs.drop k) (ys.drop k) = if k < ys.length then -1 else 0 := by
  rw [List.drop_eq_nil_of_le h1]
  split
  · rename_i h
    rw [List.drop_eq_getElem_cons h]
    rfl
  · rename_i h
    rw [List.drop_eq_nil_of_le (by omega)]
    rfl
theorem isNaNI_c (x : Int) (w : World) : Calls Tryz.prog 143 #[.int .i64 x] w fun e w' => e = .returned (.bool false) ∧ w = w' := by
  go_enter Tryz.func143, Tryz.ntmps143
  go_wp2
  go_ret
  exact ⟨by simp, rfl⟩
def cmpI (x y : Int) : Int := if x < y then -1 else if y < x then 1 else 0
theorem cmpCompareI_c (x y : Int) (w : World) : Calls Tryz.prog 124 #[.int .i64 x, .int .i64 y] w fun e w' => e = .returned (.int .i64 (cmpI x y)) ∧ w = w' := by
  by_cases h1 : x < y
  · go_enter Tryz.func124, Tryz.ntmps124
    go_wp2_with (go_at_call 143; refine (isNaNI_c _ _).mono ?_; rintro e w' ⟨rfl, rfl⟩)
    go_ret
    exact ⟨by unfold cmpI; rw [if_pos (by omega)]; rfl, rfl⟩
  · by_cases h2 : y < x
    · go_enter Tryz.func124, Tryz.ntmps124
      go_wp2_with (go_at_call 143; refine (isNaNI_c _ _).mono ?_; rintro e w' ⟨rfl, rfl⟩)
      go_ret
      exact ⟨by unfold cmpI; rw [if_neg (by omega), if_pos (by omega)]; rfl, rfl⟩
    · go_enter Tryz.func124, Tryz.ntmps124
      go_wp2_with (go_at_call 143; refine (isNaNI_c _ _).mono ?_; rintro e w' ⟨rfl, rfl⟩)
      go_ret
      exact ⟨by unfold cmpI; rw [if_neg (by omega), if_neg (by omega)]; rfl, rfl⟩
theorem slicesCompare_c (w : World) (u v : Value) (xs ys : List Int) (ha : Ints w u xs) (hb : Ints w v ys) :
    Calls Tryz.prog 97 #[u, v] w fun e w' => e = .returned (.int .i64 (cmpL xs ys)) ∧ w = w' := by
  obtain ⟨A, c, rfl, g1, g2⟩ := ha.form
  obtain ⟨B, d, rfl, g3, g4⟩ := hb.form
  go_enter Tryz.func97, Tryz.ntmps97
  go_wp2
  go_loopw [11] (fun i wr => ∃ k : Nat, k ≤ xs.length ∧ k ≤ ys.length ∧ i = .int .i64 k ∧ Hid (cmpL xs ys = cmpL (xs.drop k) (ys.drop k)) ∧ w = wr) (fun i _ => xs.length - (intOf i).toNat)
  case atStart => exact ⟨0, Nat.zero_le _, Nat.zero_le _, rfl, Lib.hid rfl, rfl⟩
  case round =>
    obtain ⟨k, hk1, hk2, rfl, hq, rfl⟩ := hrel
    by_cases h1 : k < xs.length
    · obtain ⟨b, off, rfl, hc⟩ := ha.at h1
      have c0 := hc k h1
      clear hc
      by_cases h2 : k < ys.length
      · obtain ⟨b', off', rfl, hd⟩ := hb.at h2
        have d0 := hd k h2
        clear hd
        have HN := Lib.hid (cmpL_drop h1 h2)
        generalize xs[k] = x at *
        generalize ys[k] = y at *
        have hcmp := fun W => cmpCompareI_c x y W
        by_cases e1 : x < y
        · have e2 : cmpI x y = -1 := if_pos e1
          rw [e2] at hcmp
          go_wp2_with (go_at_call 124; refine (hcmp _).mono ?_; rintro e w' ⟨rfl, rfl⟩)
          go_ret
          exact ⟨by rw [hq.out, HN.out, if_pos (by omega)]; rfl, rfl⟩
        · by_cases e3 : y < x
          · have e2 : cmpI x y = 1 := by unfold cmpI; rw [if_neg (by omega), if_pos (by omega)]
            rw [e2] at hcmp
            go_wp2_with (go_at_call 124; refine (hcmp _).mono ?_; rintro e w' ⟨rfl, rfl⟩)
            go_ret
            exact ⟨by rw [hq.out, HN.out, if_neg (by omega), if_pos (by omega)]; rfl, rfl⟩
          · have e2 : cmpI x y = 0 := by unfold cmpI; rw [if_neg (by omega), if_neg (by omega)]
            rw [e2] at hcmp
            have HQ : Hid (cmpL xs ys = cmpL (xs.drop (k + 1)) (ys.drop (k + 1))) := Lib.hid (by rw [hq.out, HN.out, if_neg (by omega), if_neg (by omega)])
            go_wp2_with (go_at_call 124; refine (hcmp _).mono ?_; rintro e w' ⟨rfl, rfl⟩)
            go_roundw
            case rel => exact ⟨k + 1, by omega, by omega, by go_num, HQ, by first | rfl | trivial⟩
            case measure => simp [intOf]; omega
      · have HN := Lib.hid (cmpL_out h1 (Nat.le_of_not_lt h2))
        have i2 : (ys.length : Int) ≤ (k : Int) := by omega
        go_wp2
        go_ret
        exact ⟨by rw [hq.out, HN.out]; rfl, rfl⟩
    · have HN := Lib.hid (cmpL_end (ys := ys) (Nat.le_of_not_lt h1))
      by_cases h2 : k < ys.length
      · have i1 : (xs.length : Int) < (ys.length : Int) := by omega
        go_wp2
        go_ret
        exact ⟨by rw [hq.out, HN.out, if_pos (by omega)]; rfl, rfl⟩
      · have i1 : ¬ (xs.length : Int) < (ys.length : Int) := by omega
        go_wp2
        go_ret
        exact ⟨by rw [hq.out, HN.out, if_neg (by omega)]; rfl, rfl⟩
end Go.Proofs.YtfghojbbofobeaaGreatDoor
end
