/- Contracts of the tests on lists of numbers, the program's and the reference's. -/
import Derived.Test.YtdkdmcaehinkhaaDoorSeg3
namespace Go.Proofs.YtdkdmcaehinkhaaDoor
open Go Go.RowKit Go.Proofs
set_option maxHeartbeats 400000
theorem l00Same_c (w : World) (u v : Value) (xs ys : List Int) (ha : Ints w u xs) (hb : Ints w v ys) :
    Calls Tryd.prog 72 #[u, v] w fun e w' => e = .returned (.bool (lEq xs ys)) ∧ Ext w w' := by
  obtain ⟨A, ca, rfl, h1, h1'⟩ := ha.form
  obtain ⟨B, cb, rfl, h2, h2'⟩ := hb.form
  by_cases hl : xs.length = ys.length
  · have hl1 : ((xs.length : Int) != (ys.length : Int)) = false := by simp [hl]
    have hlle : xs.length ≤ ys.length := by omega
    have hlge : ys.length ≤ xs.length := by omega
    clear hl
    go_enter Tryd.func72, Tryd.ntmps72
    go_wp2
    go_loopw [5] (fun i wr => ∃ k : Nat, k ≤ xs.length ∧ i = .int .i64 k ∧ Ext w wr ∧ takeEq xs ys k) (fun i _ => xs.length - (intOf i).toNat)
    case atStart => exact ⟨0, Nat.zero_le _, rfl, Ext.refl _, rfl⟩
    case round =>
      obtain ⟨k, hk, rfl, hx, ht⟩ := hrel
      by_cases hlt : k < xs.length
      · obtain ⟨b, off, rfl, hc⟩ := ha.at hlt
        obtain ⟨b', off', rfl, hc'⟩ := hb.at (k := k) (by omega)
        have c0 := hx.cell (hc k hlt)
        have c0' := hx.cell (hc' k (by omega))
        clear hc hc' ha hb
        by_cases he : xs[k] = ys[k]
        · have H : (xs[k] != ys[k]) = false := by simp [he]
          have he' := Lib.hid he
          clear he
          go_wp2
          go_quiet (fail)
          go_wp2
          go_roundw
          case rel => exact ⟨k + 1, by omega, by go_num, hx.trans (Ext.drewN _ _), takeEq_step ht hlt (by omega) he'.out⟩
          case measure => simp [intOf]; omega
        · have H : (xs[k] != ys[k]) = true := by simp [he]
          go_wp2
          go_quiet (fail)
          go_wp2
          go_ret
          exact ⟨by simp [lEq_false (ne_of_get hlt (by omega) he)], hx.trans (Ext.drewN _ _)⟩
      · go_wp2
        go_ret
        exact ⟨by simp [lEq_true (eq_of_takeEq ht (by omega) (by omega))], hx⟩
  · have hl1 : ((xs.length : Int) != (ys.length : Int)) = true := by simp; omega
    go_enter Tryd.func72, Tryd.ntmps72
    go_wp2
    go_ret
    exact ⟨by simp [lEq_false (show ¬ xs = ys from fun h => hl (by rw [h]))], Ext.refl _⟩
theorem slicesEqual_c (w : World) (u v : Value) (xs ys : List Int) (ha : Ints w u xs) (hb : Ints w v ys) :
    Calls Tryd.prog 65 #[u, v] w fun e w' => e = .returned (.bool (lEq xs ys)) ∧ Ext w w' := by
  obtain ⟨A, ca, rfl, h1, h1'⟩ := ha.form
  obtain ⟨B, cb, rfl, h2, h2'⟩ := hb.form
  by_cases hl : xs.length = ys.length
  · have hl1 : ((xs.length : Int) != (ys.length : Int)) = false := by simp [hl]
    have hlle : xs.length ≤ ys.length := by omega
    have hlge : ys.length ≤ xs.length := by omega
    clear hl
    go_enter Tryd.func65, Tryd.ntmps65
    go_wp2
    go_loopw [13] (fun i wr => ∃ k : Nat, k ≤ xs.length ∧ i = .int .i64 k ∧ Ext w wr ∧ takeEq xs ys k) (fun i _ => xs.length - (intOf i).toNat)
    case atStart => exact ⟨0, Nat.zero_le _, rfl, Ext.refl _, rfl⟩
    case round =>
      obtain ⟨k, hk, rfl, hx, ht⟩ := hrel
      by_cases hlt : k < xs.length
      · obtain ⟨b, off, rfl, hc⟩ := ha.at hlt
        obtain ⟨b', off', rfl, hc'⟩ := hb.at (k := k) (by omega)
        have c0 := hx.cell (hc k hlt)
        have c0' := hx.cell (hc' k (by omega))
        clear hc hc' ha hb
        by_cases he : xs[k] = ys[k]
        · have H : (xs[k] != ys[k]) = false := by simp [he]
          have he' := Lib.hid he
          clear he
          go_wp2
          go_quiet (fail)
          go_wp2
          go_roundw
          case rel => exact ⟨k + 1, by omega, by go_num, hx.trans (Ext.drewN _ _), takeEq_step ht hlt (by omega) he'.out⟩
          case measure => simp [intOf]; omega
        · have H : (xs[k] != ys[k]) = true := by simp [he]
          go_wp2
          go_quiet (fail)
          go_wp2
          go_ret
          exact ⟨by simp [lEq_false (ne_of_get hlt (by omega) he)], hx.trans (Ext.drewN _ _)⟩
      · go_wp2
        go_ret
        exact ⟨by simp [lEq_true (eq_of_takeEq ht (by omega) (by omega))], hx⟩
  · have hl1 : ((xs.length : Int) != (ys.length : Int)) = true := by simp; omega
    go_enter Tryd.func65, Tryd.ntmps65
    go_wp2
    go_ret
    exact ⟨by simp [lEq_false (show ¬ xs = ys from fun h => hl (by rw [h]))], Ext.refl _⟩

def notIn (w : List Int) (xss : List (List Int)) (k : Nat) : Prop := ∀ x ∈ xss.take k, ¬ x = w
theorem notIn_step {w : List Int} {xss : List (List Int)} {k : Nat} (h : notIn w xss k) (hk : k < xss.length) (he : ¬ xss[k] = w) : notIn w xss (k + 1) := by
  unfold notIn at *
  rw [List.take_succ_eq_append_getElem hk]
  intro x hx
  rcases List.mem_append.1 hx with h1 | h1
  · exact h x h1
  · simp at h1; subst h1; exact he
theorem notIn_end {w : List Int} {xss : List (List Int)} {k : Nat} (h : notIn w xss k) (hk : xss.length ≤ k) : ¬ w ∈ xss := by
  intro hm
  exact h w (by rwa [List.take_of_length_le hk]) rfl
theorem l10Row_c (w : World) (u v : Value) (xss : List (List Int)) (ys : List Int) (ha : IntRows w u xss) (hb : Ints w v ys) :
    Calls Tryd.prog 51 #[u, v] w fun e w' => (∃ k : Int, e = .returned (.int .i64 k) ∧ decide (k < 0) = !decide (ys ∈ xss)) ∧ Ext w w' := by
  obtain ⟨A, ca, rfl, h1, h1'⟩ := ha.form
  obtain ⟨B, cb, rfl, h2, h2'⟩ := hb.form
  go_enter Tryd.func51, Tryd.ntmps51
  go_wp2
  go_loopw [5] (fun i wr => ∃ k : Nat, k ≤ xss.length ∧ i = .int .i64 k ∧ Ext w wr ∧ notIn ys xss k) (fun i _ => xss.length - (intOf i).toNat)
  case atStart => exact ⟨0, Nat.zero_le _, rfl, Ext.refl _, fun x hx => by simp at hx⟩
  case round =>
    obtain ⟨k, hk, rfl, hx, ht⟩ := hrel
    by_cases hlt : k < xss.length
    · obtain ⟨b, off, rfl, hc⟩ := ha.at hlt
      obtain ⟨A1, d1, c0, r0⟩ := hc k hlt
      have c0 := hx.cell c0
      clear hc
      go_wp2_with fail
      refine (l00Same_c _ _ _ _ _ (r0.ext hx) (hb.ext hx)).mono ?_
      rintro e w2 ⟨rfl, hx2⟩
      by_cases he : xss[k] = ys
      · have H : lEq xss[k] ys = true := lEq_true he
        have hm : ys ∈ xss := he ▸ List.getElem_mem hlt
        have HM := Lib.hid hm
        clear he hm
        go_wp2
        go_ret
        exact ⟨⟨k, rfl, by simp [HM.out]⟩, hx.trans hx2⟩
      · have H : lEq xss[k] ys = false := lEq_false he
        go_wp2
        go_roundw
        case rel => exact ⟨k + 1, by omega, by go_num, hx.trans hx2, notIn_step ht hlt he⟩
        case measure => simp [intOf]; omega
    · go_wp2
      go_ret
      exact ⟨⟨-1, rfl, by simp [notIn_end ht (by omega)]⟩, hx⟩
def allTo (p : Int → Bool) (zs : List Int) (k : Nat) : Prop := (zs.take k).all p = true
theorem allTo_step {p : Int → Bool} {zs : List Int} {k : Nat} (h : allTo p zs k) (hk : k < zs.length) (he : p zs[k] = true) : allTo p zs (k + 1) := by
  unfold allTo at *
  rw [List.take_succ_eq_append_getElem hk, List.all_append, h]; simp [he]
theorem allTo_end {p : Int → Bool} {zs : List Int} {k : Nat} (h : allTo p zs k) (hk : zs.length ≤ k) : zs.all p = true := by
  unfold allTo at h
  rwa [List.take_of_length_le hk] at h
theorem all_no {p : Int → Bool} {zs : List Int} {k : Nat} (hk : k < zs.length) (he : p zs[k] = false) : zs.all p = false := by
  rw [List.all_eq_false]
  exact ⟨zs[k], List.getElem_mem hk, by simp [he]⟩
theorem allWithin_c (v : Value) (zs : List Int) (lo hi : Int) (w : World) (h : Ints w v zs) :
    Calls Tryd.prog 79 #[v, .int .i64 lo, .int .i64 hi] w fun e w' => e = .returned (.bool (zs.all fun z => inB z lo hi)) ∧ w = w' := by
  obtain ⟨A, c, rfl, h1, h2⟩ := h.form
  go_enter Tryd.func79, Tryd.ntmps79
  go_wp2
  go_loop [11] (fun i => ∃ k : Nat, k ≤ zs.length ∧ i = .int .i64 k ∧ allTo (fun z => inB z lo hi) zs k) (fun i => zs.length - (intOf i).toNat)
  case atStart => exact ⟨0, Nat.zero_le _, rfl, rfl⟩
  case round =>
    obtain ⟨k, hk, rfl, ht⟩ := hrel
    by_cases hlt : k < zs.length
    · obtain ⟨b, off, rfl, hc⟩ := h.at hlt
      have c0 := hc k hlt
      clear hc
      cases he : inB zs[k] lo hi
      · go_wp2_with (go_at_call 53; refine (within_c _ _ _ _).mono ?_; rintro e w' ⟨rfl, rfl⟩)
        go_ret
        exact ⟨by simp [all_no (p := fun z => inB z lo hi) hlt he], rfl⟩
      · go_wp2_with (go_at_call 53; refine (within_c _ _ _ _).mono ?_; rintro e w' ⟨rfl, rfl⟩)
        go_round
        case rel => exact ⟨k + 1, by omega, by go_num, allTo_step (p := fun z => inB z lo hi) ht hlt he⟩
        case measure => simp [intOf]; omega
    · go_wp2
      go_ret
      exact ⟨by simp [allTo_end ht (by omega)], rfl⟩
/-- May a node begin: by the program. -/
def mayB (x : List Int) : Bool := decide (x.getD 1 0 ≤ 0) && (x.drop 2).all fun z => inB z (-1) 0
/-- May a node begin: by the reference. -/
def mayS (x : List Int) : Bool := decide (x.getD 1 0 ≤ 0) && (x.drop 2).all fun z => decide (z ≤ 0)
theorem Ints.drop {w : World} {b off c : Nat} {zs : List Int} (h : Ints w (.slice (some ⟨b, off, none⟩) zs.length c) zs) (k : Nat) (hk : k ≤ zs.length) : Ints w (.slice (some ⟨b, off + k, none⟩) (zs.length - k) (c - k)) (zs.drop k) := by
  obtain ⟨A, c', hv, h1, h2, h3, h4⟩ := h
  injection hv with e1 e2 e3
  subst e1 e3
  refine ⟨_, _, by rw [List.length_drop], by rw [List.length_drop]; omega, by omega, by simp, fun hn => ⟨b, off + k, rfl, fun j hj => ?_⟩⟩
  rw [List.length_drop] at hn
  obtain ⟨b', off', e, hc⟩ := h4 (by omega)
  injection e with e
  injection e with e5 e6 e7
  subst e5 e6
  simp only [ivs_length, List.length_drop] at hj
  rw [Nat.add_assoc, hc (k + j) (by simp; omega), ivs_get zs (k + j) (by omega), ivs_get (zs.drop k) j (by simp; omega)]
  simp
theorem mayBegin_c (v : Value) (x : List Int) (w : World) (h : Ints w v x) (hl : 3 ≤ x.length) :
    Calls Tryd.prog 60 #[v] w fun e w' => e = .returned (.bool (mayB x)) ∧ w = w' := by
  obtain ⟨A, c, rfl, h1, h2⟩ := h.form
  obtain ⟨b, off, rfl, hc⟩ := h.at (k := 1) (by omega)
  have c0 := hc 1 (by omega)
  have hd := h.drop 2 (by omega)
  have e1 : x.getD 1 0 = x[1] := by rw [List.getD_eq_getElem?_getD, List.getElem?_eq_getElem (by omega)]; rfl
  have hM : Hid (mayB x = (decide (x[1] ≤ 0) && (x.drop 2).all fun z => inB z (-1) 0)) := by unfold Hid mayB; rw [e1]
  clear hc e1
  have hcc : ¬ c = 2 := by omega
  have hc2 : (2 : Int) ≤ (c : Int) := by omega
  have hl2 : (2 : Int) ≤ (x.length : Int) := by omega
  by_cases hx : x[1] ≤ 0
  · have HX : decide (x[1] ≤ 0) = true := by simp [hx]
    go_enter Tryd.func60, Tryd.ntmps60
    go_wp2_with (go_at_call 79; ((with_reducible refine (allWithin_c _ _ _ _ _ hd).mono ?_)); rintro e w' ⟨rfl, rfl⟩)
    go_ret
    exact ⟨by rw [hM.out, HX]; rfl, rfl⟩
  · have HX : decide (x[1] ≤ 0) = false := by simp; omega
    go_enter Tryd.func60, Tryd.ntmps60
    go_wp2
    go_ret
    exact ⟨by rw [hM.out, HX]; rfl, rfl⟩
end Go.Proofs.YtdkdmcaehinkhaaDoor
