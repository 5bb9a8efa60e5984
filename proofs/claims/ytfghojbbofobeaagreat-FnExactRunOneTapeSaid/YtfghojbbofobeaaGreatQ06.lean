/- Contracts of the reference's small functions on lists of numbers and on configurations. Lists are short.
Contracts of the program's small functions on lists of numbers. Lists are short.
Contract of the program's list without zeros at its end. -/
import Derived.Test.YtfghojbbofobeaaGreatQ05
import Derived.Maps.AppendAt
section
namespace Go.Proofs.YtfghojbbofobeaaGreat
open Go Go.RowKit Go.Proofs
set_option maxHeartbeats 400000
theorem l00Has_c (v : Value) (zs : List Int) (n : Int) (w : World) (h : Ints w v zs) :
    Calls Tryz.prog 124 #[v, .int .i64 n] w fun e w' => e = .returned (.bool (decide (n ∈ zs))) ∧ w = w' := by
  obtain ⟨A, c, rfl, h2, h2'⟩ := h.form
  go_enter Tryz.func124, Tryz.ntmps124
  go_wp2
  go_loopw [5] (fun i wr => ∃ k : Nat, k ≤ zs.length ∧ i = .int .i64 k ∧ wr = w ∧ Hid (n ∉ zs.take k)) (fun i _ => zs.length - (intOf i).toNat)
  case atStart => exact ⟨0, Nat.zero_le _, rfl, rfl, by unfold Hid; simp⟩
  case round =>
    obtain ⟨k, hk, rfl, rfl, hno⟩ := hrel
    by_cases hlt : k < zs.length
    · obtain ⟨b, off, rfl, hc⟩ := h.at hlt
      have c0 := hc k hlt
      have HT := Lib.hid (List.take_succ_eq_append_getElem hlt)
      have HM := Lib.hid (List.getElem_mem hlt)
      generalize zs[k] = z at *
      clear hc
      by_cases he : z = n
      · subst he
        have HR : Hid (decide (z ∈ zs) = true) := by unfold Hid; simp [HM.out]
        go_wp2
        go_ret
        exact ⟨by rw [HR.out]; rfl, rfl⟩
      · have hb : (z == n) = false := by simp [he]
        go_wp2
        go_roundw
        case rel =>
          refine ⟨k + 1, by omega, by go_num, by first | rfl | trivial, ?_⟩
          unfold Hid
          rw [HT.out]
          intro hm
          rcases List.mem_append.1 hm with h' | h'
          · exact hno.out h'
          · simp at h'; exact he h'.symm
        case measure => simp [intOf]; omega
    · have HR : Hid (decide (n ∈ zs) = false) := by
        unfold Hid
        have := hno.out
        rw [List.take_of_length_le (by omega)] at this
        simp [this]
      go_wp2
      go_ret
      exact ⟨by rw [HR.out]; rfl, rfl⟩
theorem rev_snoc (zs : List Int) (k : Nat) (h : k < zs.length) : (zs.drop k).reverse = (zs.drop (k + 1)).reverse ++ [zs[k]] := by
  rw [List.drop_eq_getElem_cons h, List.reverse_cons]
set_option maxRecDepth 20000 in
set_option maxHeartbeats 1000000 in
theorem l03Reverse_c (v : Value) (zs : List Int) (w : World) (h : Ints w v zs) (hn : zs.length ≤ 1048576) :
    Calls Tryz.prog 91 #[v] w fun e w' => ∃ u, e = .returned u ∧ OwnInts w.heap.size w' u zs.reverse ∧ Ext w w' := by
  obtain ⟨A, c, rfl, h2, h2'⟩ := h.form
  obtain ⟨i0, hi, hz0, hz1, hz2⟩ := info_parts intInfo
  have hown0 : (w.alloc (.cells #[] 2)).ownsRow w.heap.size 2 1 (.slice (some ⟨w.heap.size, 0, none⟩) 0 0) 0 [] :=
    World.ownsRow_made (base := w.heap.size) (e := 2) (size := 1) w #[] 0 (Nat.le_refl _) (by unfold maxLen; omega) (by simp)
  go_enter Tryz.func91, Tryz.ntmps91
  go_wp2
  go_loopw [3, 4] (fun u i wr => ∃ (k : Nat), k ≤ zs.length ∧ i = .int .i64 ((k : Int) - 1) ∧ OwnInts w.heap.size wr u (zs.drop k).reverse ∧ Ext w wr) (fun _ i _ => ((intOf i) + 1).toNat)
  case atStart => exact ⟨zs.length, Nat.le_refl _, rfl, by simpa [OwnInts, ivs] using hown0, Ext.alloc _ _⟩
  case round =>
    obtain ⟨k, hk, rfl, ho, hx⟩ := hrel
    by_cases h0 : k = 0
    · subst h0
      have hd : decide (((0 : Nat) : Int) - 1 ≥ 0) = false := by decide
      obtain ⟨Au, cu, rfl, _, _⟩ := ho.ints.form
      go_wp2
      go_ret
      exact ⟨_, rfl, by simpa using ho, hx⟩
    · obtain ⟨j, rfl⟩ : ∃ j, k = j + 1 := ⟨k - 1, by omega⟩
      have hj : j < zs.length := by omega
      have e1 : (((j + 1 : Nat) : Int) - 1) = (j : Int) := by omega
      rw [e1]
      obtain ⟨b, off, rfl, hc⟩ := (h.ext hx).at hj
      have c0 := hc j hj
      have HR := Lib.hid (rev_snoc zs j hj)
      have hl : (zs.drop (j + 1)).reverse.length ≤ 1048576 := by simp; omega
      generalize zs[j] = z at *
      generalize (zs.drop (j + 1)).reverse = ys at *
      clear hc
      obtain ⟨Au, cu, rfl, _, _⟩ := ho.ints.form
      have ho1 : wr.ownsRow w.heap.size 2 1 (.slice Au ys.length cu) ys.length (ivs ys) := ho
      have ho' := ho1.alloc (.cells #[.int .i64 z] 2)
      have hs := hx.size
      go_wp2_with (at_builtin; refine wpList_append_own_at _ rfl _ _ 46 rfl w.heap.size 2 i0 (.int .i64 0) 1 8 Tryz.underlying46 hi hz0 hz1 hz2 rfl (by decide) _ _ _ rfl ho' ⟨wr.heap.size, 0, none⟩ 1 1 [.int .i64 z] rfl rfl (cell_one_new _ _ _) ?c2 ?c3 ?c4 ?c5 ?_)
      case c2 => intro u hu; simp at hu; subst hu; rfl
      case c3 => unfold maxLen; omega
      case c4 => omega
      case c5 => simp; omega
      intro v' w4 hown4 hg4 _ hloc
      obtain ⟨A', c', rfl, _, _, _⟩ := (ownsRow_row hown4).form
      have hx4 : Ext w w4 := (hx.trans (Ext.alloc _ _)).grown hg4 (fun k hk => (ho'.lt k hk).1)
      go_wp2
      go_roundw
      case rel => exact ⟨j, by omega, by go_num, by rw [HR.out]; simpa [OwnInts, ivs_append, ivs] using hown4, hx4⟩
      case measure => first | (simp [intOf]; done) | (simp [intOf]; omega)
theorem l13Cell_c (v : Value) (zs : List Int) (k : Nat) (w : World) (h : Ints w v zs) :
    Calls Tryz.prog 84 #[v, .int .i64 k] w fun e w' => e = .returned (.int .i64 (zs.getD k 0)) ∧ w = w' := by
  obtain ⟨A, c, rfl, h2, h2'⟩ := h.form
  by_cases hlt : k < zs.length
  · obtain ⟨b, off, rfl, hc⟩ := h.at hlt
    have c0 := hc k hlt
    have HR : Hid (zs.getD k 0 = zs[k]) := by unfold Hid; rw [List.getD_eq_getElem?_getD, List.getElem?_eq_getElem hlt]; rfl
    generalize zs[k] = z at *
    clear hc
    go_enter Tryz.func84, Tryz.ntmps84
    go_wp2
    go_ret
    exact ⟨by rw [HR.out]; rfl, rfl⟩
  · have HR : Hid (zs.getD k 0 = 0) := by unfold Hid; rw [List.getD_eq_getElem?_getD, List.getElem?_eq_none (by omega)]; rfl
    go_enter Tryz.func84, Tryz.ntmps84
    go_wp2
    go_ret
    exact ⟨by rw [HR.out]; rfl, rfl⟩
end Go.Proofs.YtfghojbbofobeaaGreat
end
section
set_option linter.unusedSimpArgs false
set_option linter.unusedVariables false
namespace Go.Proofs.YtfghojbbofobeaaGreat
open Go Go.RowKit Go.Proofs
set_option maxHeartbeats 400000
theorem symbolAt_c (v : Value) (zs : List Int) (k : Nat) (w : World) (h : Ints w v zs) :
    Calls Tryz.prog 64 #[v, .int .i64 k] w fun e w' => e = .returned (.int .i64 (zs.getD k 0)) ∧ w = w' := by
  obtain ⟨A, c, rfl, h2, h2'⟩ := h.form
  by_cases hlt : k < zs.length
  · obtain ⟨b, off, rfl, hc⟩ := h.at hlt
    have c0 := hc k hlt
    have HR : Hid (zs.getD k 0 = zs[k]) := by unfold Hid; rw [List.getD_eq_getElem?_getD, List.getElem?_eq_getElem hlt]; rfl
    generalize zs[k] = z at *
    clear hc
    go_enter Tryz.func64, Tryz.ntmps64
    go_wp2
    go_ret
    exact ⟨by rw [HR.out]; rfl, rfl⟩
  · have HR : Hid (zs.getD k 0 = 0) := by unfold Hid; rw [List.getD_eq_getElem?_getD, List.getElem?_eq_none (by omega)]; rfl
    go_enter Tryz.func64, Tryz.ntmps64
    go_wp2
    go_ret
    exact ⟨by rw [HR.out]; rfl, rfl⟩
def indexN (zs : List Int) (n : Int) : Int := if n ∈ zs then (zs.idxOf n : Nat) else -1
theorem indexN_neg (zs : List Int) (n : Int) : decide (indexN zs n ≥ 0) = decide (n ∈ zs) := by
  unfold indexN
  by_cases h : n ∈ zs <;> simp [h]
end Go.Proofs.YtfghojbbofobeaaGreat
end
section
set_option linter.unusedSimpArgs false
set_option linter.unusedVariables false
namespace Go.Proofs.YtfghojbbofobeaaGreat
open Go Go.RowKit Go.Proofs
set_option maxHeartbeats 400000
theorem OwnInts.take {base : Nat} {w : World} {A : Option Addr} {c : Nat} {zs : List Int} (h : OwnInts base w (.slice A zs.length c) zs) (k : Nat) (hk : k ≤ zs.length) (h0 : A ≠ none) : OwnInts base w (.slice A k c) (zs.take k) := by
  obtain ⟨h1, h2⟩ := h
  have hl : (zs.take k).length = k := by simp; omega
  refine ⟨by simp, ?_⟩
  rcases h2 with ⟨e, _⟩ | ⟨g, cap, cur, e, hb, hh, q1, q2, q3, q4⟩
  · injection e with e1 e2 e3
    exact absurd e1 h0
  · injection e with e1 e2 e3
    subst e1 e3
    refine .inr ⟨g, c, cur, by rw [hl], hb, hh, by omega, q2, q3, ?_⟩
    have : ivs (zs.take k) = (ivs zs).take k := by simp [ivs, List.map_take]
    rw [this, ← q4, List.take_take, hl]
    congr 1
    omega
set_option maxRecDepth 20000 in
theorem trimmed_c (v : Value) (zs : List Int) (w : World) (h : Ints w v zs) (hn : zs.length ≤ 1048576) :
    Calls Tryz.prog 65 #[v] w fun e w' => (∃ A c, v = .slice A zs.length c ∧ e = .returned (.slice A (trimN zs zs.length) c)) ∧ w = w' := by
  obtain ⟨A, c, rfl, h2, h2'⟩ := h.form
  go_enter Tryz.func65, Tryz.ntmps65
  go_wp2
  go_loopw [0] (fun u wr => ∃ k : Nat, k ≤ zs.length ∧ u = .slice A k c ∧ wr = w ∧ Hid (trimN zs k = trimN zs zs.length)) (fun u _ => match u with | .slice _ n _ => n | _ => 0)
  case atStart => exact ⟨zs.length, Nat.le_refl _, rfl, rfl, rfl⟩
  case round =>
    obtain ⟨k, hk, rfl, rfl, ht⟩ := hrel
    by_cases h0 : k = 0
    · subst h0
      have HR : Hid (trimN zs zs.length = 0) := by unfold Hid; rw [← ht.out]; rfl
      go_wp2
      go_ret
      exact ⟨⟨A, c, rfl, by rw [HR.out]; rfl⟩, rfl⟩
    · obtain ⟨j, rfl⟩ : ∃ j, k = j + 1 := ⟨k - 1, by omega⟩
      have hj : j < zs.length := by omega
      obtain ⟨b, off, rfl, hc⟩ := h.at hj
      have c0 := hc j hj
      have e0 : zs.getD j 0 = zs[j] := by rw [List.getD_eq_getElem?_getD, List.getElem?_eq_getElem hj]; rfl
      have i3 : ((((j + 1 : Nat) : Int) - 1)).toNat = j := by omega
      by_cases hz : zs[j] = 0
      · have HT : Hid (trimN zs j = trimN zs zs.length) := by unfold Hid; rw [← ht.out]; simp only [trimN]; rw [e0, if_pos hz]
        generalize zs[j] = z at *
        subst hz
        clear hc e0
        go_wp2
        go_roundw
        case rel => exact ⟨j, by omega, by first | rfl | go_num, by first | rfl | trivial, HT⟩
        case measure => first | (simp; done) | (simp; omega)
      · have HR : Hid (trimN zs zs.length = j + 1) := by unfold Hid; rw [← ht.out]; simp only [trimN]; rw [e0, if_neg hz]
        have hzb : (zs[j] == 0) = false := by simp [hz]
        generalize zs[j] = z at *
        clear hc e0 hz
        go_wp2
        go_ret
        exact ⟨⟨_, c, rfl, by rw [HR.out]; rfl⟩, rfl⟩
end Go.Proofs.YtfghojbbofobeaaGreat
end
