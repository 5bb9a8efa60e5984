/- Contract of the program's list without zeros at its end.
Contracts of the program's reversed and joined lists, and of the library's Grow of nil and Concat. Lists are short. -/
import Derived.Test.YtjcfmlecfjmcgaaGreatDoorS18
import Derived.Lib.OwnBridge
import Derived.Lib.AppendZerosOnto
import Derived.Laws.AppendOwnNone
section
set_option linter.unusedSimpArgs false
set_option linter.unusedVariables false
namespace Go.Proofs.YtjcfmlecfjmcgaaGreatDoor
open Go Go.RowKit Go.Proofs
set_option maxHeartbeats 400000
theorem OwnInts.take {base : Nat} {w : World} {A : Option Addr} {c : Nat} {zs : List Int} (h : OwnInts base w (.slice A zs.length c) zs) (k : Nat) (hk : k ≤ zs.length) (h0 : A ≠ none) : OwnInts base w (.slice A k c) (zs.take k) := by
  obtain ⟨h1, h2⟩ := h
  have hl : (zs.take k).length = k := by simp; omega
  refine ⟨by simp, ?_⟩
  rcases h2 with ⟨e, _⟩ | ⟨g, cap, cur, e, hb, hh, q1, q2, q3, q4⟩
  · injection e with e1 e2 e3
    exact absurd e1 h0
  · injection e with e1 e2 e3
    subst e1 e3
    refine .inr ⟨g, c, cur, by rw [hl], hb, hh, by omega, q2, q3, ?_⟩
    have : ivs (zs.take k) = (ivs zs).take k := by simp [ivs, List.map_take]
    rw [this, ← q4, List.take_take, hl]
    congr 1
    omega
set_option maxRecDepth 20000 in
theorem trimmed_c (v : Value) (zs : List Int) (w : World) (h : Ints w v zs) (hn : zs.length ≤ 1048576) :
    Calls Tryz.prog 91 #[v] w fun e w' => (∃ A c, v = .slice A zs.length c ∧ e = .returned (.slice A (trimN zs zs.length) c)) ∧ w = w' := by
  obtain ⟨A, c, rfl, h2, h2'⟩ := h.form
  go_enter Tryz.func91, Tryz.ntmps91
  go_wp2
  go_loopw [0] (fun u wr => ∃ k : Nat, k ≤ zs.length ∧ u = .slice A k c ∧ wr = w ∧ Hid (trimN zs k = trimN zs zs.length)) (fun u _ => match u with | .slice _ n _ => n | _ => 0)
  case atStart => exact ⟨zs.length, Nat.le_refl _, rfl, rfl, rfl⟩
  case round =>
    obtain ⟨k, hk, rfl, rfl, ht⟩ := hrel
    by_cases h0 : k = 0
    · subst h0
      have HR : Hid (trimN zs zs.length = 0) := by unfold Hid; rw [← ht.out]; rfl
      go_wp2
      go_ret
      exact ⟨⟨A, c, rfl, by rw [HR.out]; rfl⟩, rfl⟩
    · obtain ⟨j, rfl⟩ : ∃ j, k = j + 1 := ⟨k - 1, by omega⟩
      have hj : j < zs.length := by omega
      obtain ⟨b, off, rfl, hc⟩ := h.at hj
      have c0 := hc j hj
      have e0 : zs.getD j 0 = zs[j] := by rw [List.getD_eq_getElem?_getD, List.getElem?_eq_getElem hj]; rfl
      have i3 : ((((j + 1 : Nat) : Int) - 1)).toNat = j := by omega
      by_cases hz : zs[j] = 0
      · have HT : Hid (trimN zs j = trimN zs zs.length) := by unfold Hid; rw [← ht.out]; simp only [trimN]; rw [e0, if_pos hz]
        generalize zs[j] = z at *
        subst hz
        clear hc e0
        go_wp2
        go_roundw
        case rel => exact ⟨j, by omega, by first | rfl | go_num, by first | rfl | trivial, HT⟩
        case measure => first | (simp; done) | (simp; omega)
      · have HR : Hid (trimN zs zs.length = j + 1) := by unfold Hid; rw [← ht.out]; simp only [trimN]; rw [e0, if_neg hz]
        have hzb : (zs[j] == 0) = false := by simp [hz]
        generalize zs[j] = z at *
        clear hc e0 hz
        go_wp2
        go_ret
        exact ⟨⟨_, c, rfl, by rw [HR.out]; rfl⟩, rfl⟩
end Go.Proofs.YtjcfmlecfjmcgaaGreatDoor
end
section
set_option linter.unusedSimpArgs false
set_option linter.unusedVariables false
namespace Go.Proofs.YtjcfmlecfjmcgaaGreatDoor
open Go Go.RowKit Go.Proofs
set_option maxHeartbeats 400000
/-- A slice that is nil, or whose address is one of a plain cell. -/
def Flat (v : Value) : Prop := v = .slice none 0 0 ∨ ∃ b off n c, v = .slice (some ⟨b, off, none⟩) n c
theorem OwnInts.flat {base : Nat} {w : World} {v : Value} {zs : List Int} (h : OwnInts base w v zs) : Flat v := by
  rcases h.2 with ⟨rfl, _⟩ | ⟨g, cap, cur, rfl, _⟩
  · exact .inl rfl
  · exact .inr ⟨g, 0, _, cap, rfl⟩
theorem grownBy_refl (w : World) (r : Option Nat) : w.grownBy w r := ⟨rfl, rfl, rfl, Nat.le_refl _, fun _ _ _ => rfl⟩
theorem CloneF_c (v : Value) (zs : List Int) (w : World) (h : Ints w v zs) (hf : Flat v) (h1 : zs.length ≤ 1048576) :
    Calls Tryz.prog 102 #[v] w fun e w' => ∃ u, e = .returned u ∧ OwnInts w.heap.size w' u zs ∧ (u = .slice none 0 0 → zs = []) ∧ Ext w w' := by
  obtain ⟨i0, hi, hz0, hz1, hz2⟩ := info_parts intInfo
  have hm : zs.length ≤ maxLen := by unfold maxLen; omega
  obtain ⟨A, c, rfl, _, _⟩ := id h.form
  rcases hf with hf | ⟨b, off, n, c', hf⟩
  · injection hf with e1 e2 e3
    subst e1 e3
    have hz : zs = [] := List.length_eq_zero_iff.1 e2
    subst hz
    refine (Tryz.slices_Clone_nil _ _ w).mono ?_
    rintro e w' ⟨rfl, rfl⟩
    exact ⟨_, rfl, ⟨by simp, .inl ⟨rfl, rfl⟩⟩, fun _ => rfl, Ext.refl _⟩
  · injection hf with e1 e2 e3
    subst e1 e3
    have hc : ∀ j u, (ivs zs)[j]? = some u → w.cell? ⟨b, off + j, none⟩ = some u := by
      intro j u hj
      obtain ⟨hl, _⟩ := List.getElem?_eq_some_iff.1 hj
      rw [ivs_length] at hl
      obtain ⟨b', off', e', hc⟩ := h.at hl
      cases e'
      exact ints_cells hc j u hj
    refine (Tryz.slices_Clone i0 _ 1 8 hi hz0 hz1 hz2 rfl (by omega) intSize b off zs.length c (ivs zs) w (by simp) hm (by omega) hc (ivs_one zs)).mono ?_
    rintro e w' ⟨u, rfl, ho, hne, hb⟩
    exact ⟨u, rfl, ho, fun e => absurd e hne, hb⟩
theorem reversed_c (v : Value) (zs : List Int) (w : World) (h : Ints w v zs) (hf : Flat v) (h1 : zs.length ≤ 1048576) :
    Calls Tryz.prog 67 #[v] w fun e w' => ∃ u, e = .returned u ∧ OwnInts w.heap.size w' u zs.reverse ∧ Ext w w' := by
  obtain ⟨A, c, rfl, _, _⟩ := id h.form
  go_enter Tryz.func67, Tryz.ntmps67
  go_wp2_with fail
  refine (CloneF_c _ zs w h hf h1).mono ?_
  rintro e w1 ⟨u, rfl, ho, hne, hx⟩
  by_cases hu : u = .slice none 0 0
  · have hz := hne hu
    subst hu
    subst hz
    go_wp2_with fail
    refine (Tryz.slices_Reverse_empty (α := Int) none 0 w1).mono ?_
    rintro e w2 ⟨rfl, rfl⟩
    go_wp2
    go_ret
    exact ⟨_, rfl, by simpa using ho, hx⟩
  · obtain ⟨g, cap, rfl, hg, hgl, _, _, _, hH⟩ := Lib.holds_of_ownsRow (enc := Value.int .i64) (zs := zs) ho hu
    go_wp2_with fail
    refine (Tryz.slices_Reverse (Value.int .i64) (fun _ => rfl) g 0 cap zs w1 hH (by omega)).mono ?_
    rintro e w2 ⟨rfl, q, rfl⟩
    go_wp2
    go_ret
    refine ⟨_, rfl, ?_, Lib.below_putRow hx hg⟩
    have := Lib.ownsRow_putRow (enc := Value.int .i64) (q := q) (ys := zs.reverse) (zs := zs) ho (by simp) (Nat.le_refl _)
    rw [List.take_of_length_le (by simp)] at this
    unfold OwnInts
    rw [List.length_reverse]
    exact this
set_option maxRecDepth 20000 in
theorem Grow0_c (n : Nat) (w : World) (hn : n ≤ 1048576) :
    Calls Tryz.prog 124 #[.slice none 0 0, .int .i64 n] w fun e w' => ∃ u, e = .returned u ∧ OwnInts w.heap.size w' u [] ∧ Ext w w' := by
  obtain ⟨i0, hi, hz0, hz1, hz2⟩ := info_parts intInfo
  by_cases h0 : n = 0
  · subst h0
    go_enter Tryz.func124, Tryz.ntmps124
    go_wp2
    go_ret
    exact ⟨_, rfl, ⟨by simp, .inl ⟨rfl, rfl⟩⟩, Ext.refl _⟩
  · have hbg : 0 < n := by omega
    have h4 : (n : Int) > 0 := by omega
    have hrz : ∀ ty, (Builtin.append_ #[25, 3] ty #[.slice none 0 0, .int .i64 n]).run Tryz.prog w =
        .ok (.slice (some ⟨w.heap.size, 0, none⟩) n (grownCap w n 0 2)) (w.drew.alloc (.cells (#[] ++ Builtin.zeroCells (Value.int .i64 0).cells n ++ Builtin.zeroCells (Value.int .i64 0).cells (grownCap w n 0 2 - n)) 2)) := fun ty => by
      have h := Lib.run_append_grow_zeros w 25 3 ty 2 i0 _ .i64 .i64 Tryz.underlying25 Tryz.underlying3 hi hz0 none 0 0 [] (run_firstCells_none w.drew i0.size 0 0 0) n hbg (by omega) (by omega) (by omega) (by rw [hz2]; omega)
        (growslice_fits (by omega) (by rw [hz2]; omega))
      simpa only [Nat.zero_add] using h
    have hGn : n ≤ grownCap w n 0 2 := grownCap_ge w _ _ _
    have hGm := grownCap_le_maxLen w n 0 2 (by unfold maxLen; omega)
    generalize grownCap w n 0 2 = G at *
    have hG63 : G ≤ 9223372036854775807 := by unfold maxLen at hGm; omega
    have HGm := Lib.hid hGm
    obtain ⟨cs, hcs⟩ : ∃ cs, cs = #[] ++ Builtin.zeroCells (Value.int .i64 0).cells n ++ Builtin.zeroCells (Value.int .i64 0).cells (G - n) := ⟨_, rfl⟩
    rw [← hcs] at hrz
    have HC : Hid (cs.size = G) := by
      unfold Hid
      rw [hcs]
      simp [Builtin.zeroCells, Value.cells]
      omega
    clear hcs hGm hi hz0 hz1 hz2
    go_enter Tryz.func124, Tryz.ntmps124
    go_wp2_with (at_builtin; refine Lib.wpList_append_run _ rfl _ _ _ _ rfl _ _ rfl rfl _ _ (hrz _) ?_)
    all_goals
      go_ret
      refine ⟨_, rfl, ⟨by simp, .inr ⟨w.heap.size, G, cs, rfl, Nat.le_refl _, heap_alloc_new w.drew _, Nat.zero_le _, HGm.out, by rw [HC.out]; omega, rfl⟩⟩, (Ext.drew w).trans (Ext.alloc _ _)⟩
end Go.Proofs.YtjcfmlecfjmcgaaGreatDoor
end
