/- Contracts of the program's decoding of a configuration of the machine on one half of the tape: the form and the tape.
Contract of the program's DecodeFold.
Contracts of the laws' sizes and copies of lists of numbers. Lists are short. -/
import Derived.Test.YtkbpchdncljlbaaDoorR30
import Derived.Test.YtkbpchdncljlbaaDoorR13
import Derived.Test.YtkbpchdncljlbaaDoorR02
import Derived.Test.YtkbpchdncljlbaaDoorR03
section
set_option linter.unusedSimpArgs false
set_option linter.unusedVariables false
namespace Go.Proofs.YtkbpchdncljlbaaDoor
open Go Go.RowKit Go.Proofs Go.Maps
set_option maxHeartbeats 400000
end Go.Proofs.YtkbpchdncljlbaaDoor
end
section
set_option linter.unusedSimpArgs false
set_option linter.unusedVariables false
namespace Go.Proofs.YtkbpchdncljlbaaDoor
open Go Go.RowKit Go.Proofs Go.Maps
set_option maxHeartbeats 400000
theorem ConfRes.done {w w1 : World} {r : ConfD × Int} {b : Nat} {lv rv : Value} (hb : w.heap.size ≤ b) (hX : Ext w w1)
    (hl : OwnInts w.heap.size w1 lv r.1.l) (hr : OwnInts w.heap.size w1 rv r.1.r) (hap : ∀ g, lv.ownBlock = some g → rv.ownBlock ≠ some g)
    (n1 : ∀ g, lv.ownBlock = some g → g ≠ b) (n2 : ∀ g, rv.ownBlock = some g → g ≠ b) (x y z : Value) :
    ConfRes w r (.returned (.tuple #[.agg #[.int .i64 r.1.q, lv, rv], .int .i64 r.2])) (((w1.setCell ⟨b, 0, none⟩ x).setCell ⟨b, 1, none⟩ y).setCell ⟨b, 2, none⟩ z) :=
  ⟨_, _, rfl, ownsRow_far (ownsRow_far (ownsRow_far hl n1 _) n1 _) n1 _, ownsRow_far (ownsRow_far (ownsRow_far hr n2 _) n2 _) n2 _, hap, ((hX.setCell hb _).setCell hb _).setCell hb _⟩
theorem ConfRes.none {w w1 : World} {k : Int} {b : Nat} (hb : w.heap.size ≤ b) (hX : Ext w w1) (x y z : Value) :
    ConfRes w (blankC, k) (.returned (.tuple #[.agg #[.int .i64 0, .slice none 0 0, .slice none 0 0], .int .i64 k])) (((w1.setCell ⟨b, 0, none⟩ x).setCell ⟨b, 1, none⟩ y).setCell ⟨b, 2, none⟩ z) :=
  ConfRes.done (r := (blankC, k)) hb hX (World.ownsRow_nil ..) (World.ownsRow_nil ..) (fun g hg => by simp [Value.ownBlock] at hg) (fun g hg => by simp [Value.ownBlock] at hg) (fun g hg => by simp [Value.ownBlock] at hg) x y z
end Go.Proofs.YtkbpchdncljlbaaDoor
end
section
namespace Go.Proofs.YtkbpchdncljlbaaDoor
open Go Go.RowKit Go.Proofs
set_option maxHeartbeats 400000
/-- What is left of a size. -/
def szF (left : Int) (n : Nat) : Int := if left < n then -1 else left - n
theorem szF_no {left : Int} {n : Nat} (h : left < n) : szF left n = -1 := if_pos h
theorem szF_yes {left : Int} {n : Nat} (h : ¬ left < n) : szF left n = left - n := if_neg h
theorem szInt64S_c (v : Value) (zs : List Int) (left : Int) (w : World) (h : Ints w v zs) (h0 : 0 ≤ left) (h1 : left ≤ 1048576) :
    Calls Tryd.prog 18 #[v, .int .i64 left] w fun e w' => e = .returned (.int .i64 (szF left zs.length)) ∧ w = w' := by
  obtain ⟨A, c, rfl, h2, h3⟩ := h.form
  by_cases hl : left < zs.length
  · rw [szF_no hl]
    go_enter Tryd.func18, Tryd.ntmps18
    go_wp2
    go_ret
    exact ⟨by simp, rfl⟩
  · rw [szF_yes hl]
    go_enter Tryd.func18, Tryd.ntmps18
    go_wp2
    go_ret
    exact ⟨by simp, rfl⟩
theorem szInt64SS_c (v : Value) (xss : List (List Int)) (left : Int) (w : World) (h : IntRows w v xss) (h0 : 0 ≤ left) (h1 : left ≤ 1048576) :
    Calls Tryd.prog 5 #[v, .int .i64 left] w fun e w' => e = .returned (.int .i64 (szF left (xss.length + tot xss))) ∧ w = w' := by
  obtain ⟨A, c, rfl, h2, h3⟩ := h.form
  by_cases hl : left < xss.length
  · rw [szF_no (by omega)]
    go_enter Tryd.func5, Tryd.ntmps5
    go_wp2
    go_ret
    exact ⟨by simp, rfl⟩
  · go_enter Tryd.func5, Tryd.ntmps5
    go_wp2
    go_loop [1, 5] (fun l i => ∃ k : Nat, k ≤ xss.length ∧ i = .int .i64 k ∧ l = .int .i64 (left - xss.length - tot (xss.take k)) ∧ 0 ≤ left - xss.length - tot (xss.take k)) (fun _ i => xss.length - (intOf i).toNat)
    case atStart => exact ⟨0, Nat.zero_le _, rfl, by simp [tot], by simp [tot]; omega⟩
    case round =>
      obtain ⟨k, hk, rfl, rfl, hp⟩ := hrel
      by_cases hlt : k < xss.length
      · obtain ⟨b', off, rfl, hc⟩ := h.at hlt
        obtain ⟨A1, d1, c0, r0⟩ := hc k hlt
        have HT := Lib.hid (tot_take_succ xss k hlt)
        have hle := tot_take_le xss (k + 1)
        rw [HT.out] at hle
        clear hc h
        generalize xss[k] = y at *
        generalize tot (xss.take k) = t at *
        by_cases hl2 : left - xss.length - t < y.length
        · go_wp2_with fail
          refine (szInt64S_c _ y _ _ r0 hp (by omega)).mono ?_
          rintro e w' ⟨rfl, rfl⟩
          rw [szF_no (by omega)]
          go_wp2
          go_ret
          exact ⟨by rw [szF_no (by omega)]; simp, rfl⟩
        · go_wp2_with fail
          refine (szInt64S_c _ y _ _ r0 hp (by omega)).mono ?_
          rintro e w' ⟨rfl, rfl⟩
          rw [szF_yes (by omega)]
          go_wp2
          go_round
          case rel => exact ⟨k + 1, by omega, by go_num, by rw [HT.out]; congr 1; omega, by rw [HT.out]; omega⟩
          case measure => simp [intOf]; omega
      · have HK := Lib.hid (show xss.take k = xss from List.take_of_length_le (by omega))
        rw [HK.out] at hp ⊢
        go_wp2
        go_ret
        exact ⟨by rw [szF_yes (by omega)]; simp; omega, rfl⟩
theorem filled1_step {zs : List Int} {k : Nat} {xs : List Value} (h : xs.take k = ivs (zs.take k)) (hk : k < zs.length) (hx : xs.length = zs.length) : (xs.set k (.int .i64 zs[k])).take (k + 1) = ivs (zs.take (k + 1)) := by
  rw [take_set_snoc xs k _ (by omega), h, List.take_succ_eq_append_getElem hk, ivs_append]
  rfl
theorem filled1_end {zs : List Int} {k : Nat} {xs : List Value} (h : xs.take k = ivs (zs.take k)) (hk : zs.length ≤ k) (hx : xs.length = zs.length) : xs = ivs zs := by
  rwa [List.take_of_length_le (by omega), List.take_of_length_le hk] at h
def Filled1 (zs : List Int) (k : Nat) (xs : List Value) : Prop := xs.take k = ivs (zs.take k)
theorem toInt64S_c (v : Value) (zs : List Int) (w : World) (h : Ints w v zs) (hn : zs.length ≤ 1048576) :
    Calls Tryd.prog 26 #[v] w fun e w' => ∃ u, e = .returned u ∧ OwnInts w.heap.size w' u zs ∧ Ext w w' := by
  obtain ⟨A, c, rfl, h2, h3⟩ := h.form
  obtain ⟨i0, hi, hz0, hz1, hz2⟩ := info_parts intInfo
  go_enter Tryd.func26, Tryd.ntmps26
  go_wp2_with (at_make; refine wpList_make_full _ rfl _ _ 44 rfl w.heap.size 2 i0 _ 1 Tryd.underlying44 hi hz0 hz1 .i64 .i64 _ _ zs.length rfl rfl rfl rfl ?c1 ?c2 ?c3 ?_)
  case c1 => rw [hz2]; omega
  case c2 => unfold maxLen; omega
  case c3 => exact Nat.le_refl _
  intro w1 hown hgr
  have hx1 : Ext w w1 := (Ext.refl _).grown hgr (by simp)
  obtain ⟨cs, hown⟩ : ∃ cs, w1.ownsRow w.heap.size 2 1 (.slice (some ⟨w.heap.size, 0, none⟩) zs.length zs.length) zs.length cs := ⟨_, hown⟩
  clear hgr hi hz0 hz1 hz2
  have hsz : w.heap.size < w1.heap.size := (hown.lt _ rfl).2
  generalize hg : w.heap.size = g at *
  have HG := Lib.hid hg
  clear hg
  go_wp2
  go_loopw [4] (fun i wr => ∃ k : Nat, k ≤ zs.length ∧ i = .int .i64 k ∧ Ext w wr ∧ ∃ xs, wr.ownsRow g 2 1 (.slice (some ⟨g, 0, none⟩) zs.length zs.length) zs.length xs ∧ Filled1 zs k xs) (fun i _ => zs.length - (intOf i).toNat)
  case atStart => exact ⟨0, Nat.zero_le _, rfl, hx1, cs, hown, by simp [Filled1, ivs]⟩
  case round =>
    obtain ⟨k, hk, rfl, hx, xs, ho, hf⟩ := hrel
    by_cases hlt : k < zs.length
    · obtain ⟨b, off, rfl, hc⟩ := h.at hlt
      have d0 := hx.cell (hc k hlt)
      have hl := ho.1
      have q0 := ho.cellAt k (by omega)
      rw [List.getElem?_eq_getElem (by omega)] at q0
      have f0 := ho.frozenAt k
      have hb : w.heap.size ≤ g := Nat.le_of_eq HG.out
      clear hc
      go_wp2
      try (go_quiet (fail); go_wp2)
      go_roundw
      case rel => exact ⟨k + 1, by omega, by go_num, hx.setCell hb _, _, (ho.stored k _).1, filled1_step hf hlt (by omega)⟩
      case measure => simp [intOf]; omega
    · go_wp2
      go_ret
      refine ⟨_, rfl, ?_, hx⟩
      have hl := ho.1
      rw [HG.out, OwnInts, ← filled1_end hf (by omega) (by omega)]
      exact ho
end Go.Proofs.YtkbpchdncljlbaaDoor
end
