/- Contract: digits are read back from their text.
Plain words: the parts of the text of a machine with several tapes. No program stands here.
Contract of the library's search of a letter of a move. -/
import Derived.Test.YtkbpchdncljlbaaGreatDoorV08
import Derived.Test.YtkbpchdncljlbaaGreatDoorV07
import Derived.Test.YtkbpchdncljlbaaGreatDoorV12
import Derived.Test.YtkbpchdncljlbaaGreatDoorV43
import Derived.Test.YtkbpchdncljlbaaGreatDoorV09
import Derived.Test.YtkbpchdncljlbaaGreatDoorV33
import Derived.Test.YtkbpchdncljlbaaGreatDoorShelf
section
set_option linter.unusedSimpArgs false
set_option linter.unusedVariables false
namespace Go.Proofs.YtkbpchdncljlbaaGreatDoor
open Go Go.RowKit Go.Proofs
set_option maxHeartbeats 400000
theorem digB_get {zs : List Int} (hz : ∀ z ∈ zs, 0 ≤ z ∧ z ≤ 9) {k : Nat} (hk : k < zs.length) : ∃ (h : k < (bsS (digB zs)).size) (n : Nat), zs[k] = (n : Int) ∧ n ≤ 9 ∧ ((bsS (digB zs))[k]).toNat = 48 + n := by
  have hl : k < (digB zs).length := by simpa [digB] using hk
  have h : k < (bsS (digB zs)).size := by rw [bs_size]; exact hl
  have h9 := hz zs[k] (List.getElem_mem hk)
  obtain ⟨n, hn⟩ : ∃ n : Nat, zs[k] = (n : Int) := ⟨zs[k].toNat, by omega⟩
  refine ⟨h, n, hn, by omega, ?_⟩
  rw [bs_get _ _ _ hl]
  have e : (digB zs)[k] = digU zs[k] := by simp [digB]
  rw [e]
  have := digU_nat (z := zs[k]) (by omega) (by omega)
  omega
def RgRes (zs : List Int) (w : World) (e : Ending) (w' : World) : Prop := ∃ u, e = .returned (.tuple #[u, .bool true]) ∧ OwnInts w.heap.size w' u zs ∧ Ext w w'
set_option maxRecDepth 20000 in
set_option maxHeartbeats 4000000 in
theorem readDigits_c (zs : List Int) (w : World) (hz : ∀ z ∈ zs, 0 ≤ z ∧ z ≤ 9) (hl : zs.length ≤ 1048576) :
    Calls Tryz.prog 59 #[.string (bsS (digB zs))] w (RgRes zs w) := by
  obtain ⟨i0, hi, hz0, hz1, hz2⟩ := info_parts intInfo
  have hS : (bsS (digB zs)).size = zs.length := by rw [bs_size]; simp [digB]
  have hget := fun {k : Nat} (hk : k < zs.length) => digB_get hz hk
  generalize bsS (digB zs) = s at *
  have hown0 : (w.alloc (.cells #[] 2)).ownsRow w.heap.size 2 1 (.slice (some ⟨w.heap.size, 0, none⟩) 0 0) 0 (ivs (zs.take 0)) :=
    World.ownsRow_made (base := w.heap.size) (e := 2) (size := 1) w #[] 0 (by simp) (by unfold maxLen; omega) (by simp [ivs])
  have hX0 := Ext.alloc w (.cells #[] 2)
  go_enter Tryz.func59, Tryz.ntmps59
  go_wp2
  generalize w.alloc (.cells #[] 2) = W at *
  go_loopw [4, 5] (fun l i wr => ∃ k : Nat, k ≤ zs.length ∧ i = .int .i64 (k : Int) ∧ Ext w wr ∧ wr.ownsRow w.heap.size 2 1 l k (ivs (zs.take k))) (fun _ i _ => zs.length - (intOf i).toNat)
  case atStart => exact ⟨0, Nat.zero_le _, rfl, hX0, hown0⟩
  case round =>
    clear hown0 hX0
    obtain ⟨k, hk, rfl, hX, ho⟩ := hrel
    obtain ⟨Al, cl, rfl, h3, h3', _⟩ := (ownsRow_row ho).form
    by_cases hlt : k < zs.length
    · obtain ⟨hks, n, hzn, hn9, hb⟩ := hget hlt
      have HTK : Hid (ivs (zs.take (k + 1)) = ivs (zs.take k) ++ [.int .i64 (n : Int)]) := by
        unfold Hid
        rw [List.take_succ_eq_append_getElem hlt, hzn]
        simp [ivs]
      have hkI : (k : Int) < (zs.length : Int) := by omega
      have hb1 : ¬ ((48 + n : Nat) : Int) < 48 := by omega
      have hb2 : ¬ (57 : Int) < ((48 + n : Nat) : Int) := by omega
      have hcz : (48 : Int) + (n : Int) - 48 = (n : Int) := by omega
      have hsz := hX.size
      clear hget hzn
      go_wp2_with (at_builtin; refine wpList_append_own _ rfl _ _ 48 rfl w.heap.size 2 i0 (.int .i64 0) 1 8 Tryz.underlying48 hi hz0 hz1 hz2 rfl (by decide) _ _ _ rfl (ho.alloc _) ⟨wr.heap.size, 0, none⟩ 1 1 [.int .i64 (n : Int)] rfl rfl ?c1 ?c2 ?c3 ?c4 ?c5 ?_)
      case c2 => first | rfl | (intro u hu; simp at hu; subst hu; rfl)
      case c3 => first | omega | (unfold maxLen; omega)
      case c4 => omega
      case c5 => first | omega | (simp; omega)
      intro v' w3 hown' hgrow _
      have hX3 : Ext w w3 := hX.grown (grownBy_trans (World.grownBy_alloc _ _ _) hgrow) (fun b hb => (ho.lt b hb).1)
      have R : w3.ownsRow w.heap.size 2 1 v' (k + 1) (ivs (zs.take (k + 1))) := by rw [HTK.out]; exact hown'
      clear hown' hgrow ho
      go_wp2
      go_roundw
      case rel => exact ⟨k + 1, by omega, by go_num, hX3, R⟩
      case measure => simp [intOf]; omega
    · obtain rfl : k = zs.length := by omega
      have htk : zs.take zs.length = zs := List.take_of_length_le (Nat.le_refl _)
      rw [htk] at ho
      have HO := Lib.hid ho
      have hge : ¬ (zs.length : Int) < (zs.length : Int) := by omega
      clear ho htk hget
      go_wp2
      exact bodyPost_ret (v := .tuple #[.slice Al zs.length cl, .bool true]) (by simp [results, Tryz.results59, go_sem]) rfl ⟨_, rfl, HO.out, hX⟩
end Go.Proofs.YtkbpchdncljlbaaGreatDoor
end
section
set_option linter.unusedSimpArgs false
set_option linter.unusedVariables false
namespace Go.Proofs.YtkbpchdncljlbaaGreatDoor
open Go Go.RowKit Go.Proofs
theorem itoa_no {n : Int} (h : 0 ≤ n) : (10 : UInt8) ∉ Lib.itoa n ∧ (32 : UInt8) ∉ Lib.itoa n :=
  ⟨fun hc => absurd (itoa_dig h _ hc) (by decide), fun hc => absurd (itoa_dig h _ hc) (by decide)⟩
theorem digB_no {zs : List Int} (h : ∀ z ∈ zs, 0 ≤ z ∧ z ≤ 9) : (10 : UInt8) ∉ digB zs ∧ (32 : UInt8) ∉ digB zs :=
  ⟨fun hc => absurd (digB_dig h _ hc) (by decide), fun hc => absurd (digB_dig h _ hc) (by decide)⟩
theorem mvU_ne (z : Int) : (10 : UInt8) ≠ mvU z ∧ (32 : UInt8) ≠ mvU z := by
  unfold mvU
  by_cases h1 : z = -1
  · rw [if_pos h1]; decide
  · rw [if_neg h1]
    by_cases h2 : z = 0
    · rw [if_pos h2]; decide
    · rw [if_neg h2]; decide
theorem mvB_no (zs : List Int) : (10 : UInt8) ∉ mvB zs ∧ (32 : UInt8) ∉ mvB zs := by
  constructor
  · intro hc
    obtain ⟨z, _, e⟩ := List.mem_map.1 hc
    exact (mvU_ne z).1 e.symm
  · intro hc
    obtain ⟨z, _, e⟩ := List.mem_map.1 hc
    exact (mvU_ne z).2 e.symm
/-- The parts of a rule's text. -/
def mruP (r : MRuleD) : List (List UInt8) := [Lib.itoa r.st, digB r.rd, digB r.wr, mvB r.mv, Lib.itoa r.nx]
theorem mruP_join (r : MRuleD) : Lib.join (mruP r) [32] = mruT r := mruT_join r
theorem mruP_no {r : MRuleD} (h1 : 0 ≤ r.st) (h2 : 0 ≤ r.nx) (h3 : ∀ z ∈ r.rd, 0 ≤ z ∧ z ≤ 9) (h4 : ∀ z ∈ r.wr, 0 ≤ z ∧ z ≤ 9) : ∀ q ∈ mruP r, (10 : UInt8) ∉ q ∧ (32 : UInt8) ∉ q := by
  intro q hq
  simp only [mruP, List.mem_cons, List.not_mem_nil, or_false] at hq
  rcases hq with rfl | rfl | rfl | rfl | rfl
  · exact itoa_no h1
  · exact digB_no h3
  · exact digB_no h4
  · exact mvB_no _
  · exact itoa_no h2
theorem no_join {c s : UInt8} {l : List (List UInt8)} (hs : c ≠ s) (h : ∀ q ∈ l, c ∉ q) : c ∉ Lib.join l [s] := by
  intro hc
  rcases mem_join hc with h1 | ⟨x, hx, h1⟩
  · exact hs (List.mem_singleton.1 h1)
  · exact h x hx h1
theorem mruT_no {r : MRuleD} (h1 : 0 ≤ r.st) (h2 : 0 ≤ r.nx) (h3 : ∀ z ∈ r.rd, 0 ≤ z ∧ z ≤ 9) (h4 : ∀ z ∈ r.wr, 0 ≤ z ∧ z ≤ 9) : (10 : UInt8) ∉ mruT r := by
  rw [← mruP_join]
  exact no_join (by decide) fun q hq => (mruP_no h1 h2 h3 h4 q hq).1
/-- The parts of the head. -/
def mheP (m : MultiD) : List (List UInt8) := [Lib.itoa m.tp, Lib.itoa m.sy, Lib.itoa m.st]
theorem mheP_join (m : MultiD) : Lib.join (mheP m) [32] = mheT m := by simp [mheP, mheT, Lib.join, Lib.joinTail]
theorem mheP_no {m : MultiD} (h1 : 0 ≤ m.tp) (h2 : 0 ≤ m.sy) (h3 : 0 ≤ m.st) : ∀ q ∈ mheP m, (10 : UInt8) ∉ q ∧ (32 : UInt8) ∉ q := by
  intro q hq
  simp only [mheP, List.mem_cons, List.not_mem_nil, or_false] at hq
  rcases hq with rfl | rfl | rfl
  · exact itoa_no h1
  · exact itoa_no h2
  · exact itoa_no h3
theorem mltP_no {m : MultiD} (hm : multiOk m = true) : ∀ q ∈ mltP m m.rules.length, (10 : UInt8) ∉ q := by
  obtain ⟨⟨t1, t2⟩, ⟨y1, y2⟩, ⟨s1, s2⟩, hl, _⟩ := multi_all hm
  intro q hq
  unfold mltP at hq
  rw [List.take_length] at hq
  rcases List.mem_cons.1 hq with rfl | hq
  · rw [← mheP_join]
    exact no_join (by decide) fun q hq => (mheP_no (by omega) (by omega) (by omega) q hq).1
  · obtain ⟨r, hr, rfl⟩ := List.mem_map.1 hq
    obtain ⟨j, hj, rfl⟩ := List.getElem_of_mem hr
    obtain ⟨a, b, _, _, _, p1, p2, _⟩ := mrule_all (multi_rule hm hj)
    exact mruT_no a.1 b.1 (fun z hz => by have := p1 z hz; omega) (fun z hz => by have := p2 z hz; omega)
/-- The bytes of the moves' letters. -/
theorem mvB_get {zs : List Int} {k : Nat} (hk : k < zs.length) : ∃ h : k < (bsS (mvB zs)).size, (bsS (mvB zs))[k] = mvU zs[k] := by
  have hl : k < (mvB zs).length := by simpa [mvB] using hk
  refine ⟨by rw [bs_size]; exact hl, ?_⟩
  rw [bs_get _ _ _ hl]
  simp [mvB]
theorem mvB_size (zs : List Int) : (bsS (mvB zs)).size = zs.length := by rw [bs_size]; simp [mvB]
theorem mvU_lt (z : Int) : (mvU z).toNat < 128 := by
  unfold mvU
  by_cases h1 : z = -1
  · rw [if_pos h1]; decide
  · rw [if_neg h1]
    by_cases h2 : z = 0
    · rw [if_pos h2]; decide
    · rw [if_neg h2]; decide
end Go.Proofs.YtkbpchdncljlbaaGreatDoor
end
section
set_option linter.unusedSimpArgs false
set_option linter.unusedVariables false
namespace Go.Proofs.YtkbpchdncljlbaaGreatDoor
open Go Go.RowKit Go.Proofs
set_option maxHeartbeats 400000
set_option maxRecDepth 20000 in
set_option maxHeartbeats 4000000 in
theorem indexRune_c (z : Int) (w : World) (hz : -1 ≤ z ∧ z ≤ 1) :
    Calls Tryz.prog 60 #[.string ⟨#[76, 83, 82]⟩, .int .i32 (mvU z).toNat] w fun e w' => e = .returned (.int .i64 (z + 1)) ∧ w' = w := by
  have hz3 : z = -1 ∨ z = 0 ∨ z = 1 := by omega
  rcases hz3 with rfl | rfl | rfl
  · show Calls _ _ #[_, .int .i32 76] _ _
    have IB := Tryz.strings_IndexByte ⟨#[76, 83, 82]⟩ 76 w
    go_enter Tryz.func60, Tryz.ntmps60
    go_wp2_with fail
    refine IB.mono ?_
    rintro e _ ⟨rfl, rfl⟩
    go_wp2
    go_ret
    exact ⟨rfl, rfl⟩
  · show Calls _ _ #[_, .int .i32 83] _ _
    have IB := Tryz.strings_IndexByte ⟨#[76, 83, 82]⟩ 83 w
    go_enter Tryz.func60, Tryz.ntmps60
    go_wp2_with fail
    refine IB.mono ?_
    rintro e _ ⟨rfl, rfl⟩
    go_wp2
    go_ret
    exact ⟨rfl, rfl⟩
  · show Calls _ _ #[_, .int .i32 82] _ _
    have IB := Tryz.strings_IndexByte ⟨#[76, 83, 82]⟩ 82 w
    go_enter Tryz.func60, Tryz.ntmps60
    go_wp2_with fail
    refine IB.mono ?_
    rintro e _ ⟨rfl, rfl⟩
    go_wp2
    go_ret
    exact ⟨rfl, rfl⟩
end Go.Proofs.YtkbpchdncljlbaaGreatDoor
end
