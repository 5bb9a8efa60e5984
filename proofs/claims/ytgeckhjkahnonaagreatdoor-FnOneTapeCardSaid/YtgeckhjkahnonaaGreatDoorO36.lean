/- Contracts of the program's search of a simulation, where there is one, and of its check.
Contract of the reference's inserting of a rule with several tapes among others, in order.
Plain words: rules that do not read the same; the machine of two others in sequence makes the steps of the first one, one more, and those of the second one. No program runs here. -/
import Derived.Test.YtgeckhjkahnonaaGreatDoorO35
import Derived.Test.YtgeckhjkahnonaaGreatDoorO13
import Derived.Test.YtgeckhjkahnonaaGreatDoorO02
import Derived.Test.YtgeckhjkahnonaaGreatDoorO07
import Derived.Test.YtgeckhjkahnonaaGreatDoorO14
import Derived.Test.YtgeckhjkahnonaaGreatDoorO21
import Derived.Test.YtgeckhjkahnonaaGreatDoorO12
import Derived.Shelf.SlSortCmp.Insertion
import Derived.Deep.CutBlock
import Derived.Deep.DeepCutAuto
import Derived.Test.YtgeckhjkahnonaaGreatDoorO30
import Derived.Test.YtgeckhjkahnonaaGreatDoorO22
section
set_option linter.unusedSimpArgs false
set_option linter.unusedVariables false
namespace Go.Proofs.YtgeckhjkahnonaaGreatDoor
open Go Go.RowKit Go.Proofs
set_option maxHeartbeats 400000
theorem get_opt {src tgt : List (List UInt8)} {p k : Nat} (h1 : p < tgt.length) (h2 : k < src.length) : (tgt[p]? = src[k]?) = (tgt[p] = src[k]) := by
  rw [List.getElem?_eq_getElem h1, List.getElem?_eq_getElem h2]
  exact propext ⟨fun h => Option.some.inj h, fun h => congrArg some h⟩
set_option maxRecDepth 20000 in
set_option maxHeartbeats 4000000 in
theorem FindSimulation_c (u v : Value) (src tgt : List (List UInt8)) (τ : Nat → Nat) (w : World) (h : StrR w u src) (h' : StrR w v tgt) (hO : InOrder src tgt τ) (hn : ∀ x ∈ src, x ≠ []) (h1 : src.length ≤ 600) (h2 : tgt.length ≤ 600) :
    Calls Tryz.prog 9 #[u, v] w fun e w' => (∃ av zs, e = .returned (.tuple #[av, .int .i64 0]) ∧ OwnInts w.heap.size w' av zs ∧ SimAt src tgt zs) ∧ Ext w w' := by
  obtain ⟨i0, hi, hz0, hz1, hz2⟩ := info_parts intInfo
  obtain ⟨A, c, rfl, a1, a2, hzz⟩ := Row.form h
  obtain ⟨B, d, rfl, b1, b2, hzy⟩ := Row.form h'
  clear hzz hzy
  have SI := simulable_c _ src w h hn hO.pos h1
  have H := Lib.hid h
  have H' := Lib.hid h'
  have HO := Lib.hid hO
  clear h h' hn
  go_enter Tryz.func9, Tryz.ntmps9
  go_wp2_with fail
  refine SI.mono ?_
  rintro e w1 ⟨rfl, hx1⟩
  have hd : decide (600 < (tgt.length : Int)) = false := decide_eq_false (by omega)
  have eA := Ext.alloc w1 (.cells #[] 2)
  have o0 : OwnInts w.heap.size (w1.alloc (.cells #[] 2)) (.slice (some ⟨w1.heap.size, 0, none⟩) 0 0) [] :=
    ⟨by simp [ivs], .inr ⟨w1.heap.size, 0, #[], rfl, hx1.size, heap_alloc_new w1 _, by simp, by unfold maxLen; omega, rfl, by simp [ivs]⟩⟩
  have hX0 := hx1.trans eA
  clear SI eA hO
  go_wp2_with fail
  go_loopw [6, 7] (fun x i wr => ∃ (p : Nat) (zs : List Int) (xv : Value), p ≤ tgt.length ∧ i = .int .i64 (p : Int) ∧ xv = x ∧ OwnInts w.heap.size wr xv zs ∧ Ext w wr ∧ Hid (Greedy src tgt τ p zs)) (fun _ i _ => tgt.length - (intOf i).toNat)
  case atStart => exact ⟨0, [], _, Nat.zero_le _, rfl, rfl, o0, hX0, Lib.hid (Greedy.start _ _ _)⟩
  case round =>
    clear o0 hX0
    obtain ⟨p, zs, xv, hp, rfl, rfl, ho, hx, HG⟩ := hrel
    obtain ⟨Az, cz, rfl, z1, z2⟩ := ho.ints.form
    have hzl : zs.length ≤ 600 := by have := HG.out.few; omega
    by_cases hlt : p < tgt.length
    · have hd1 : decide ((p : Int) < (tgt.length : Int)) = true := decide_eq_true (by omega)
      by_cases hl2 : zs.length < src.length
      · have hd2 : decide ((zs.length : Int) < (src.length : Int)) = true := decide_eq_true (by omega)
        obtain ⟨b, off, rfl, c0⟩ := StrR.at H.out hl2
        obtain ⟨b', off', rfl, c0'⟩ := StrR.at H'.out hlt
        have c0 := hx.cell c0
        have c0' := hx.cell c0'
        have hq := bs_eq tgt[p] src[zs.length]
        have HQ := Lib.hid (get_opt (src := src) (tgt := tgt) hlt hl2)
        generalize bsS tgt[p] = s at *
        generalize bsS src[zs.length] = t at *
        go_wp2
        go_quiet (fail)
        by_cases he : tgt[p] = src[zs.length]
        · have HGN : Hid (Greedy src tgt τ (p + 1) (zs ++ [(p : Int)])) := Lib.hid (HG.out.hit HO.out hl2 (by rw [HQ.out]; exact he))
          clear HQ hq
          rename_i nq
          obtain ⟨Wd, hWd⟩ : ∃ W, wr.drewN nq = W := ⟨_, rfl⟩
          have hxd : Ext w Wd := by rw [← hWd]; exact hx.trans (Ext.drewN _ _)
          have hod : Wd.ownsRow w.heap.size 2 1 (.slice Az zs.length cz) zs.length (ivs zs) := by rw [← hWd]; exact ownsRow_ext ho (Ext.drewN _ _)
          have hoA := hod.alloc (.cells #[.int .i64 (p : Int)] 2)
          have hsz := hxd.size
          rw [hWd]
          go_wp2_with (at_builtin; refine wpList_append_own_at _ rfl _ _ 34 rfl w.heap.size 2 i0 (.int .i64 0) 1 8 Tryz.underlying34 hi hz0 hz1 hz2 rfl (by decide) _ _ _ rfl hoA ⟨Wd.heap.size, 0, none⟩ 1 1 [.int .i64 (p : Int)] rfl rfl (cell_one_new _ _ _) ?c2 ?c3 ?c4 ?c5 ?_)
          case c2 => intro u hu; simp at hu; subst hu; rfl
          case c3 => unfold maxLen; omega
          case c4 => omega
          case c5 => simp; omega
          intro v' w4 hown4 hg4 _ hloc
          obtain ⟨A', c', rfl, _, _, _⟩ := (ownsRow_row hown4).form
          have ho4 : OwnInts w.heap.size w4 (.slice A' (zs.length + 1) c') (zs ++ [(p : Int)]) := by simpa [OwnInts, ivs_append, ivs] using hown4
          have hx4 : Ext w w4 := (hxd.trans (Ext.alloc _ _)).grown hg4 (fun k hk => (hod.lt k hk).1)
          have HO4 := Lib.hid ho4
          have hnz : decide (((zs.length : Int) + 1) = 0) = false := decide_eq_false (by omega)
          clear hown4 hg4 hoA hod hWd ho4
          go_wp2
          go_roundw
          case rel => exact ⟨p + 1, _, _, by omega, by go_num, rfl, HO4.out, hx4, HGN⟩
          case measure => simp [intOf]; omega
        · have HGN : Hid (Greedy src tgt τ (p + 1) zs) := Lib.hid (HG.out.miss HO.out hl2 (by rw [HQ.out]; exact he))
          have hnz : ((zs.length : Int) == 0) = false := beq_eq_false_iff_ne.2 (by
            have := HGN.out.first (by omega)
            have := (List.getElem?_eq_some_iff.1 this).1
            omega)
          clear HQ hq
          rename_i nq
          go_wp2
          go_roundw
          case rel => exact ⟨p + 1, _, _, by omega, by go_num, rfl, ownsRow_ext ho (Ext.drewN _ _), hx.trans (Ext.drewN _ _), HGN⟩
          case measure => simp [intOf]; omega
      · have hd2 : decide ((zs.length : Int) < (src.length : Int)) = false := decide_eq_false (by omega)
        have HS : Hid (SimAt src tgt zs) := Lib.hid (HG.out.done HO.out hp (.inr (by have := HG.out.few; omega)))
        go_wp2
        refine bodyPost_ret (v := .tuple #[.slice Az zs.length cz, .int .i64 0]) (by simp [results, Tryz.results9, go_sem]) rfl ⟨⟨_, _, rfl, ho, HS.out⟩, hx⟩
    · have hd1 : decide ((p : Int) < (tgt.length : Int)) = false := decide_eq_false (by omega)
      have HS : Hid (SimAt src tgt zs) := Lib.hid (HG.out.done HO.out hp (.inl (by omega)))
      have hn2 : ¬ zs.length < src.length := by have := HS.out.len; omega
      go_wp2
      exact bodyPost_ret (v := .tuple #[.slice Az zs.length cz, .int .i64 0]) (by simp [results, Tryz.results9, go_sem]) rfl ⟨⟨_, _, rfl, ho, HS.out⟩, hx⟩
set_option maxRecDepth 20000 in
set_option maxHeartbeats 4000000 in
theorem IsSimulation_c (u v a : Value) (src tgt : List (List UInt8)) (zs : List Int) (w : World) (h : StrR w u src) (h' : StrR w v tgt) (ha : Ints w a zs) (hS : SimAt src tgt zs) (hn : ∀ x ∈ src, x ≠ []) (h0 : 0 < src.length) (h1 : src.length ≤ 600) (h2 : tgt.length ≤ 600) :
    Calls Tryz.prog 10 #[u, v, a] w fun e w' => e = .returned (.bool true) ∧ Ext w w' := by
  obtain ⟨A, c, rfl, a1, a2, hzz⟩ := Row.form h
  obtain ⟨B, d, rfl, b1, b2, hzy⟩ := Row.form h'
  obtain ⟨C, cc, rfl, d1, d2⟩ := ha.form
  clear hzz hzy
  have SI := simulable_c _ src w h hn h0 h1
  have hw : (zs.all fun z => inB z 0 ((tgt.length : Int) - 1)) = true := List.all_eq_true.2 fun z hz => by
    obtain ⟨k, hk, rfl⟩ := List.getElem_of_mem hz
    obtain ⟨q, e, hq, _⟩ := hS.eq k hk
    rw [e]
    exact inB_true ⟨by omega, by omega⟩
  have hd : decide (600 < (tgt.length : Int)) = false := decide_eq_false (by omega)
  have hne : ((zs.length : Int) != (src.length : Int)) = false := by rw [hS.len]; simp
  have HS := Lib.hid hS
  have FZ := fun w' (hx : Ext w w') => fromZero_c _ zs w' (Row.ext ha hx) HS.out.up HS.out.first
  have SZ := fun w' (hx : Ext w w') => sizeStr_c _ tgt w' (Row.ext h' hx)
  have AW := fun w' (hx : Ext w w') => allWithin_c _ zs 0 ((tgt.length : Int) - 1) w' (Row.ext ha hx)
  rw [hw] at AW
  have H := Lib.hid h
  have H' := Lib.hid h'
  have HA := Lib.hid ha
  clear h h' ha hn hS hw
  have hwr : IntKind.i64.wrap ((tgt.length : Int) - 1) = (tgt.length : Int) - 1 := IntWalk.i64_in _ (by omega)
  go_enter Tryz.func10, Tryz.ntmps10
  go_wp2_with fail
  refine SI.mono ?_
  rintro e w1 ⟨rfl, hx1⟩
  go_wp2_with fail
  refine (FZ w1 hx1).mono ?_
  rintro e w2 ⟨rfl, hx2⟩
  have hx12 := hx1.trans hx2
  go_wp2_with fail
  refine (SZ w2 hx12).mono ?_
  rintro e w2' ⟨rfl, rfl⟩
  go_wp2_with fail
  try rw [hwr]
  refine (AW w2 hx12).mono ?_
  rintro e w2' ⟨rfl, rfl⟩
  clear SI FZ SZ AW hx1 hx2
  go_wp2_with fail
  go_loopw [39] (fun i wr => ∃ k : Nat, k ≤ zs.length ∧ i = .int .i64 (k : Int) ∧ Ext w wr) (fun i _ => zs.length - (intOf i).toNat)
  case atStart => exact ⟨0, Nat.zero_le _, rfl, hx12⟩
  case round =>
    clear hx12
    obtain ⟨k, hk, rfl, hx⟩ := hrel
    by_cases hlt : k < zs.length
    · have hd1 : decide ((k : Int) < (zs.length : Int)) = true := decide_eq_true (by omega)
      obtain ⟨q, hq, hqt, heq⟩ := HS.out.eq k hlt
      have hks : k < src.length := by have := HS.out.len; omega
      obtain ⟨bz, oz, rfl, hcz⟩ := HA.out.at hlt
      obtain ⟨b, off, rfl, c0⟩ := StrR.at H.out hks
      obtain ⟨b', off', rfl, c0'⟩ := StrR.at H'.out hqt
      have cz := hx.cell (hcz k hlt)
      rw [hq] at cz
      have c0 := hx.cell c0
      have c0' := hx.cell c0'
      rw [get_opt hqt hks] at heq
      rw [heq] at c0'
      have hnn : ((bsS src[k]).toList != (bsS src[k]).toList) = false := by simp
      clear hcz hq heq
      generalize bsS src[k] = s at *
      go_wp2
      go_quiet (fail)
      go_wp2
      go_roundw
      case rel => exact ⟨k + 1, by omega, by go_num, hx.trans (Ext.drewN _ _)⟩
      case measure => simp [intOf]; omega
    · have hd1 : decide ((k : Int) < (zs.length : Int)) = false := decide_eq_false (by omega)
      go_wp2
      go_ret
      exact ⟨rfl, hx⟩
end Go.Proofs.YtgeckhjkahnonaaGreatDoor
end
section
set_option linter.unusedVariables false
set_option linter.unusedSimpArgs false
namespace Go.Proofs.YtgeckhjkahnonaaGreatDoor
open Go Go.RowKit Go.Proofs Go.Maps
set_option maxHeartbeats 400000
/-- A list with some elements from a place on put in. -/
def setL : List Value → Nat → List Value → List Value
  | cl, _, [] => cl
  | cl, o, v :: r => setL (cl.set o v) (o + 1) r
theorem MCells.take {base : Nat} {w : World} {cl : List Value} {rs : List MRuleD} (h : MCells base w cl rs) {k : Nat} (hk : k ≤ rs.length) : MCells base w (cl.take (k * 5)) (rs.take k) := by
  obtain ⟨a, b⟩ := h
  refine ⟨by simp [a] <;> omega, fun i hi => ?_⟩
  have hi2 : i < k := by simp at hi; omega
  obtain ⟨vr, vw, vm, c0, c1, c2, c3, c4, o⟩ := b i (by omega)
  have t : ∀ c, c < 5 → (cl.take (k * 5))[i * 5 + c]? = cl[i * 5 + c]? := fun c hc => List.getElem?_take_of_lt (by omega)
  have e : (rs.take k)[i] = rs[i] := by simp
  rw [e]
  exact ⟨vr, vw, vm, (t 0 (by omega)).trans c0, (t 1 (by omega)).trans c1, (t 2 (by omega)).trans c2, (t 3 (by omega)).trans c3, (t 4 (by omega)).trans c4, o⟩
theorem MCells.drop {base : Nat} {w : World} {cl : List Value} {rs : List MRuleD} (h : MCells base w cl rs) {k : Nat} (hk : k ≤ rs.length) : MCells base w (cl.drop (k * 5)) (rs.drop k) := by
  obtain ⟨a, b⟩ := h
  refine ⟨by simp [a]; omega, fun i hi => ?_⟩
  have hi2 : k + i < rs.length := by simp at hi; omega
  obtain ⟨vr, vw, vm, c0, c1, c2, c3, c4, o⟩ := b (k + i) hi2
  have t : ∀ c, (cl.drop (k * 5))[i * 5 + c]? = cl[(k + i) * 5 + c]? := fun c => by
    rw [List.getElem?_drop]
    congr 1
    omega
  have e : (rs.drop k)[i] = rs[k + i] := by simp
  rw [e]
  exact ⟨vr, vw, vm, (t 0).trans c0, (t 1).trans c1, (t 2).trans c2, (t 3).trans c3, (t 4).trans c4, o⟩
theorem OwnRul.ext {base : Nat} {w w' : World} {v : Value} {r : MRuleD} (h : OwnRul base w v r) (he : Ext w w') : OwnRul base w' v r := by
  obtain ⟨vr, vw, vm, e, o1, o2, o3⟩ := h
  exact ⟨vr, vw, vm, e, OwnInts.ext o1 he, OwnInts.ext o2 he, OwnInts.ext o3 he⟩
end Go.Proofs.YtgeckhjkahnonaaGreatDoor
end
section
set_option linter.unusedVariables false
set_option linter.unusedSimpArgs false
namespace Go.Proofs.YtgeckhjkahnonaaGreatDoor
open Go Go.RowKit Go.Proofs
theorem cmpL_anti : ∀ xs ys : List Int, cmpL xs ys < 0 ∨ xs = ys ∨ cmpL ys xs < 0
  | [], [] => .inr (.inl rfl)
  | [], _ :: _ => .inl (by simp [cmpL])
  | _ :: _, [] => .inr (.inr (by simp [cmpL]))
  | a :: s, b :: t => by
    by_cases h1 : a < b
    · left; simp [cmpL, h1]
    · by_cases h2 : b < a
      · right; right; simp [cmpL, h2]
      · obtain rfl : a = b := by omega
        rcases cmpL_anti s t with h | h | h
        · left; simpa [cmpL] using h
        · right; left; rw [h]
        · right; right; simpa [cmpL] using h
/-- Two rules do not read the same. -/
def Apart (a b : MRuleD) : Prop := a.st ≠ b.st ∨ a.rd ≠ b.rd
theorem Apart.symm {a b : MRuleD} (h : Apart a b) : Apart b a := by
  rcases h with h | h
  · exact .inl fun e => h e.symm
  · exact .inr fun e => h e.symm
theorem Apart.lt {a b : MRuleD} (h : Apart a b) (hn : ¬ cmpM b a < 0) : cmpM a b < 0 := by
  unfold cmpM at *
  by_cases e : a.st = b.st
  · rw [if_pos e]
    rw [if_pos e.symm] at hn
    rcases cmpL_anti a.rd b.rd with h1 | h1 | h1
    · exact h1
    · rcases h with h | h
      · exact absurd e h
      · exact absurd h1 h
    · exact absurd h1 hn
  · rw [if_neg e]
    rw [if_neg (fun h => e h.symm)] at hn
    split
    · decide
    · exact absurd (by rw [if_pos (by omega)]; decide) hn
theorem getD_mr {rs : List MRuleD} {i : Nat} (h : i < rs.length) : rs.getD i mr0 = rs[i] := by rw [List.getD_eq_getElem?_getD, List.getElem?_eq_getElem h]; rfl
theorem multi_of {m : MultiD} (h1 : inB m.tp 2 3 = true) (h2 : inB m.sy 2 3 = true) (h3 : inB m.st 1 16 = true) (h4 : m.rules.length ≤ 60) (h5 : ∀ r ∈ m.rules, mruleOk m r = true)
    (h6 : ∀ k, 0 < k → k < m.rules.length → cmpM (m.rules.getD (k - 1) mr0) (m.rules.getD k mr0) < 0) : multiOk m = true := by
  simp only [multiOk, Bool.and_eq_true, decide_eq_true_eq, List.all_eq_true, List.mem_range]
  refine ⟨⟨⟨⟨h1, h2⟩, h3⟩, h4⟩, fun k hk => ?_⟩
  simp only [mstepOk, Bool.and_eq_true, Bool.or_eq_true, decide_eq_true_eq]
  refine ⟨by rw [getD_mr hk]; exact h5 _ (List.getElem_mem hk), ?_⟩
  by_cases e : k = 0
  · exact .inl e
  · exact .inr (h6 k (by omega) hk)
end Go.Proofs.YtgeckhjkahnonaaGreatDoor
end
