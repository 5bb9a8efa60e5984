/- Contracts of the program's sorted list and of its test whether a list is an order of the numbers below n.
Contracts of the program's lists in another order, and of its exchange of tapes. -/
import Derived.Test.YtkbpchdncljlbaaT29
import Derived.Test.YtkbpchdncljlbaaT05
import Derived.Sort.OwnSortedInts
section
set_option linter.unusedSimpArgs false
set_option linter.unusedVariables false
namespace Go.Proofs.Ytkbpchdncljlbaa
open Go Go.RowKit Go.Proofs
set_option maxHeartbeats 400000
/-- A list, sorted. -/
def sortL (zs : List Int) : List Int := zs.mergeSort fun x y => decide (x ≤ y)
theorem sortL_len (zs : List Int) : (sortL zs).length = zs.length := List.length_mergeSort zs
theorem SortList_c (v : Value) (zs : List Int) (w : World) (h : Ints w v zs) (h0 : 0 < zs.length) (h1 : zs.length ≤ 1048576) :
    Calls Try.prog 70 #[v] w fun e w' => ∃ u, e = .returned u ∧ OwnInts w.heap.size w' u (sortL zs) ∧ Ext w w' := by
  obtain ⟨A, c, rfl, _, _⟩ := id h.form
  have hf : Flat (.slice A zs.length c) := by
    obtain ⟨b, off, rfl, _⟩ := h.at h0
    exact .inr ⟨b, off, _, c, rfl⟩
  go_enter Try.func70, Try.ntmps70
  go_wp2_with fail
  refine (CloneF_c _ zs w h hf h1).mono ?_
  rintro e w1 ⟨u, rfl, ho, hne, hx⟩
  rcases ho.2 with ⟨rfl, _⟩ | ⟨g, cap, cur, rfl, hg, hb, hn, hm, hs, ht⟩
  · have := hne rfl
    subst this
    simp at h0
  have hH : Sort.Holds (Value.int .i64) w1 g 0 zs.toArray := holds_of_blockI hb (by simpa [ivs] using ht)
  have hlt : g < w1.heap.size := (Array.getElem?_eq_some_iff.1 hb).1
  go_wp2_with fail
  refine (Try.slices_Sort_int g 0 cap zs w1 hH hlt (by omega)).mono ?_
  rintro e w2 ⟨rfl, n, os, rfl⟩
  have hown := ownsRow_sortedI (n := n) (os := os) (ss := zs) (ts := sortL zs) (sortL_len zs) hg hb hn hm hs
  have hxx : Ext w (Sort.grow (Sort.putRow (Value.int .i64) (Sort.ahead w1 n) g 0 (sortL zs).toArray) os) := hx.grown (grownBy_sortedI (g := g) _) (fun k hk => by injection hk with hk; omega)
  unfold sortL at hown hxx
  generalize Sort.grow (Sort.putRow (Value.int .i64) (Sort.ahead w1 n) g 0 (zs.mergeSort fun x y => decide (x ≤ y)).toArray) os = W at *
  go_wp2
  go_ret
  refine ⟨_, rfl, ?_, hxx⟩
  unfold OwnInts
  rw [sortL_len]
  exact hown
/-- Is a list an order of the numbers below n. -/
def isOrd (order : List Int) (n : Int) : Bool := decide ((order.length : Int) = n) && decide (sortL order = upL order.length)
theorem upL_get (n k : Nat) (h : k < n) : (upL n)[k]'(by rw [upL_len]; exact h) = (k : Int) := by simp [upL]
theorem isOrder_c (v : Value) (zs : List Int) (n : Int) (w : World) (h : Ints w v zs) (h0 : 0 < zs.length) (h1 : zs.length ≤ 1048576) :
    Calls Try.prog 39 #[v, .int .i64 n] w fun e w' => e = .returned (.bool (isOrd zs n)) ∧ Ext w w' := by
  obtain ⟨A, c, rfl, hc1, hc2⟩ := id h.form
  by_cases hn : (zs.length : Int) = n
  · have hd : ((zs.length : Int) != n) = false := by simp [hn]
    have HN := Lib.hid hn
    clear hn
    go_enter Try.func39, Try.ntmps39
    go_wp2_with fail
    refine (sizeInt_c _ _ _ h).mono ?_
    rintro e w1 ⟨rfl, rfl⟩
    go_wp2_with fail
    refine (SortList_c _ _ _ h h0 h1).mono ?_
    rintro e w2 ⟨u, rfl, ho, hx⟩
    have HS : Hid (isOrd zs n = decide (sortL zs = upL zs.length)) := by unfold Hid isOrd; rw [decide_eq_true HN.out]; rfl
    have hsl := sortL_len zs
    have hi := ho.ints
    generalize sortL zs = ss at *
    obtain ⟨B, d, rfl, hB1, hB2⟩ := id hi.form
    go_wp2
    go_loop [14] (fun i => ∃ k : Nat, k ≤ ss.length ∧ i = .int .i64 k ∧ takeEq ss (upL zs.length) k) (fun i => ss.length - (intOf i).toNat)
    case atStart => exact ⟨0, Nat.zero_le _, rfl, rfl⟩
    case round =>
      obtain ⟨k, hk, rfl, ht⟩ := hrel
      by_cases hlt : k < ss.length
      · obtain ⟨b, off, rfl, hc⟩ := hi.at hlt
        have c0 := hc k hlt
        clear hc
        have hkz : k < zs.length := by omega
        have hg := upL_get zs.length k hkz
        by_cases he : ss[k] = (k : Int)
        · have H : (ss[k] != (k : Int)) = false := by simp [he]
          have HE := Lib.hid he
          have HG := Lib.hid hg
          clear he hg
          go_wp2
          go_round
          case rel => exact ⟨k + 1, by omega, by go_num, takeEq_step ht hlt (by rw [upL_len]; omega) (by rw [HE.out, HG.out])⟩
          case measure => simp [intOf]; omega
        · have H : (ss[k] != (k : Int)) = true := by simp [he]
          have HE := Lib.hid he
          have HG := Lib.hid hg
          clear he hg
          go_wp2
          go_ret
          refine ⟨?_, hx⟩
          rw [HS.out]
          exact ret_bool (decide_eq_false (ne_of_get hlt (by rw [upL_len]; omega) (by rw [HG.out]; exact HE.out))).symm
      · go_wp2
        go_ret
        refine ⟨?_, hx⟩
        rw [HS.out]
        exact ret_bool (decide_eq_true (eq_of_takeEq ht (by omega) (by rw [upL_len]; omega))).symm
  · have hd : ((zs.length : Int) != n) = true := by simp [hn]
    have HN := Lib.hid hn
    clear hn
    go_enter Try.func39, Try.ntmps39
    go_wp2_with fail
    refine (sizeInt_c _ _ _ h).mono ?_
    rintro e w1 ⟨rfl, rfl⟩
    go_wp2
    go_ret
    exact ⟨by simp [isOrd, HN.out], Ext.refl _⟩
end Go.Proofs.Ytkbpchdncljlbaa
end
section
set_option linter.unusedVariables false
set_option linter.unusedSimpArgs false
namespace Go.Proofs.Ytkbpchdncljlbaa
open Go Go.RowKit Go.Proofs Go.Maps
set_option maxHeartbeats 400000
def permL (xs os : List Int) : List Int := os.map fun k => xs.getD k.toNat 0
theorem permL_len (xs os : List Int) : (permL xs os).length = os.length := by simp [permL]
theorem permL_snoc (xs os : List Int) (k : Nat) (h : k < os.length) : permL xs (os.take (k + 1)) = permL xs (os.take k) ++ [xs.getD os[k].toNat 0] := by
  unfold permL
  rw [List.take_succ_eq_append_getElem h, List.map_append]
  rfl
theorem intInfoZ : (Try.prog.info? 2).map (fun i => (i.zero, i.size, i.bytes)) = some (some (.int .i64 0), 1, 8) := by kernel_rfl
set_option maxRecDepth 20000 in
theorem permuted_c (lv ov : Value) (xs os : List Int) (w : World) (hl : Ints w lv xs) (ho : Ints w ov os) (hr : ∀ k ∈ os, 0 ≤ k ∧ k < (xs.length : Int)) (hn : os.length ≤ 1000) :
    Calls Try.prog 40 #[lv, ov] w fun e w' => ∃ u, e = .returned u ∧ OwnInts w.heap.size w' u (permL xs os) ∧ Ext w w' := by
  obtain ⟨i0, hi0, hz0, hz1, hz2⟩ := info_parts intInfoZ
  obtain ⟨A, c, rfl, _, _⟩ := hl.form
  obtain ⟨B, d, rfl, _, _⟩ := ho.form
  obtain ⟨W, hW⟩ : ∃ W, W = w.alloc (.cells #[] 2) := ⟨_, rfl⟩
  have hX : Ext w W := by rw [hW]; exact Ext.alloc _ _
  have st0 : OwnInts w.heap.size W (.slice (some ⟨w.heap.size, 0, none⟩) 0 0) (permL xs (os.take 0)) :=
    ⟨by simp [ivs, permL], .inr ⟨w.heap.size, 0, #[], rfl, Nat.le_refl _, by rw [hW]; exact heap_alloc_new w _, by simp [permL], by unfold maxLen; omega, rfl, by simp [ivs, permL]⟩⟩
  go_enter Try.func40, Try.ntmps40
  go_wp2_with fail
  try rw [← hW]
  clear hW
  go_loopw [5, 11] (fun u i wr => ∃ k : Nat, k ≤ os.length ∧ i = .int .i64 (k : Int) ∧ OwnInts w.heap.size wr u (permL xs (os.take k)) ∧ Ext w wr) (fun _ i _ => os.length - (intOf i).toNat)
  case atStart => exact ⟨0, Nat.zero_le _, rfl, st0, hX⟩
  case round =>
    clear st0 hX
    obtain ⟨k, hk, rfl, st, hx⟩ := hrel
    obtain ⟨Au, cu, rfl, _, _⟩ := st.ints.form
    have hlk : (permL xs (os.take k)).length = k := by rw [permL_len]; simp; omega
    by_cases hlt : k < os.length
    · obtain ⟨b, off, rfl, hc⟩ := ho.at hlt
      have x0 := hx.cell (hc k hlt)
      obtain ⟨h0, h1⟩ := hr _ (List.getElem_mem hlt)
      have HSN := Lib.hid (permL_snoc xs os k hlt)
      obtain ⟨z, hz⟩ : ∃ z, os[k] = z := ⟨_, rfl⟩
      rw [hz] at x0 h0 h1 HSN
      obtain ⟨zn, rfl⟩ : ∃ n : Nat, z = (n : Int) := ⟨z.toNat, by omega⟩
      have hzn : zn < xs.length := by omega
      obtain ⟨b2, off2, rfl, hc2⟩ := hl.at hzn
      have x1 := hx.cell (hc2 zn hzn)
      have e1 : xs.getD ((zn : Int)).toNat 0 = xs[zn] := by simp [List.getD_eq_getElem?_getD, hzn]
      rw [e1] at HSN
      obtain ⟨y, hy⟩ : ∃ y, xs[zn] = y := ⟨_, rfl⟩
      rw [hy] at x1 HSN
      rw [hlk] at st
      have ho1 : wr.ownsRow w.heap.size 2 1 (.slice Au k cu) k (ivs (permL xs (os.take k))) := by
        have := st
        unfold OwnInts at this
        rwa [hlk] at this
      have ho' := ho1.alloc (.cells #[.int .i64 y] 2)
      have hxa := hx.trans (Ext.alloc wr (.cells #[.int .i64 y] 2))
      have hs := hx.size
      clear hc hc2 hz hy e1 st
      rw [hlk]
      go_wp2_with (at_builtin; refine wpList_append_own_at _ rfl _ _ 24 rfl w.heap.size 2 i0 (.int .i64 0) 1 8 Try.underlying24 hi0 hz0 hz1 hz2 rfl (by decide) _ _ _ rfl ho' ⟨wr.heap.size, 0, none⟩ 1 1 [.int .i64 y] rfl rfl (cell_one_new _ _ _) ?c2 ?c3 ?c4 ?c5 ?_)
      case c2 => intro u hu; simp at hu; subst hu; rfl
      case c3 => unfold maxLen; omega
      case c4 => omega
      case c5 => simp; omega
      intro v' w4 hown4 hg4 _ hloc
      obtain ⟨A', c', rfl, _, _, _⟩ := (ownsRow_row hown4).form
      have HS : Hid (OwnInts w.heap.size w4 (.slice A' (k + 1) c') (permL xs (os.take (k + 1)))) := by
        unfold Hid
        rw [HSN.out]
        unfold OwnInts
        have : (permL xs (os.take k) ++ [y]).length = k + 1 := by simp [hlk]
        rw [this]
        simpa [ivs_append, ivs] using hown4
      have HX := Lib.hid (hxa.grown hg4 (fun q hq => (ho1.lt q hq).1))
      clear ho' ho1 hown4 hg4 hxa hx hlk
      go_wp2
      go_roundw
      case rel => exact ⟨k + 1, by omega, by go_num, HS.out, HX.out⟩
      case measure => simp [intOf]; omega
    · obtain rfl : k = os.length := by omega
      rw [List.take_length] at st hlk
      rw [hlk] at st
      have HS := Lib.hid st
      have HX := Lib.hid hx
      clear st hx
      rw [List.take_length, hlk]
      go_wp2
      go_ret
      exact ⟨_, rfl, HS.out, HX.out⟩
def permR (os : List Int) (r : MRuleD) : MRuleD := ⟨r.st, permL r.rd os, permL r.wr os, permL r.mv os, r.nx⟩
set_option maxRecDepth 20000 in
set_option maxHeartbeats 4000000 in
theorem PermuteTapes_c (m : MultiD) (mv ov : Value) (os : List Int) (w : World) (hM : Mult w mv m) (hm : multiOk m = true) (hO : Ints w ov os) (ho : isOrd os m.tp = true) (hon : ∀ k ∈ os, 0 ≤ k ∧ k < m.tp) (hol : os.length ≤ 1000) (h0 : 0 < m.rules.length) (h12 : m.rules.length ≤ 12) :
    Calls Try.prog 13 #[mv, ov] w fun e w' => ∃ v rs', e = .returned (.tuple #[.agg #[.int .i64 m.tp, .int .i64 m.sy, .int .i64 m.st, v], .int .i64 0]) ∧ rs'.Perm (m.rules.map (permR os)) ∧ SortedM rs' ∧ MRules w' v rs' ∧ Ext w w' := by
  obtain ⟨rv, rfl, hR⟩ := id hM
  obtain ⟨A, cA, rfl, _, _⟩ := hR.form
  obtain ⟨B, cB, rfl, _, _⟩ := id hO.form
  obtain ⟨i0, hi, hz0, hz1, hz2⟩ := info_parts mruleInfo
  obtain ⟨⟨tp1, tp2⟩, ⟨sy1, sy2⟩, ⟨st1, st2⟩, _, _⟩ := multi_all hm
  obtain ⟨V, hV⟩ : ∃ V, V = (w.alloc (.cells #[.int .i64 m.tp, .int .i64 m.sy, .int .i64 m.st, .slice A m.rules.length cA] 29)).alloc (.cells #[.int .i64 0, .int .i64 0, .int .i64 0, .slice none 0 0] 29) := ⟨_, rfl⟩
  have hX : Ext w V := by rw [hV]; exact (Ext.alloc _ _).trans (Ext.alloc _ _)
  obtain ⟨g, hg⟩ : ∃ g, w.heap.size = g := ⟨_, rfl⟩
  have bM : Blk V g 29 #[.int .i64 m.tp, .int .i64 m.sy, .int .i64 m.st, .slice A m.rules.length cA] := by rw [hV]; exact (Blk.new _ _ _ _ hg).alloc _
  have bO : Blk V (g + 1) 29 #[.int .i64 0, .int .i64 0, .int .i64 0, .slice none 0 0] := by rw [hV]; exact Blk.new _ _ _ _ (by simp [hg])
  have m0 := bM.cell 0
  have m1 := bM.cell 1
  have m2 := bM.cell 2
  have m3 := bM.cell 3
  simp only [List.getElem?_toArray, List.getElem?_cons_zero, List.getElem?_cons_succ] at m0 m1 m2 m3
  have VM := ValidMulti_c (.agg #[.int .i64 m.tp, .int .i64 m.sy, .int .i64 m.st, .slice A m.rules.length cA]) m V (hM.ext hX)
  rw [hm] at VM
  have HM := Lib.hid hm
  clear hm
  go_enter Try.func13, Try.ntmps13
  go_wp2_with fail
  try rw [← hV]
  try rw [hg]
  clear hV
  refine VM.mono ?_
  rintro e w1 ⟨rfl, hx1⟩
  have IO := isOrder_c _ os m.tp w1 (hO.ext (hX.trans hx1)) (by simp only [isOrd, Bool.and_eq_true, decide_eq_true_eq] at ho; omega) (by omega)
  rw [ho] at IO
  have k0 := (bM.ext hx1).cell 0
  simp only [List.getElem?_toArray, List.getElem?_cons_zero, List.getElem?_cons_succ] at k0
  clear m0 m1 m2 m3
  go_wp2_with fail
  refine IO.mono ?_
  rintro e w2 ⟨rfl, hx2⟩
  have bM2 := (bM.ext hx1).ext hx2
  have bO2 := (bO.ext hx1).ext hx2
  have hX2 := hX.trans (hx1.trans hx2)
  have m0 := bM2.cell 0
  have m1 := bM2.cell 1
  have m2 := bM2.cell 2
  have m3 := bM2.cell 3
  simp only [List.getElem?_toArray, List.getElem?_cons_zero, List.getElem?_cons_succ] at m0 m1 m2 m3
  obtain ⟨W, hWW⟩ : ∃ W, W = w2.alloc (.cells #[.int .i64 m.tp, .int .i64 m.sy, .int .i64 m.st, .slice none 0 0] 29) := ⟨_, rfl⟩
  obtain ⟨gc, hgc⟩ : ∃ gc, w2.heap.size = gc := ⟨_, rfl⟩
  have hXW : Ext w2 W := by rw [hWW]; exact Ext.alloc _ _
  have hgl : g + 1 < w2.heap.size := bO2.lt
  have hgl1 : g < w2.heap.size := bM2.lt
  have hgl' : g + 1 < gc := by rw [← hgc]; exact hgl
  have hgl2 : g < gc := by omega
  have bC2 : Blk W gc 29 #[.int .i64 m.tp, .int .i64 m.sy, .int .i64 m.st, .slice none 0 0] := by rw [hWW]; exact Blk.new _ _ _ _ hgc
  have bMW := bM2.ext hXW
  have bOW := bO2.ext hXW
  have hXWW := hX2.trans hXW
  have st0 : OwnMR (gc + 1) W (.slice none 0 0) ((m.rules.take 0).map (permR os)) := ⟨[], World.ownsRow_nil .., MCells.nil _ _⟩
  clear k0 IO VM hX hX2 hx1 hx2 bM bO hXW
  go_wp2_with fail
  try rw [← hWW]
  try rw [hgc]
  clear hWW m0 m1 m2 m3
  go_loopw [29] (fun u wr => ∃ (k : Nat) (v : Value), k ≤ m.rules.length ∧ u = .int .i64 (k : Int) ∧ OwnMR (gc + 1) wr v ((m.rules.take k).map (permR os)) ∧ Ext w wr ∧ Blk wr g 29 #[.int .i64 m.tp, .int .i64 m.sy, .int .i64 m.st, .slice A m.rules.length cA] ∧ Blk wr (g + 1) 29 #[.int .i64 0, .int .i64 0, .int .i64 0, .slice none 0 0] ∧ Blk wr gc 29 #[.int .i64 m.tp, .int .i64 m.sy, .int .i64 m.st, v]) (fun u _ => m.rules.length - (intOf u).toNat)
  case atStart => exact ⟨0, _, Nat.zero_le _, rfl, st0, hXWW, bMW, bOW, bC2⟩
  case round =>
    clear st0 hXWW bMW bOW bC2 bM2 bO2
    obtain ⟨k, v, hk, rfl, st, hx, bM, bO, bC⟩ := hrel
    have hlk : ((m.rules.take k).map (permR os)).length = k := by simp; omega
    by_cases hlt : k < m.rules.length
    · have hrr := hR.ext hx
      obtain ⟨b, off, vr, vw, vm, rfl, c0, c1, c2, c3, c4, j1, j2, j3⟩ := hrr.at hlt
      have hro := multi_rule HM.out hlt
      have HTK : Hid ((m.rules.take (k + 1)).map (permR os) = (m.rules.take k).map (permR os) ++ [permR os m.rules[k]]) := by
        unfold Hid
        rw [List.take_succ_eq_append_getElem hlt, List.map_append]
        rfl
      obtain ⟨r, hrk⟩ : ∃ r, m.rules[k] = r := ⟨_, rfl⟩
      rw [hrk] at c0 c4 j1 j2 j3 hro HTK
      obtain ⟨_, _, l1, l2, l3, _⟩ := mrule_all hro
      have n1 : ∀ z ∈ os, 0 ≤ z ∧ z < (r.rd.length : Int) := fun z hz => by have := hon z hz; omega
      have n2 : ∀ z ∈ os, 0 ≤ z ∧ z < (r.wr.length : Int) := fun z hz => by have := hon z hz; omega
      have n3 : ∀ z ∈ os, 0 ≤ z ∧ z < (r.mv.length : Int) := fun z hz => by have := hon z hz; omega
      obtain ⟨A1, k1, rfl, _, _⟩ := j1.form
      obtain ⟨A2, k2, rfl, _, _⟩ := j2.form
      obtain ⟨A3, k3, rfl, _, _⟩ := j3.form
      obtain ⟨cl, ho1, hcl⟩ := st
      rw [hlk] at ho1
      obtain ⟨Av, cv, rfl, _, _, _⟩ := (ownsRow_row ho1).form
      obtain ⟨X, hXX⟩ : ∃ X, X = wr.alloc (.cells #[.int .i64 r.st, .slice A1 r.rd.length k1, .slice A2 r.wr.length k2, .slice A3 r.mv.length k3, .int .i64 r.nx] 70) := ⟨_, rfl⟩
      obtain ⟨gx, hgx⟩ : ∃ z, wr.heap.size = z := ⟨_, rfl⟩
      have hX1 : Ext wr X := by rw [hXX]; exact Ext.alloc _ _
      have bX : Blk X gx 70 #[.int .i64 r.st, .slice A1 r.rd.length k1, .slice A2 r.wr.length k2, .slice A3 r.mv.length k3, .int .i64 r.nx] := by rw [hXX]; exact Blk.new _ _ _ _ hgx
      have y0 := bX.drew.cell 0
      have y1 := bX.drew.cell 1
      have y2 := bX.drew.cell 2
      have y3 := bX.drew.cell 3
      have y4 := bX.drew.cell 4
      have z3 := (bC.ext hX1).drew.cell 3
      simp only [List.getElem?_toArray, List.getElem?_cons_zero, List.getElem?_cons_succ] at y0 y1 y2 y3 y4 z3
      have hxd : Ext wr X.drew := hX1.trans (Ext.drew _)
      have PC := fun (W : World) (he : Ext X.drew W) => permuted_c (.slice A1 r.rd.length k1) (.slice B os.length cB) r.rd os W (j1.ext (hxd.trans he)) (hO.ext (hx.trans (hxd.trans he))) n1 hol
      have PC2 := fun (W : World) (he : Ext X.drew W) => permuted_c (.slice A2 r.wr.length k2) (.slice B os.length cB) r.wr os W (j2.ext (hxd.trans he)) (hO.ext (hx.trans (hxd.trans he))) n2 hol
      have PC3 := fun (W : World) (he : Ext X.drew W) => permuted_c (.slice A3 r.mv.length k3) (.slice B os.length cB) r.mv os W (j3.ext (hxd.trans he)) (hO.ext (hx.trans (hxd.trans he))) n3 hol
      have hgcx : gc + 1 ≤ gx := by rw [← hgx]; exact bC.lt
      have hsX : gx ≤ X.drew.heap.size := by rw [← hgx]; exact hX1.size
      clear hrk hro hrr l1 l2 l3 n1 n2 n3
      go_wp2_with fail
      try rw [← hXX]
      try rw [hgx]
      clear hXX
      refine wp_region_ord 20 [0, 1, 2, 3, 4, 5, 6, 8, 9, 10, 12, 13, 14, 16, 17, 7, 11, 15, 18, 19] (by kernel_rfl) (by kernel_rfl) (fun _ _ _ _ _ h => h) ?_
      simp only [pickO, List.drop_succ_cons, List.drop_zero, List.head?_cons, Option.elim_some]
      repeat (refine wpOrd_read (v := ?_) (by rfl) (Or.inl ⟨by rfl, fun x hx => ?_⟩) ?_; rotate_left; (· have a0 := hx.cell y0; have a1 := hx.cell y1; have a2 := hx.cell y2; have a3 := hx.cell y3; have a4 := hx.cell y4; have a5 := hx.cell z3; go_simp; try with_reducible rfl); simp only [Act.put, List.setIfInBounds_toArray, List.set_cons_zero, List.set_cons_succ])
      refine wpOrd_stir (by rfl) (fun K hK => ?_)
      go_simp
      go_at_call 40
      refine (PC _ (Ext.refl _)).mono ?_
      rintro e w3 ⟨u1, rfl, o1, hx3⟩
      obtain ⟨B1, d1, rfl, _, _⟩ := id o1.ints.form
      refine hK _ _ hx3 ?_
      clear hK K
      try simp only [Act.put, List.setIfInBounds_toArray, List.set_cons_zero, List.set_cons_succ]
      refine wpOrd_stir (by rfl) (fun K hK => ?_)
      go_simp
      go_at_call 40
      refine (PC2 _ hx3).mono ?_
      rintro e w4 ⟨u2, rfl, o2, hx4⟩
      obtain ⟨B2, d2, rfl, _, _⟩ := id o2.ints.form
      refine hK _ _ hx4 ?_
      clear hK K
      try simp only [Act.put, List.setIfInBounds_toArray, List.set_cons_zero, List.set_cons_succ]
      refine wpOrd_stir (by rfl) (fun K hK => ?_)
      go_simp
      go_at_call 40
      refine (PC3 _ (hx3.trans hx4)).mono ?_
      rintro e w5 ⟨u3, rfl, o3, hx5⟩
      obtain ⟨B3, d3, rfl, _, _⟩ := id o3.ints.form
      refine hK _ _ hx5 ?_
      clear hK K
      try simp only [Act.put, List.setIfInBounds_toArray, List.set_cons_zero, List.set_cons_succ]
      repeat (refine wpOrd_read (v := ?_) (by rfl) (Or.inl ⟨by rfl, fun x hx => ?_⟩) ?_; rotate_left; (· go_simp; try with_reducible rfl); simp only [Act.put, List.setIfInBounds_toArray, List.set_cons_zero, List.set_cons_succ])
      refine wpOrd_stir (by rfl) (fun K hK => ?_)
      go_simp
      refine hK _ _ (Ext.alloc _ _) ?_
      clear hK K
      try simp only [Act.put, List.setIfInBounds_toArray, List.set_cons_zero, List.set_cons_succ]
      refine wpOrd_done ?_
      try simp only [List.drop_succ_cons, List.drop_zero]
      obtain ⟨W6, hW6⟩ : ∃ W6, W6 = w5.alloc (.cells #[.int .i64 r.st, .slice B1 (permL r.rd os).length d1, .slice B2 (permL r.wr os).length d2, .slice B3 (permL r.mv os).length d3, .int .i64 r.nx] 70) := ⟨_, rfl⟩
      have eA : Ext w5 W6 := by rw [hW6]; exact Ext.alloc _ _
      have bN : Blk W6 w5.heap.size 70 #[.int .i64 r.st, .slice B1 (permL r.rd os).length d1, .slice B2 (permL r.wr os).length d2, .slice B3 (permL r.mv os).length d3, .int .i64 r.nx] := by rw [hW6]; exact Blk.new _ _ _ _ rfl
      have hXr : Ext wr W6 := hxd.trans (hx3.trans (hx4.trans (hx5.trans eA)))
      have ho6 := ownsRow_ext ho1 hXr
      have s3 := hx3.size
      have s4 := hx4.size
      have hNL : MCells (gc + 1) W6 (mcell (permR os r) (.slice B1 (permL r.rd os).length d1) (.slice B2 (permL r.wr os).length d2) (.slice B3 (permL r.mv os).length d3)) [permR os r] :=
        MCells.one (ownsRow_base (OwnInts.ext o1 (hx4.trans (hx5.trans eA))) (by omega)) (ownsRow_base (OwnInts.ext o2 (hx5.trans eA)) (by omega)) (ownsRow_base (OwnInts.ext o3 eA) (by omega))
      have hs6 : gc + 1 ≤ W6.heap.size := by have := hx5.size; have := eA.size; omega
      clear y0 y1 y2 y3 y4 z3 PC PC2 PC3
      go_wp2_with (at_builtin; rw [← hW6]; refine wpList_append_own_at _ rfl _ _ 27 rfl (gc + 1) 70 i0 (.agg #[.int .i64 0, .slice none 0 0, .slice none 0 0, .slice none 0 0, .int .i64 0]) 5 88 Try.underlying27 hi hz0 hz1 hz2 rfl (by decide) _ _ cl rfl ho6 ⟨w5.heap.size, 0, none⟩ 1 1 (mcell (permR os r) (.slice B1 (permL r.rd os).length d1) (.slice B2 (permL r.wr os).length d2) (.slice B3 (permL r.mv os).length d3)) rfl rfl (World.news_of_block bN) ?c2 ?c3 ?c4 ?c5 ?_)
      case c2 => intro u hu; simp [mcell] at hu; rcases hu with rfl | rfl | rfl | rfl | rfl <;> rfl
      case c3 => unfold maxLen; omega
      case c4 => omega
      case c5 => exact hs6
      intro v' w7 hown7 hg7 _ _
      try rw [← hW6] at hg7
      have HS : OwnMR (gc + 1) w7 v' ((m.rules.take (k + 1)).map (permR os)) := by
        rw [HTK.out]
        exact OwnMR.push (by rw [hlk]; exact ho6) (hcl.ext hXr) hNL (by rw [hlk]; rfl) hown7 hg7
      obtain ⟨A7, c7, rfl, _, _, _⟩ := (ownsRow_row hown7).form
      have bM7 := Blk.apart (bM.ext hXr) ho6 (by decide) hg7
      have bO7 := Blk.apart (bO.ext hXr) ho6 (by decide) hg7
      have bC7 := Blk.apart (bC.ext hXr) ho6 (by decide) hg7
      have hx7 : Ext w w7 := (hx.trans hXr).grown hg7 (fun q hq => by have := (ho6.lt q hq).1; omega)
      have q3 := bC7.cell 3
      have qf := bC7.frozen 3
      simp only [List.getElem?_toArray, List.getElem?_cons_zero, List.getElem?_cons_succ] at q3
      have HS' := Lib.hid (HS.far bC7 (by decide) (by decide) 3 (.slice A7 (k + 1) c7))
      have HX := Lib.hid (hx7.setCell (p := ⟨gc, 3, none⟩) (by show w.heap.size ≤ gc; omega) (.slice A7 (k + 1) c7))
      have HO := Lib.hid (bO7.far (p := ⟨gc, 3, none⟩) (by show g + 1 ≠ gc; omega) (.slice A7 (k + 1) c7))
      have HMM := Lib.hid (bM7.far (p := ⟨gc, 3, none⟩) (by show g ≠ gc; omega) (.slice A7 (k + 1) c7))
      have HC := Lib.hid (bC7.set_ 3 (.slice A7 (k + 1) c7))
      clear hW6 eA bN hXr ho6 hNL hown7 hg7 o1 o2 o3 hx3 hx4 hx5 hx ho1 hcl HS bM bO bC bM7 bO7 bC7 hx7 bX hX1 hxd
      go_wp2_with fail
      go_roundw
      case rel => exact ⟨k + 1, _, by omega, by go_num, HS'.out, HX.out, HMM.out, HO.out, HC.out⟩
      case measure => simp [intOf]; omega
    · obtain rfl : k = m.rules.length := by omega
      rw [List.take_length] at st
      obtain ⟨rl, hrl⟩ : ∃ rl, m.rules.map (permR os) = rl := ⟨_, rfl⟩
      have hrll : rl.length = m.rules.length := by rw [← hrl]; simp
      rw [hrl] at st
      have HRL := Lib.hid hrl
      clear hrl hlk
      have SR := sortRules_c (gc + 1) wr gc m.tp m.sy m.st v rl bC st (by omega) (by omega)
      have ho9 := st
      obtain ⟨cl, ho1, _⟩ := ho9
      obtain ⟨Av, cv, rfl, _, _⟩ := st.form
      have HL := Lib.hid hrll
      clear hrll
      go_wp2_with fail
      refine SR.mono ?_
      rintro e w8 ⟨rfl, ⟨rs', hp, hs, hk8⟩, hg8⟩
      have bC8 := bC.kept hg8 (blk_ne_row bC ho1 (by decide))
      have bO8 := bO.kept hg8 (blk_ne_row bO ho1 (by decide))
      have hx8 : Ext w w8 := hx.grown hg8 (fun q hq => by have := (ho1.lt q hq).1; omega)
      have d0 := bC8.cell 0
      have d1 := bC8.cell 1
      have d2 := bC8.cell 2
      have d3 := bC8.cell 3
      simp only [List.getElem?_toArray, List.getElem?_cons_zero, List.getElem?_cons_succ] at d0 d1 d2 d3
      have ob := bO8.cell
      have of_ := bO8.frozen
      have hne : gc ≠ g + 1 := by omega
      have HP := Lib.hid hp
      have HSS := Lib.hid hs
      have HR : Hid (∀ u0 u1 u2 u3, MRules ((((w8.setCell ⟨g + 1, 0, none⟩ u0).setCell ⟨g + 1, 1, none⟩ u1).setCell ⟨g + 1, 2, none⟩ u2).setCell ⟨g + 1, 3, none⟩ u3) (.slice Av rl.length cv) rs') := Lib.hid fun u0 u1 u2 u3 =>
        hk8 _ ((((KeepB.setCell (p := ⟨g + 1, 0, none⟩) w8 (by show g + 1 < gc + 1; omega) u0).trans (KeepB.setCell (p := ⟨g + 1, 1, none⟩) _ (by show g + 1 < gc + 1; omega) u1)).trans (KeepB.setCell (p := ⟨g + 1, 2, none⟩) _ (by show g + 1 < gc + 1; omega) u2)).trans (KeepB.setCell (p := ⟨g + 1, 3, none⟩) _ (by show g + 1 < gc + 1; omega) u3))
      have HXX : Hid (∀ u0 u1 u2 u3, Ext w ((((w8.setCell ⟨g + 1, 0, none⟩ u0).setCell ⟨g + 1, 1, none⟩ u1).setCell ⟨g + 1, 2, none⟩ u2).setCell ⟨g + 1, 3, none⟩ u3)) := Lib.hid fun u0 u1 u2 u3 =>
        (((hx8.setCell (p := ⟨g + 1, 0, none⟩) (by show w.heap.size ≤ g + 1; omega) u0).setCell (p := ⟨g + 1, 1, none⟩) (by show w.heap.size ≤ g + 1; omega) u1).setCell (p := ⟨g + 1, 2, none⟩) (by show w.heap.size ≤ g + 1; omega) u2).setCell (p := ⟨g + 1, 3, none⟩) (by show w.heap.size ≤ g + 1; omega) u3
      clear hk8 hg8 hp hs hx8 hx bC bO bM bC8 bO8 SR st ho1
      go_wp2_with fail
      exact bodyPost_ret (v := .tuple #[.agg #[.int .i64 m.tp, .int .i64 m.sy, .int .i64 m.st, .slice Av rl.length cv], .int .i64 0]) (by simp [results, Try.results13, go_sem, ob]) rfl ⟨_, rs', rfl, by rw [HRL.out]; exact HP.out, HSS.out, HR.out _ _ _ _, HXX.out _ _ _ _⟩
end Go.Proofs.Ytkbpchdncljlbaa
end
