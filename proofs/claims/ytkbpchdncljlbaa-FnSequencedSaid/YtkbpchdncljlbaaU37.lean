/- Contract of the reference's lists of symbols for which a state of a valid machine has no rule.
Contract of the reference's machine of two others in sequence, where it refuses. -/
import Derived.Test.YtkbpchdncljlbaaU36
import Derived.Deep.CutBlock
import Derived.Deep.DeepCutAuto
import Derived.Test.YtkbpchdncljlbaaU32
import Derived.Test.YtkbpchdncljlbaaU35
section
set_option linter.unusedVariables false
set_option linter.unusedSimpArgs false
namespace Go.Proofs.Ytkbpchdncljlbaa
open Go Go.RowKit Go.Proofs Go.Maps
set_option maxHeartbeats 400000
/-- The next list of symbols, from behind. -/
def incR (sy : Int) : List Int → Option (List Int)
  | [] => none
  | x :: xs => if x = sy - 1 then (incR sy xs).map (fun ys => 0 :: ys) else some ((x + 1) :: xs)
def incL (sy : Int) (xs : List Int) : Option (List Int) := (incR sy xs.reverse).map List.reverse
def rankL (sy : Nat) (xs : List Int) : Nat := xs.foldl (fun n x => n * sy + x.toNat) 0
def incOk (sy n : Nat) : Bool := (List.range (allS sy n).length).all fun i => decide (incL (sy : Int) ((allS sy n).getD i []) = (allS sy n)[i + 1]?) && decide (rankL sy ((allS sy n).getD i []) = i)
theorem incOk_all {sy n : Nat} (h1 : sy = 2 ∨ sy = 3) (h2 : n = 2 ∨ n = 3) : incOk sy n = true := by
  rcases h1 with rfl | rfl <;> rcases h2 with rfl | rfl <;> decide +kernel
theorem inc_at {sy n i : Nat} (h : incOk sy n = true) (hi : i < (allS sy n).length) : incL (sy : Int) (allS sy n)[i] = (allS sy n)[i + 1]? ∧ rankL sy (allS sy n)[i] = i := by
  have := List.all_eq_true.1 h i (List.mem_range.2 hi)
  simp only [Bool.and_eq_true, decide_eq_true_eq] at this
  have e : (allS sy n).getD i [] = (allS sy n)[i] := by rw [List.getD_eq_getElem?_getD, List.getElem?_eq_getElem hi]; rfl
  rwa [e] at this
theorem incR_rep (sy : Int) : ∀ (m : Nat) (ys : List Int), incR sy (List.replicate m (sy - 1) ++ ys) = (incR sy ys).map (fun zs => List.replicate m 0 ++ zs)
  | 0, ys => by simp
  | m + 1, ys => by
    rw [List.replicate_succ, List.cons_append]
    have e : ∀ zs, incR sy ((sy - 1) :: zs) = (incR sy zs).map (fun ys => 0 :: ys) := fun zs => by simp [incR]
    rw [e, incR_rep sy m ys, Option.map_map]
    rfl
theorem tail_rep {buf : List Int} {j : Nat} {c : Int} (h : ∀ i (hi : i < buf.length), j ≤ i → buf[i] = c) : buf.drop j = List.replicate (buf.length - j) c := by
  apply List.ext_getElem (by simp)
  intro i h1 h2
  rw [List.getElem_drop, List.getElem_replicate]
  exact h _ _ (by omega)
theorem inc_some {sy : Int} {buf : List Int} {j : Nat} (hj : j < buf.length) (h : ∀ i (hi : i < buf.length), j + 1 ≤ i → buf[i] = sy - 1) (hx : buf[j] ≠ sy - 1) : incL sy buf = some (buf.take j ++ (buf[j] + 1) :: List.replicate (buf.length - (j + 1)) 0) := by
  have e : buf = buf.take j ++ (buf[j] :: List.replicate (buf.length - (j + 1)) (sy - 1)) := by
    rw [← tail_rep h, ← List.drop_eq_getElem_cons hj, List.take_append_drop]
  unfold incL
  have e2 : buf.reverse = List.replicate (buf.length - (j + 1)) (sy - 1) ++ (buf[j] :: (buf.take j).reverse) := by
    conv => lhs; rw [e]
    simp
  rw [e2, incR_rep]
  have e3 : incR sy (buf[j] :: (buf.take j).reverse) = some ((buf[j] + 1) :: (buf.take j).reverse) := by
    unfold incR
    rw [if_neg hx]
  rw [e3]
  simp
theorem inc_none {sy : Int} {buf : List Int} (h : ∀ i (hi : i < buf.length), buf[i] = sy - 1) : incL sy buf = none := by
  have e := tail_rep (buf := buf) (j := 0) (c := sy - 1) (fun i hi _ => h i hi)
  rw [List.drop_zero, Nat.sub_zero] at e
  unfold incL
  rw [e, List.reverse_replicate]
  have := incR_rep sy buf.length []
  rw [List.append_nil] at this
  rw [this]
  rfl
theorem noRule_ix {m : MultiD} {q : Int} {xs : List Int} {z : Int} (hm : multiOk m = true) (hl : (xs.length : Int) = m.tp) (h : (∃ k : Nat, k < m.rules.length ∧ z = (k : Int) ∧ isRul q xs (m.rules.getD k mr0)) ∨ (z = -1 ∧ ∀ j, j < m.rules.length → ¬ isRul q xs (m.rules.getD j mr0))) : noRuleB m.rules q xs = decide (z < 0) := by
  obtain ⟨⟨t1, t2⟩, _⟩ := multi_all hm
  rcases h with ⟨k, hk, rfl, h1, h2⟩ | ⟨rfl, h⟩
  · have e : decide ((k : Int) < 0) = false := decide_eq_false (by omega)
    rw [e]
    cases hb : noRuleB m.rules q xs with
    | false => rfl
    | true =>
      rw [getD_mr hk] at h1 h2
      exact absurd (by rw [h1, h2]) (noRule_iff.1 hb _ (List.getElem_mem hk))
  · have e : decide ((-1 : Int) < 0) = true := rfl
    rw [e]
    refine noRule_iff.2 fun r hr he => ?_
    obtain ⟨j, hj, rfl⟩ := List.getElem_of_mem hr
    have ho := mrule_all (multi_rule hm hj)
    obtain ⟨a, b⟩ := key3_inj (by have := ho.2.2.1; omega) (by have := ho.2.2.1; omega) he
    have := h j hj
    rw [getD_mr hj] at this
    exact this ⟨a, b⟩
/-- While the lists are gathered. -/
structure RdS (w : World) (gb : Nat) (buf : List Int) (lst : List (List Int)) (v : Value) (W : World) : Prop where
  ext : Ext w W
  bufB : Blk W gb 2 (ivs buf).toArray
  ll : OwnLL w.heap.size (gb + 1) W v lst
theorem RdS.ext' {w : World} {gb : Nat} {buf : List Int} {lst : List (List Int)} {v : Value} {W W' : World} (h : RdS w gb buf lst v W) (he : Ext W W') : RdS w gb buf lst v W' := ⟨h.ext.trans he, h.bufB.ext he, h.ll.ext he⟩
theorem RdS.store {w : World} {gb : Nat} {buf : List Int} {lst : List (List Int)} {v : Value} {W : World} (h : RdS w gb buf lst v W) (h2 : w.heap.size ≤ gb) (k : Nat) (z : Int) : RdS w gb (buf.set k z) lst v (W.setCell ⟨gb, k, none⟩ (.int .i64 z)) := by
  obtain ⟨cl, hl1, hl2⟩ := h.ll
  refine ⟨h.ext.setCell (p := ⟨gb, k, none⟩) h2 _, ?_, ⟨cl, ownsRow_far hl1 (fun p hp e => by
      have e : p = gb := e
      subst e
      exact blk_ne_row h.bufB hl1 (by decide) hp.symm) _, fun i hi => by
      obtain ⟨u, e, o⟩ := hl2 i hi
      exact ⟨u, e, ownsRow_far o (fun p hp e => by have := (o.lt p hp).1; have e : p = gb := e; omega) _⟩⟩⟩
  have := h.bufB.set_ k (.int .i64 z)
  have e : (ivs buf).toArray.setIfInBounds k (Value.int .i64 z) = (ivs (buf.set k z)).toArray := by
    apply Array.ext'
    simp [ivs, List.map_set]
  rwa [e] at this
theorem RdS.push {w : World} {gb : Nat} {buf xs : List Int} {lst : List (List Int)} {v v' u : Value} {cl : List Value} {W W' : World} (h : RdS w gb buf lst v W) (h1 : W.ownsRow w.heap.size 24 1 v lst.length cl) (hi : ∀ i, (h : i < lst.length) → ∃ u, cl[i]? = some u ∧ OwnInts (gb + 1) W u lst[i]) (ou : OwnInts (gb + 1) W u xs)
    (hown : W'.ownsRow w.heap.size 24 1 v' (lst.length + 1) (cl ++ [u])) (hg : W.grownBy W' v.ownBlock) : RdS w gb buf (lst ++ [xs]) v' W' := by
  have hk : ∀ {z : Value} {zs : List Int}, OwnInts (gb + 1) W z zs → OwnInts (gb + 1) W' z zs := fun {z zs} o => own_same o fun p hp => by
    rcases o.2 with ⟨rfl, _⟩ | ⟨g', cap, cur, rfl, _, hh, _⟩
    · simp [Value.ownBlock] at hp
    · simp [Value.ownBlock] at hp
      subst hp
      have hb : Blk W g' 2 cur := hh
      exact hg.block g' hb.lt (blk_ne_row hb h1 (by decide))
  refine ⟨h.ext.grown hg (fun p hp => (h1.lt p hp).1), Blk.apart h.bufB h1 (by decide) hg, ⟨cl ++ [u], by rw [List.length_append]; exact hown, fun i hi' => ?_⟩⟩
  have hcl : cl.length = lst.length := by have := h1.1; omega
  by_cases e : i < lst.length
  · obtain ⟨x, ex, ox⟩ := hi i e
    rw [List.getElem_append_left e, List.getElem?_append_left (by omega)]
    exact ⟨x, ex, hk ox⟩
  · have e2 : i = lst.length := by simp at hi'; omega
    subst e2
    refine ⟨u, by rw [← hcl]; simp, ?_⟩
    rw [List.getElem_append_right (Nat.le_refl _)]
    simpa using hk ou
def bufW (gb N : Nat) (w : World) : List Int := (List.range N).map fun j => cellI (w.cell? ⟨gb, j, none⟩)
theorem bufW_eq {gb N : Nat} {w : World} {buf : List Int} (h : Blk w gb 2 (ivs buf).toArray) (hl : buf.length = N) : bufW gb N w = buf := by
  apply List.ext_getElem (by simp [bufW, hl])
  intro i h1 h2
  have e : w.cell? ⟨gb, i, none⟩ = some (.int .i64 buf[i]) := by
    rw [h.cell]
    simp [ivs, h2]
  simp [bufW, e, cellI]
set_option maxRecDepth 20000 in
set_option maxHeartbeats 8000000 in
theorem l06Reads_c (bm : Nat) (m : MultiD) (rv : Value) (q : Int) (w : World) (hb : Blk w bm 29 #[.int .i64 m.tp, .int .i64 m.sy, .int .i64 m.st, rv]) (hR : MRules w rv m.rules) (hm : multiOk m = true) :
    Calls Try.prog 48 #[.pointer (some ⟨bm, 0, none⟩), .int .i64 q] w fun e w' => (∃ A c, e = .returned (.slice A (haltReads m q).length c) ∧ OwnLL w.heap.size w.heap.size w' (.slice A (haltReads m q).length c) (haltReads m q)) ∧ Ext w w' := by
  obtain ⟨i0, hi0, hz0, hz1, hz2⟩ := info_parts intInfo
  obtain ⟨j0, hj0, hjz0, hjz1, hjz2⟩ := info_parts rowInfoK
  obtain ⟨A, cA, rfl, _, _⟩ := hR.form
  obtain ⟨⟨t1, t2⟩, ⟨y1, y2⟩, ⟨s1, s2⟩, _, _⟩ := multi_all hm
  obtain ⟨N, hN⟩ : ∃ N : Nat, m.tp = (N : Int) := ⟨m.tp.toNat, by omega⟩
  obtain ⟨S, hS⟩ : ∃ S : Nat, m.sy = (S : Int) := ⟨m.sy.toNat, by omega⟩
  have HN := Lib.hid hN
  have HS := Lib.hid hS
  have HM := Lib.hid hm
  have hN3 : N = 2 ∨ N = 3 := by omega
  have hS3 : S = 2 ∨ S = 3 := by omega
  have hinc := incOk_all hS3 hN3
  obtain ⟨gl, hgl⟩ : ∃ g, w.heap.size = g := ⟨_, rfl⟩
  have HGL := Lib.hid hgl
  have m0 : w.cell? ⟨bm, 0, none⟩ = some (.int .i64 m.tp) := hb.cell 0
  have hbl := hb.lt
  rw [hgl] at hbl
  obtain ⟨W2, hW2⟩ : ∃ W, W = w.alloc (.cells #[] 24) := ⟨_, rfl⟩
  have hX2 : Ext w W2 := by rw [hW2]; exact Ext.alloc _ _
  have hW2s : W2.heap.size = gl + 1 := by rw [hW2]; simp [hgl]
  have ol2 : W2.ownsRow w.heap.size 24 1 (.slice (some ⟨gl, 0, none⟩) 0 0) 0 [] :=
    ⟨rfl, .inr ⟨gl, 0, #[], rfl, by omega, by rw [hW2]; exact Blk.new _ _ _ _ hgl, Nat.le_refl _, by unfold maxLen; omega, rfl, rfl⟩⟩
  clear hm hN hS
  go_enter Try.func48, Try.ntmps48
  go_upto_region 2 with fail
  try rw [hgl]
  try rw [← hW2]
  have m0' : W2.cell? ⟨bm, 0, none⟩ = some (.int .i64 m.tp) := hX2.cell m0
  clear hW2 m0 hgl
  go_wp2_with (at_make; refine wpList_make_full _ rfl _ _ 24 rfl w.heap.size 2 i0 _ 1 Try.underlying24 hi0 hz0 hz1 .i64 .i64 _ _ N rfl rfl ?d1 ?d2 ?c1 ?c2 ?c3 ?_)
  case d1 => exact HN.out
  case d2 => exact HN.out
  case c1 => rw [hz2]; omega
  case c2 => unfold maxLen; omega
  case c3 => exact hX2.size
  intro w3 hown hg3
  have hx3 : Ext W2 w3 := (Ext.refl _).grown hg3 (by simp)
  have bB3 : Blk w3 (gl + 1) 2 (madeCells #[Value.int .i64 0] N).toList.toArray := full_blk hown
  have st0 : RdS w (gl + 1) (List.replicate N 0) [] (.slice (some ⟨gl, 0, none⟩) 0 0) w3 := by
    refine ⟨hX2.trans hx3, ?_, ⟨[], ownsRow_ext ol2 hx3, fun i hi => absurd hi (by simp)⟩⟩
    have e : (ivs (List.replicate N 0)).toArray = (madeCells #[Value.int .i64 0] N).toList.toArray := by
      rw [toList_madeCells_one]
      simp [ivs]
    rw [e]
    exact bB3
  clear m0' hown hg3 hx3 bB3 ol2 hX2
  go_wp2_with fail
  obtain ⟨L, hL⟩ : ∃ L, allS S N = L := ⟨_, rfl⟩
  have hLi : ∀ i (hi : i < L.length), incL (S : Int) L[i] = L[i + 1]? ∧ rankL S L[i] = i := by
    rw [← hL]
    exact fun i hi => inc_at hinc hi
  have hLl : L.length ≤ 27 := by
    rw [← hL, allS_len]
    rcases hS3 with rfl | rfl <;> rcases hN3 with rfl | rfl <;> decide
  have hLm : ∀ xs ∈ L, xs.length = N ∧ ∀ z ∈ xs, 0 ≤ z ∧ z < S := fun xs hx => by
    rw [← hL] at hx
    exact mem_allS.1 hx
  have hL0 : L[0]? = some (List.replicate N 0) := by
    rw [← hL]
    rcases hS3 with rfl | rfl <;> rcases hN3 with rfl | rfl <;> decide +kernel
  have HL := Lib.hid hL
  have HLi := Lib.hid hLi
  have HLl := Lib.hid hLl
  have HLm := Lib.hid hLm
  have HR := Lib.hid hR
  have HB := Lib.hid hb
  have HL0 : Hid (0 < L.length) := Lib.hid (List.getElem?_eq_some_iff.1 hL0).1
  clear hL hLi hLl hLm hinc
  go_loopw [5] (fun u wr => ∃ (i : Nat) (v : Value) (buf : List Int) (lst : List (List Int)), v = u ∧ i < L.length ∧ Hid (L[i]? = some buf) ∧ Hid (lst = (L.take i).filter (noRuleB m.rules q)) ∧ RdS w (gl + 1) buf lst v wr) (fun _ wr => 27 - rankL S (bufW (gl + 1) N wr))
  case atStart => exact ⟨0, _, _, [], rfl, HL0.out, hL0, by unfold Hid; simp, st0⟩
  case round =>
    clear st0 hL0
    obtain ⟨i, v, buf, lst, hv, hi, HBI, HLS, st⟩ := hrel
    subst hv
    have hbi : L[i] = buf := by
      have := HBI.out
      rw [List.getElem?_eq_getElem hi] at this
      injection this
    have hbm := HLm.out buf (by rw [← hbi]; exact List.getElem_mem hi)
    have hbl' : buf.length = N := hbm.1
    have HBL : Hid (buf.length = N) := hbl'
    have HNX : Hid (incL (S : Int) buf = L[i + 1]? ∧ rankL S buf = i) := Lib.hid (by rw [← hbi]; exact HLi.out i hi)
    have HRK : Hid (rankL S (bufW (gl + 1) N wr) = i) := Lib.hid (by rw [bufW_eq st.bufB hbl']; exact HNX.out.2)
    have HBZ : Hid (∀ z ∈ buf, 0 ≤ z ∧ z < S) := hbm.2
    have HT1 : Hid ((L.take (i + 1)).filter (noRuleB m.rules q) = lst ++ (if noRuleB m.rules q buf then [buf] else [])) := Lib.hid (by
      rw [List.take_succ_eq_append_getElem hi, List.filter_append, HLS.out, hbi]
      congr 1
      cases hb : noRuleB m.rules q buf <;> simp [List.filter, hb])
    have ow : ∀ W, Blk W (gl + 1) 2 (ivs buf).toArray → OwnInts 0 W (.slice (some ⟨gl + 1, 0, none⟩) N N) buf := fun W h => by
      have := ownsRow_blk (base := 0) 1 N h (Nat.zero_le _) (by simp [ivs, hbl']) (by omega)
      unfold OwnInts
      rw [hbl']
      simpa using this
    have RO := l06RuleOf_c bm m _ _ q buf wr (HB.out.ext st.ext) (HR.out.ext st.ext) (ow wr st.bufB).ints
    clear hbi hbm hbl'
    go_upto_if 18 with fail
    refine RO.mono ?_
    rintro e w4 ⟨z, rfl, hz, hx4⟩
    have HNR : Hid (noRuleB m.rules q buf = decide (z < 0)) := Lib.hid (noRule_ix HM.out (by rw [HBL.out, HN.out]) hz)
    have st4 := st.ext' hx4
    have HRK4 : Hid (rankL S (bufW (gl + 1) N wr) = i) := HRK
    clear hz st hx4
    go_upto_if 18 with fail
    go_cut [5] (fun u wx => ∃ v', v' = u ∧ RdS w (gl + 1) buf ((L.take (i + 1)).filter (noRuleB m.rules q)) v' wx)
    case first =>
      by_cases hzn : z < 0
      · have HE : Hid ((L.take (i + 1)).filter (noRuleB m.rules q) = lst ++ [buf]) := Lib.hid (by rw [HT1.out, HNR.out, decide_eq_true hzn, if_pos rfl])
        have OA := l00OwnA_c _ buf w4 (ow w4 st4.bufB).ints (by rw [HBL.out]; omega)
        obtain ⟨cl, hl1, hl2⟩ := id st4.ll
        obtain ⟨Av, cv, hform, v1, v2, _⟩ := (ownsRow_row hl1).form
        subst hform
        have hgs : gl + 1 < w4.heap.size := st4.bufB.lt
        have HGS : Hid (w.heap.size ≤ gl + 1) := Lib.hid (by rw [HGL.out]; omega)
        have hsz : w.heap.size ≤ w4.heap.size := by have := HGS.out; omega
        have hln : lst.length ≤ i := by
          rw [HLS.out]
          refine Nat.le_trans (List.length_filter_le _ _) ?_
          rw [List.length_take]
          omega
        have hln2 := HLl.out
        go_wp2_with fail
        refine OA.mono ?_
        rintro e w5 ⟨u, rfl, hu, hx5⟩
        obtain ⟨Au, cu, hform, _, _⟩ := hu.ints.form
        rw [HBL.out] at hform
        subst hform
        have eA := Ext.alloc w5 (.cells #[.slice Au N cu] 24)
        have hxA := hx5.trans eA
        have st6 := st4.ext' hxA
        have hl6 := ownsRow_ext hl1 hxA
        have hu6 : OwnInts (gl + 1 + 1) (w5.alloc (.cells #[.slice Au N cu] 24)) (.slice Au N cu) buf := ownsRow_ext (ownsRow_base hu (by omega)) eA
        have H6 := Lib.hid (fun j (hj : j < lst.length) => by
          obtain ⟨x, ex, ox⟩ := hl2 j hj
          exact (⟨x, ex, ownsRow_ext ox hxA⟩ : ∃ u, cl[j]? = some u ∧ OwnInts (gl + 1 + 1) (w5.alloc (.cells #[.slice Au N cu] 24)) u lst[j]))
        have hs5 : w.heap.size ≤ w5.heap.size := by have := hx5.size; omega
        clear eA hxA hu hl1 hl2 st4 hx5 OA
        go_wp2_with (at_builtin; refine wpList_append_own_at _ rfl _ _ 37 rfl w.heap.size 24 j0 (.slice none 0 0) 1 24 Try.underlying37 hj0 hjz0 hjz1 hjz2 rfl (by decide) _ _ _ rfl hl6 ⟨w5.heap.size, 0, none⟩ 1 1 [.slice Au N cu] rfl rfl (cell_one_new _ _ _) ?c2 ?c3 ?c4 ?c5 ?_)
        case c2 => intro u hu; simp at hu; subst hu; rfl
        case c3 => unfold maxLen; omega
        case c4 => omega
        case c5 => simp; omega
        intro v' w9 hown9 hg9 _ _
        have st9 := st6.push hl6 H6.out hu6 hown9 hg9
        rw [← HE.out] at st9
        clear st6 hl6 hu6 hown9 hg9
        go_wp2_with fail
        go_meet
        exact ⟨_, rfl, st9⟩
      · have HE : Hid ((L.take (i + 1)).filter (noRuleB m.rules q) = lst) := Lib.hid (by rw [HT1.out, HNR.out, decide_eq_false hzn]; simp)
        go_wp2_with fail
        go_meet
        exact ⟨_, rfl, by rw [HE.out]; exact st4⟩
    clear st4
    rename World => wc
    obtain ⟨v', rfl, st⟩ := hcut
    generalize hlst2 : (L.take (i + 1)).filter (noRuleB m.rules q) = lst2 at *
    have HL2 := Lib.hid hlst2
    clear hlst2
    clear HRK4
    obtain ⟨wo, hwo⟩ : ∃ x, x = wr := ⟨_, rfl⟩
    subst hwo
    go_wp2_with fail
    go_loopw [7] (fun u wi => ∃ kk : Nat, u = .int .i64 ((kk : Int) - 1) ∧ kk ≤ N ∧ RdS w (gl + 1) (buf.take kk ++ List.replicate (N - kk) 0) lst2 v' wi ∧ Hid (∀ j (hj : j < buf.length), kk ≤ j → buf[j] = (S : Int) - 1)) (fun u _ => (intOf u + 1).toNat)
    case atStart => exact ⟨N, rfl, Nat.le_refl _, by rw [Nat.sub_self, ← HBL.out, List.take_length]; simpa using st, by unfold Hid; intro j hj hk; have := HBL.out; omega⟩
    case round =>
      clear st
      obtain ⟨kk, hu, hk, st, hall⟩ := hrel
      subst hu
      have m1 := (HB.out.ext st.ext).cell 1
      simp only [List.getElem?_toArray, List.getElem?_cons_zero, List.getElem?_cons_succ] at m1
      have d1 := cellR m1
      have HGS : Hid (w.heap.size ≤ gl + 1) := Lib.hid (by rw [HGL.out]; omega)
      have hbl2 := HBL.out
      cases kk with
      | zero =>
        have HNO : Hid (L.length ≤ i + 1) := Lib.hid (by
          have := HNX.out.1
          rw [inc_none (fun j hj => hall.out j hj (Nat.zero_le _))] at this
          exact List.getElem?_eq_none_iff.1 this.symm)
        have HH : Hid (haltReads m q = lst2) := Lib.hid (by
          rw [← HL2.out, List.take_of_length_le HNO.out, ← HL.out]
          unfold haltReads
          rw [HN.out, HS.out]
          rfl)
        obtain ⟨Av, cv, hform, _, _⟩ := st.ll.form
        subst hform
        clear hbl2 m1
        rw [show (((0 : Nat) : Int) - 1) = -1 from rfl]
        go_wp2_with fail
        refine wp_region_ext (by kernel_rfl) (by kernel_rfl) ?_
        repeat (go_big_quiet_step (fail))
        refine wpQuiet_nil ?_
        intro w2 hx2
        have st2 := st.ext' hx2
        go_wp2_with fail
        go_ret
        rw [HH.out]
        exact ⟨⟨Av, cv, rfl, st2.ll.low (Nat.le_refl _) (by have := HGS.out; omega)⟩, st2.ext⟩
      | succ j =>
        have hj : j < buf.length := by omega
        have hBj : (buf.take (j + 1) ++ List.replicate (N - (j + 1)) (0 : Int))[j]? = some buf[j] := by
          rw [List.getElem?_append_left (by simp; omega), List.getElem?_take_of_lt (by omega), List.getElem?_eq_getElem hj]
        have c0 : wr.cell? ⟨gl + 1, j, none⟩ = some (.int .i64 buf[j]) := by
          rw [st.bufB.cell]
          simp only [ivs, List.getElem?_toArray, List.getElem?_map, hBj, Option.map_some]
        have c0' := cellR c0
        have hj0 : (0 : Int) ≤ (j : Int) := by omega
        have hj1 : (j : Int) < (N : Int) := by omega
        have hS := HS.out
        have ej : (((j + 1 : Nat) : Int) - 1) = (j : Int) := by omega
        rw [ej]
        by_cases hx : buf[j] = (S : Int) - 1
        · have HNB : Hid ((buf.take (j + 1) ++ List.replicate (N - (j + 1)) (0 : Int)).set j 0 = buf.take j ++ List.replicate (N - j) 0) := Lib.hid (by
            apply List.ext_getElem (by simp; omega)
            intro k h1 h2
            simp only [List.getElem_set, List.getElem_append, List.getElem_take, List.getElem_replicate, List.length_take]
            split <;> split <;> (try split) <;> first | rfl | omega)
          rw [hx] at c0 c0'
          clear hBj m1
          go_wp2_with fail
          refine wp_region_ext (by kernel_rfl) (by kernel_rfl) ?_
          repeat (go_big_quiet_step (fail))
          refine wpQuiet_nil ?_
          intro w2 hx2
          have st1 := st.ext' hx2
          have st2 : RdS w (gl + 1) (buf.take j ++ List.replicate (N - j) 0) lst2 v' (w2.setCell ⟨gl + 1, j, none⟩ (.int .i64 0)) := by
            have := st1.store HGS.out j 0
            rwa [HNB.out] at this
          have c2 := hx2.cell c0
          have f2 := st1.bufB.frozen j
          have HAL : Hid (∀ k (hk : k < buf.length), j ≤ k → buf[k] = (S : Int) - 1) := Lib.hid (fun k hk hjk => by
            by_cases e : k = j
            · subst e; exact hx
            · exact hall.out k hk (by omega))
          clear c0 c0' st st1 hx
          go_wp2_with fail
          go_roundw
          case rel => exact ⟨j, rfl, by omega, st2, HAL⟩
          case measure => simp [intOf]
        · have hin : (S : Int) ≤ 3 ∧ 0 ≤ buf[j] ∧ buf[j] < S := ⟨by omega, HBZ.out _ (List.getElem_mem hj)⟩
          have HIN : Hid (L[i + 1]? = some (buf.take j ++ (buf[j] + 1) :: List.replicate (N - (j + 1)) 0)) := Lib.hid (by
            rw [← HNX.out.1, inc_some hj (fun k hk h => hall.out k hk h) hx, hbl2])
          have HNB : Hid ((buf.take (j + 1) ++ List.replicate (N - (j + 1)) (0 : Int)).set j (buf[j] + 1) = buf.take j ++ (buf[j] + 1) :: List.replicate (N - (j + 1)) 0) := Lib.hid (by
            apply List.ext_getElem (by simp; omega)
            intro k h1 h2
            simp only [List.getElem_set, List.getElem_append, List.getElem_take, List.getElem_replicate, List.length_take, List.getElem_cons]
            split <;> split <;> (try split) <;> (try split) <;> first | rfl | omega)
          obtain ⟨x, hxe⟩ : ∃ x, buf[j] = x := ⟨_, rfl⟩
          rw [hxe] at c0 c0' hin hx HIN HNB
          obtain ⟨h3, hx0, hx1⟩ := hin
          have hxd : decide (x = (S : Int) - 1) = false := decide_eq_false hx
          have hxb : (x == (S : Int) - 1) = false := by simp [hx]
          clear hBj m1 hxe
          go_wp2_with fail
          refine wp_region_ext (by kernel_rfl) (by kernel_rfl) ?_
          repeat (go_big_quiet_step (fail))
          refine wpQuiet_nil ?_
          intro w2 hx2
          have st1 := st.ext' hx2
          have st2 : RdS w (gl + 1) (buf.take j ++ (x + 1) :: List.replicate (N - (j + 1)) 0) lst2 v' (w2.setCell ⟨gl + 1, j, none⟩ (.int .i64 (x + 1))) := by
            have := st1.store HGS.out j (x + 1)
            rwa [HNB.out] at this
          have c2 := hx2.cell c0
          have f2 := st1.bufB.frozen j
          clear c0 c0' st st1 hx hxb
          have hi1 : i + 1 < L.length := (List.getElem?_eq_some_iff.1 HIN.out).1
          go_wp2_with fail
          go_roundw
          case rel => exact ⟨i + 1, _, _, lst2, rfl, hi1, HIN, HL2.out.symm, st2⟩
          case measure =>
            have e := bufW_eq (N := N) st2.bufB (by simp; omega)
            have hr := (HLi.out (i + 1) hi1).2
            rw [(List.getElem?_eq_some_iff.1 HIN.out).2] at hr
            have := HLl.out
            have := HRK.out
            try simp only [] at *
            rw [e, hr]
            omega
end Go.Proofs.Ytkbpchdncljlbaa
end
section
set_option linter.unusedVariables false
set_option linter.unusedSimpArgs false
namespace Go.Proofs.Ytkbpchdncljlbaa
open Go Go.RowKit Go.Proofs Go.Maps
set_option maxHeartbeats 400000
/-- While so many rules are put in. -/
def SeqN (w : World) (base ga gm gO : Nat) (a b : MultiD) (rva rvb : Value) (n : Nat) (v : Value) (W : World) : Prop := ∃ rs : List MRuleD, rs.length = n ∧ SeqM w base ga gm gO a b rva rvb rs v W
theorem SeqN.ext {w : World} {base ga gm gO : Nat} {a b : MultiD} {rva rvb : Value} {n : Nat} {v : Value} {W W' : World} (h : SeqN w base ga gm gO a b rva rvb n v W) (he : Ext W W') : SeqN w base ga gm gO a b rva rvb n v W' := by
  obtain ⟨rs, h1, h2⟩ := h
  exact ⟨rs, h1, h2.ext he⟩
theorem SeqN.bas' {w : World} {base ga gm gO : Nat} {a b : MultiD} {rva rvb : Value} {n : Nat} {v : Value} {W : World} (h : SeqN w base ga gm gO a b rva rvb n v W) : base ≤ W.heap.size := by
  obtain ⟨rs, h1, h2⟩ := h
  exact h2.bas
theorem SeqN.put_c {w : World} {base ga gm gO : Nat} {a b : MultiD} {rva rvb : Value} {n : Nat} {v rv : Value} {r : MRuleD} {W : World} (h : SeqN w base ga gm gO a b rva rvb n v W) (hw : w.heap.size ≤ base) (hg0 : w.heap.size ≤ gm) (h1 : gO ≠ gm) (h2 : ga ≠ gm) (h3 : ga + 1 ≠ gm) (hr : OwnRul base W rv r) (hn : n ≤ 1000000) :
    Calls Try.prog 46 #[v, rv] W fun e w' => ∃ A c, e = .returned (.slice A (n + 1) c) ∧ SeqN w base ga gm gO a b rva rvb (n + 1) (.slice A (n + 1) c) (w'.setCell ⟨gm, 3, none⟩ (.slice A (n + 1) c)) ∧ Blk w' gm 29 #[.int .i64 a.tp, .int .i64 a.sy, .int .i64 (a.st + b.st), v] ∧
      (∀ b1 b2 u xss, OwnLL b1 b2 W u xss → OwnLL b1 b2 (w'.setCell ⟨gm, 3, none⟩ (.slice A (n + 1) c)) u xss) := by
  obtain ⟨rs, hl, hm⟩ := h
  refine (l06Put_c base v rv rs r W hm.om.own hr hm.bas (by omega)).mono ?_
  rintro e w' ⟨v', rfl, ho, hg, _⟩
  obtain ⟨A, c, hf, _, _⟩ := ho.form
  rw [insM_len, hl] at hf
  subst hf
  obtain ⟨cl, ow, _⟩ := id hm.om.own
  obtain ⟨b1, st⟩ := hm.om.step h1 hw hg0 ho hg
  refine ⟨A, c, rfl, ⟨_, by rw [insM_len, hl], ⟨st, (Blk.apart hm.ba ow (by decide) hg).far (p := ⟨gm, 3, none⟩) h2 _, (Blk.apart hm.bb ow (by decide) hg).far (p := ⟨gm, 3, none⟩) h3 _, by have := hm.bas; have := hg.size; simp; omega⟩⟩, b1, fun b1' b2' u xss hL => (hL.grown ow hg).far b1 (by decide) (by decide) 3 _⟩
/-- How many rules of halts the first states make. -/
def hcN (a : MultiD) (k : Nat) : Nat := ((List.range k).flatMap fun (q : Nat) => (haltReads a q).map (hltR a q)).length
theorem hcN_succ (a : MultiD) (k : Nat) : hcN a (k + 1) = hcN a k + (haltReads a (k : Int)).length := by
  unfold hcN
  rw [haltRs_succ, List.length_append, List.length_map]
set_option maxRecDepth 20000 in
set_option maxHeartbeats 16000000 in
theorem specSequence_c (a b : MultiD) (base1 base2 : Nat) (rva rvb : Value) (w : World) (ha : OwnMR base1 w rva a.rules) (hb : OwnMR base2 w rvb b.rules) (oa : multiOk a = true) (ob : multiOk b = true)
    (hbad : a.tp = b.tp → a.sy = b.sy → 16 < a.st + b.st ∨ 60 < (preL a b).length) :
    Calls Try.prog 16 #[.agg #[.int .i64 a.tp, .int .i64 a.sy, .int .i64 a.st, rva], .agg #[.int .i64 b.tp, .int .i64 b.sy, .int .i64 b.st, rvb]] w fun e w' =>
      e = .returned (.tuple #[.agg #[.int .i64 0, .int .i64 0, .int .i64 0, .slice none 0 0], .int .i64 (if a.tp = b.tp ∧ a.sy = b.sy then 5 else 2)]) ∧ Ext w w' := by
  obtain ⟨cd, hcd⟩ : ∃ c : Int, (if a.tp = b.tp ∧ a.sy = b.sy then 5 else 2) = c := ⟨_, rfl⟩
  rw [hcd]
  have HCD := Lib.hid hcd
  clear hcd
  obtain ⟨j0, hj0, hjz0, hjz1, hjz2⟩ := info_parts intInfo
  obtain ⟨A, ca, rfl, _, _⟩ := ha.form
  obtain ⟨B, cb, rfl, _, _⟩ := hb.form
  obtain ⟨⟨at1, at2⟩, ⟨ay1, ay2⟩, ⟨as1, as2⟩, al, _⟩ := multi_all oa
  obtain ⟨_, _, ⟨bs1, bs2⟩, bl, _⟩ := multi_all ob
  obtain ⟨g, hg⟩ : ∃ g, w.heap.size = g := ⟨_, rfl⟩
  obtain ⟨V, hV⟩ : ∃ V, V = ((w.alloc (.cells #[.int .i64 a.tp, .int .i64 a.sy, .int .i64 a.st, .slice A a.rules.length ca] 29)).alloc (.cells #[.int .i64 b.tp, .int .i64 b.sy, .int .i64 b.st, .slice B b.rules.length cb] 29)).alloc (.cells #[.int .i64 0, .int .i64 0, .int .i64 0, .slice none 0 0] 29) := ⟨_, rfl⟩
  have hX : Ext w V := by rw [hV]; exact ((Ext.alloc _ _).trans (Ext.alloc _ _)).trans (Ext.alloc _ _)
  have bA : Blk V g 29 #[.int .i64 a.tp, .int .i64 a.sy, .int .i64 a.st, .slice A a.rules.length ca] := by rw [hV]; exact ((Blk.new _ _ _ _ hg).alloc _).alloc _
  have bB : Blk V (g + 1) 29 #[.int .i64 b.tp, .int .i64 b.sy, .int .i64 b.st, .slice B b.rules.length cb] := by rw [hV]; exact (Blk.new _ _ _ _ (by simp [hg])).alloc _
  have bO : Blk V (g + 1 + 1) 29 #[.int .i64 0, .int .i64 0, .int .i64 0, .slice none 0 0] := by rw [hV]; exact Blk.new _ _ _ _ (by simp [hg])
  have VA := l06Is_c g a _ V bA (ha.rules.ext hX)
  rw [oa] at VA
  have VB := fun W (h : Ext V W) => l06Is_c (g + 1) b _ W (bB.ext h) (hb.rules.ext (hX.trans h))
  rw [ob] at VB
  have HA := Lib.hid ha
  have HB := Lib.hid hb
  have HG := Lib.hid hg
  have HOA := Lib.hid oa
  have HOB := Lib.hid ob
  have HBAD := Lib.hid hbad
  clear ha hb oa ob hbad
  go_enter Try.func16, Try.ntmps16
  go_wp2_with fail
  try rw [← hV]
  try rw [hg]
  clear hV hg
  refine VA.mono ?_
  rintro e w1 ⟨rfl, hx1⟩
  have VB1 := VB w1 hx1
  clear VA VB
  go_wp2_with fail
  refine VB1.mono ?_
  rintro e w2 ⟨rfl, hx2⟩
  have hx12 := hx1.trans hx2
  have bA2 := bA.ext hx12
  have bB2 := bB.ext hx12
  have bO2 := bO.ext hx12
  have hX2 := hX.trans hx12
  have hgw : w.heap.size ≤ g + 1 + 1 := by have := HG.out; omega
  have m0 : w2.cell? ⟨g, 0, none⟩ = some (.int .i64 a.tp) := bA2.cell 0
  have m1 : w2.cell? ⟨g, 1, none⟩ = some (.int .i64 a.sy) := bA2.cell 1
  have m2 : w2.cell? ⟨g, 2, none⟩ = some (.int .i64 a.st) := bA2.cell 2
  have n0 : w2.cell? ⟨g + 1, 0, none⟩ = some (.int .i64 b.tp) := bB2.cell 0
  have n1 : w2.cell? ⟨g + 1, 1, none⟩ = some (.int .i64 b.sy) := bB2.cell 1
  have n2 : w2.cell? ⟨g + 1, 2, none⟩ = some (.int .i64 b.st) := bB2.cell 2
  have cO := bO2.cell
  have fO := bO2.frozen
  have HEX : Hid (∀ u0 u1 u2 u3, Ext w ((((w2.setCell ⟨g + 1 + 1, 0, none⟩ u0).setCell ⟨g + 1 + 1, 1, none⟩ u1).setCell ⟨g + 1 + 1, 2, none⟩ u2).setCell ⟨g + 1 + 1, 3, none⟩ u3)) := Lib.hid fun u0 u1 u2 u3 =>
    (((hX2.setCell (p := ⟨g + 1 + 1, 0, none⟩) hgw u0).setCell (p := ⟨g + 1 + 1, 1, none⟩) hgw u1).setCell (p := ⟨g + 1 + 1, 2, none⟩) hgw u2).setCell (p := ⟨g + 1 + 1, 3, none⟩) hgw u3
  clear VB1 bA bB bO hX hx1 hx2 hx12
  by_cases hsame : a.tp = b.tp ∧ a.sy = b.sy
  · have HS := Lib.hid hsame
    have HC : Hid ((5 : Int) = cd) := Lib.hid (by rw [← HCD.out, if_pos hsame])
    obtain ⟨htp, hsy⟩ := hsame
    have e1 : (a.tp != b.tp) = false := by simp [htp]
    have e2 : (a.sy != b.sy) = false := by simp [hsy]
    have HBD := Lib.hid (HBAD.out htp hsy)
    obtain ⟨gm, hgm⟩ : ∃ g, w2.heap.size = g := ⟨_, rfl⟩
    have hws : IntKind.i64.wrap (a.st + b.st) = a.st + b.st := IntWalk.i64_in _ (by omega)
    obtain ⟨W3, hW3⟩ : ∃ W, W = w2.alloc (.cells #[.int .i64 a.tp, .int .i64 a.sy, .int .i64 (a.st + b.st), .slice none 0 0] 29) := ⟨_, rfl⟩
    have e3 : Ext w2 W3 := by rw [hW3]; exact Ext.alloc _ _
    have bm3 : Blk W3 gm 29 #[.int .i64 a.tp, .int .i64 a.sy, .int .i64 (a.st + b.st), .slice none 0 0] := by rw [hW3]; exact Blk.new _ _ _ _ hgm
    have hgl : g + 1 + 1 < gm := by rw [← hgm]; exact bO2.lt
    have st0 : SeqN w (gm + 1) g gm (g + 1 + 1) a b (.slice A a.rules.length ca) (.slice B b.rules.length cb) 0 (.slice none 0 0) W3 :=
      ⟨[], rfl, ⟨bO2.ext e3, bm3, ⟨[], World.ownsRow_nil .., MCells.nil _ _⟩, hX2.trans e3⟩, bA2.ext e3, bB2.ext e3, bm3.lt⟩
    have hwb : w.heap.size ≤ gm + 1 := by omega
    have hwm : w.heap.size ≤ gm := by omega
    have hd1 : g + 1 + 1 ≠ gm := by omega
    have hd2 : g ≠ gm := by omega
    have hd3 : g + 1 ≠ gm := by omega
    clear htp hsy bA2 bB2 bO2 hX2 e3 bm3 HEX cO fO
    go_upto_region 6 with fail
    try rw [← hW3]
    try rw [hgm]
    clear hW3 m0 m1 m2 n0 n1 n2 hgm e1 e2 hws
    go_upto_block 0 with fail
    go_cut [] (fun wx => ∃ v, SeqN w (gm + 1) g gm (g + 1 + 1) a b (.slice A a.rules.length ca) (.slice B b.rules.length cb) (a.rules.length) v wx)
    case first =>
      go_wp2_with fail
      go_loopw [7] (fun u wr => ∃ (k : Nat) (v : Value), k ≤ a.rules.length ∧ u = .int .i64 (k : Int) ∧ SeqN w (gm + 1) g gm (g + 1 + 1) a b (.slice A a.rules.length ca) (.slice B b.rules.length cb) (k) v wr) (fun u _ => a.rules.length - (intOf u).toNat)
      case atStart => exact ⟨0, _, Nat.zero_le _, rfl, st0⟩
      case round =>
        clear st0
        obtain ⟨k, v, hk, rfl, st⟩ := hrel
        obtain ⟨rs, hrl, hm⟩ := id st
        have z2 : wr.cell? ⟨g, 3, none⟩ = some (.slice A a.rules.length ca) := hm.ba.cell 3
        by_cases hlt : k < a.rules.length
        · obtain ⟨ga, vr, vw, vm, rfl, c0, c1, c2, c3, c4, q1, q2, q3⟩ := OwnMR.at (HA.out.ext hm.om.ext) hlt
          have hro := mrule_all (multi_rule HOA.out hlt)
          obtain ⟨r, hrk⟩ : ∃ r, a.rules[k] = r := ⟨_, rfl⟩
          rw [hrk] at c0 c4 q1 q2 q3 hro
          obtain ⟨⟨p1, p2⟩, ⟨p3, p4⟩, e1, e2, e3, _⟩ := hro
          have zD := Ext.drew wr
          have hm8 := hm.ext zD
          have zm : wr.drew.cell? ⟨gm, 3, none⟩ = some v := hm8.om.cur.cell 3
          have za : wr.drew.cell? ⟨g, 3, none⟩ = some (.slice (some ⟨ga, 0, none⟩) a.rules.length ca) := hm8.ba.cell 3
          have zs : wr.drew.cell? ⟨g, 2, none⟩ = some (.int .i64 a.st) := hm8.ba.cell 2
          have CR := l06OwnRule_c ga (k * 5) vr vw vm r 0 wr.drew (zD.cell c0) (zD.cell c1) (zD.cell c2) (zD.cell c3) (zD.cell c4) (q1.ints.ext zD) (q2.ints.ext zD) (q3.ints.ext zD) (by omega) (by omega) (by omega) ⟨by omega, by omega⟩ ⟨by omega, by omega⟩ ⟨by omega, by omega⟩
          have st8 := st.ext zD
          have hbas := hm8.bas
          have hk60 : k ≤ 60 := by omega
          have hki : (k : Int) < (a.rules.length : Int) := by omega
          clear hrk q1 q2 q3 hm hm8 c0 c1 c2 c3 c4 st
          go_wp2_with fail
          refine wp_region_ordT 7 (readsT [0, 1, 2, 3, 4, 5] (.stir 6 .done)) (by kernel_rfl) (by kernel_rfl) (fun _ _ _ _ _ h => h) ?_
          simp only [readsT]
          iterate 6 (refine wpOrdT_read (v := ?_) (by rfl) (Or.inl ⟨by rfl, fun x hx => ?_⟩) ?_; rotate_left; (· have a0 := hx.cell zm; have a1 := hx.cell za; have a2 := hx.cell zs; go_simp; try with_reducible rfl); try simp only [Act.put, List.setIfInBounds_toArray, List.set_cons_zero, List.set_cons_succ])
          refine wpOrdT_stir (by rfl) (fun K hK => ?_)
          go_simp
          go_at_call 47
          refine CR.mono ?_
          rintro e w9 ⟨⟨A1, c1, A2, c2, A3, c3, rfl, hru⟩, hx9⟩
          refine hK _ _ hx9 ?_
          clear hK K CR
          try simp only [Act.put, List.setIfInBounds_toArray, List.set_cons_zero, List.set_cons_succ]
          refine wpOrdT_done ?_
          try simp only [List.drop_succ_cons, List.drop_zero]
          have PU := (st8.ext hx9).put_c hwb hwm hd1 hd2 hd3 (hru.low hbas) (by omega)
          clear st8 hru hx9 zm za zs z2 zD
          go_wp2_with fail
          refine PU.mono ?_
          rintro e w7 ⟨A7, c7, rfl, s7, b7, _⟩
          have HS7 := Lib.hid s7
          have cB := b7.cell
          have cF := b7.frozen
          clear PU s7 b7
          go_wp2_with fail
          go_roundw
          case rel => exact ⟨k + 1, _, by omega, by go_num, HS7.out⟩
          case measure => simp [intOf]; omega
        · obtain rfl : k = a.rules.length := by omega
          have HS := Lib.hid st
          clear st hm
          go_wp2_with fail
          go_meet
          exact ⟨v, HS.out⟩
    case rest =>
      rename World => wc
      obtain ⟨v0, stA⟩ := hcut
      clear st0
      obtain ⟨N, hN⟩ : ∃ N : Nat, (N : Int) = a.tp := ⟨a.tp.toNat, by omega⟩
      have HN := Lib.hid hN
      obtain ⟨T, hT⟩ : ∃ T : Nat, (T : Int) = a.st := ⟨a.st.toNat, by omega⟩
      have HT := Lib.hid hT
      clear hN hT
      go_upto_block 2 with fail
      go_cut [] (fun wx => ∃ v n, n = a.rules.length + (haltRs a).length ∧ SeqN w (gm + 1) g gm (g + 1 + 1) a b (.slice A a.rules.length ca) (.slice B b.rules.length cb) n v wx)
      case first =>
        go_wp2_with fail
        go_loopw [8] (fun u wr => ∃ (k : Nat) (v : Value) (n : Nat), k ≤ T ∧ u = .int .i64 (k : Int) ∧ Hid (n = a.rules.length + hcN a k) ∧ SeqN w (gm + 1) g gm (g + 1 + 1) a b (.slice A a.rules.length ca) (.slice B b.rules.length cb) n v wr) (fun u _ => T - (intOf u).toNat)
        case atStart => exact ⟨0, v0, _, Nat.zero_le _, rfl, by unfold Hid; simp [hcN], stA⟩
        case round =>
          clear stA
          obtain ⟨k, v, n, hk, rfl, hn, st⟩ := hrel
          obtain ⟨rs, hrl, hm⟩ := id st
          have h2 : wr.cell? ⟨g, 2, none⟩ = some (.int .i64 a.st) := hm.ba.cell 2
          by_cases hlt : k < T
          · have hki : (k : Int) < a.st := by have := HT.out; omega
            have hT16 : T ≤ 16 := by have := HT.out; omega
            have HR := l06Reads_c g a _ (k : Int) wr hm.ba (HA.out.rules.ext hm.om.ext) HOA.out
            have hbas := hm.bas
            clear hm
            go_wp2_with fail
            refine HR.mono ?_
            rintro e w4 ⟨⟨Al, cl0, rfl, ll0⟩, hx4⟩
            have st2 := st.ext hx4
            have ll2 : OwnLL (gm + 1) (gm + 1) w4 (.slice Al (haltReads a (k : Int)).length cl0) (haltReads a (k : Int)) := ll0.low hbas hbas
            clear HR ll0 hx4 st h2 hbas
            obtain ⟨wo, hwo⟩ : ∃ x, x = wr := ⟨_, rfl⟩
            subst hwo
            go_wp2_with fail
            go_loopw [10] (fun u wr => ∃ (j : Nat) (v : Value) (n : Nat), j ≤ (haltReads a (k : Int)).length ∧ u = .int .i64 (j : Int) ∧ Hid (n = a.rules.length + hcN a k + j) ∧ SeqN w (gm + 1) g gm (g + 1 + 1) a b (.slice A a.rules.length ca) (.slice B b.rules.length cb) n v wr ∧ OwnLL (gm + 1) (gm + 1) wr (.slice Al (haltReads a (k : Int)).length cl0) (haltReads a (k : Int))) (fun u _ => (haltReads a (k : Int)).length - (intOf u).toNat)
            case atStart => exact ⟨0, v, n, Nat.zero_le _, rfl, hn, st2, ll2⟩
            case round =>
              clear st2 ll2
              obtain ⟨j, v, n, hj, rfl, hn, st, ll⟩ := hrel
              by_cases hjt : j < (haltReads a (k : Int)).length
              · obtain ⟨lc, lr, li⟩ := id ll
                obtain ⟨gx, rfl, _, _⟩ := own_at lr (by omega)
                obtain ⟨ux, hux, oX⟩ := li j hjt
                have zD := Ext.drew wr
                have zx := zD.cell ((World.ownsRow.cellAt lr j (by omega)).trans hux)
                have hlen := haltReads_mem HOA.out (List.getElem_mem hjt)
                obtain ⟨xs, hxs⟩ : ∃ xs, (haltReads a (k : Int))[j] = xs := ⟨_, rfl⟩
                rw [hxs] at oX hlen
                obtain ⟨Ax, cx, rfl, _, _⟩ := id oX.ints.form
                have hxl : xs.length = N := by have := HN.out; omega
                have HLX : Hid (xs.length = N) := hxl
                have HTN : Hid (a.tp.toNat = N) := Lib.hid (by have := HN.out; omega)
                obtain ⟨rs, hrl, hm⟩ := id st
                have hn6 : n ≤ 1000000 := by
                  have e1 := haltPart_len a HOA.out k
                  have e2 := haltReads_len a HOA.out (k : Int)
                  have e3 := hn.out
                  unfold hcN at e3
                  omega
                have CL := fun W (h : Ext wr.drew W) => l00OwnA_c _ xs W (oX.ints.ext ((Ext.drew wr).trans h)) (by omega)
                have zm : wr.drew.cell? ⟨gm, 3, none⟩ = some v := hm.om.cur.cell 3
                have zt : wr.drew.cell? ⟨g, 0, none⟩ = some (.int .i64 a.tp) := hm.ba.cell 0
                have zs : wr.drew.cell? ⟨g, 2, none⟩ = some (.int .i64 a.st) := hm.ba.cell 2
                have hN3 : N ≤ 3 := by have := HN.out; omega
                rw [hxl] at oX CL zx
                have hjl : (j : Int) < ((haltReads a (k : Int)).length : Int) := by omega
                clear hxs hlen hxl lr li hux hm hrl
                go_upto_block 5 with fail
                go_cut [] (fun wx => ∃ v', SeqN w (gm + 1) g gm (g + 1 + 1) a b (.slice A a.rules.length ca) (.slice B b.rules.length cb) (n + 1) v' wx ∧ OwnLL (gm + 1) (gm + 1) wx (.slice (some ⟨gx, 0, none⟩) (haltReads a (k : Int)).length cl0) (haltReads a (k : Int)))
                case first =>
                  go_wp2_with fail
                  refine wp_region_ordT 18 (readsT [0, 1, 2, 3, 4, 5, 6, 7, 8, 9, 10, 12, 13, 15, 16] (.fork 11 (.stir 14 (readsT [17] .done)) 14 (.stir 11 (readsT [17] .done)))) (by kernel_rfl) (by kernel_rfl) (fun _ _ _ _ _ h => h) ?_
                  simp only [readsT]
                  iterate 15 (refine wpOrdT_read (v := ?_) (by rfl) (Or.inl ⟨by rfl, fun x hx => ?_⟩) ?_; rotate_left; (· have a0 := hx.cell zm; have a1 := hx.cell zt; have a2 := hx.cell zs; have a3 := hx.cell zx; go_simp; try with_reducible rfl); try simp only [Act.put, List.setIfInBounds_toArray, List.set_cons_zero, List.set_cons_succ])
                  refine wpOrdT_fork (by rfl) (by rfl) (fun K hK => ?_) (fun K hK => ?_)
                  · go_simp
                    go_at_call 49
                    refine (CL wr.drew (Ext.refl _)).mono ?_
                    rintro e w3 ⟨u, rfl, oC, hxC⟩
                    obtain ⟨A4, c4, rfl, _, _⟩ := id oC.ints.form
                    rw [HLX.out] at *
                    refine hK _ _ hxC ?_
                    clear hK K
                    try simp only [Act.put, List.setIfInBounds_toArray, List.set_cons_zero, List.set_cons_succ]
                    refine wpOrdT_stir (by rfl) (fun K hK => ?_)
                    obtain ⟨wm, hmk, hom, hgm'⟩ := run_make_full (P := Try.prog) w3 (gm + 1) 24 2 j0 (.int .i64 0) 1 Try.underlying24 hj0 hjz0 hjz1 .i64 .i64 N (by rw [hjz2]; omega) (by unfold maxLen; omega) (by have := st.bas'; have : wr.drew.heap.size = wr.heap.size := rfl; have := hxC.size; omega)
                    rw [HN.out] at hmk
                    have hxM : Ext w3 wm := (Ext.refl _).grown hgm' (by simp)
                    go_simp
                    refine hK _ _ hxM ?_
                    clear hK K hmk
                    try simp only [Act.put, List.setIfInBounds_toArray, List.set_cons_zero, List.set_cons_succ]
                    refine wpOrdT_read (v := ?_) (by rfl) (Or.inl ⟨by rfl, fun x hx => ?_⟩) ?_
                    rotate_left
                    · go_simp; try with_reducible rfl
                    try simp only [Act.put, List.setIfInBounds_toArray, List.set_cons_zero, List.set_cons_succ]
                    refine wpOrdT_done ?_
                    try simp only [List.drop_succ_cons, List.drop_zero]
                    obtain ⟨gk, hgk⟩ : ∃ g, w3.heap.size = g := ⟨_, rfl⟩
                    try rw [hgk]
                    rw [hgk] at hom
                    have hXX : Ext wr wm := (zD.trans hxC).trans hxM
                    have p2 : OwnInts (gm + 1) wm (.slice A4 N c4) xs := OwnInts.ext (ownsRow_base oC (by have := st.bas'; exact this)) hxM
                    have p3 : OwnInts (gm + 1) wm (.slice (some ⟨gk, 0, none⟩) N N) (List.replicate N 0) := zeros_own hom
                    have s9 := st.ext hXX
                    have ll9 := ll.ext hXX
                    have p1 : OwnInts (gm + 1) wm (.slice Ax N cx) xs := OwnInts.ext oX hXX
                    have PU := s9.put_c hwb hwm hd1 hd2 hd3 (rv := .agg #[.int .i64 (k : Int), .slice Ax N cx, .slice A4 N c4, .slice (some ⟨gk, 0, none⟩) N N, .int .i64 a.st]) (r := hltR a (k : Int) xs) ⟨_, _, _, rfl, p1, p2, by show OwnInts _ _ _ (List.replicate a.tp.toNat 0); rw [HTN.out]; exact p3⟩ hn6
                    clear zm zt zs zx zD hXX p1 p2 p3 hom hgm' hxM hxC oC oX st ll s9 CL
                    go_wp2_with fail
                    refine PU.mono ?_
                    rintro e w7 ⟨A7, c7, rfl, s7, b7, hll⟩
                    have HS7 := Lib.hid s7
                    have HL7 := Lib.hid (hll _ _ _ _ ll9)
                    have cB := b7.cell
                    have cF := b7.frozen
                    clear PU s7 b7 hll ll9
                    go_wp2_with fail
                    go_meet
                    exact ⟨_, HS7.out, HL7.out⟩
                  · obtain ⟨wm, hmk, hom, hgm'⟩ := run_make_full (P := Try.prog) wr.drew (gm + 1) 24 2 j0 (.int .i64 0) 1 Try.underlying24 hj0 hjz0 hjz1 .i64 .i64 N (by rw [hjz2]; omega) (by unfold maxLen; omega) (by have := st.bas'; exact this)
                    rw [HN.out] at hmk
                    have hxM : Ext wr.drew wm := (Ext.refl _).grown hgm' (by simp)
                    go_simp
                    refine hK _ _ hxM ?_
                    clear hK K hmk
                    try simp only [Act.put, List.setIfInBounds_toArray, List.set_cons_zero, List.set_cons_succ]
                    refine wpOrdT_stir (by rfl) (fun K hK => ?_)
                    go_simp
                    go_at_call 49
                    refine (CL wm hxM).mono ?_
                    rintro e w3 ⟨u, rfl, oC, hxC⟩
                    obtain ⟨A4, c4, rfl, _, _⟩ := id oC.ints.form
                    rw [HLX.out] at *
                    refine hK _ _ hxC ?_
                    clear hK K
                    try simp only [Act.put, List.setIfInBounds_toArray, List.set_cons_zero, List.set_cons_succ]
                    refine wpOrdT_read (v := ?_) (by rfl) (Or.inl ⟨by rfl, fun x hx => ?_⟩) ?_
                    rotate_left
                    · go_simp; try with_reducible rfl
                    try simp only [Act.put, List.setIfInBounds_toArray, List.set_cons_zero, List.set_cons_succ]
                    refine wpOrdT_done ?_
                    try simp only [List.drop_succ_cons, List.drop_zero]
                    obtain ⟨gk, hgk⟩ : ∃ g, wr.heap.size = g := ⟨_, rfl⟩
                    have hgk' : wr.drew.heap.size = gk := hgk
                    try rw [hgk']
                    try rw [hgk]
                    rw [hgk'] at hom
                    have hXX : Ext wr w3 := (zD.trans hxM).trans hxC
                    have p2 : OwnInts (gm + 1) w3 (.slice A4 N c4) xs := ownsRow_base oC (by have := st.bas'; have : wr.drew.heap.size = wr.heap.size := rfl; have := hxM.size; omega)
                    have p3 : OwnInts (gm + 1) w3 (.slice (some ⟨gk, 0, none⟩) N N) (List.replicate N 0) := OwnInts.ext (zeros_own hom) hxC
                    have s9 := st.ext hXX
                    have ll9 := ll.ext hXX
                    have p1 : OwnInts (gm + 1) w3 (.slice Ax N cx) xs := OwnInts.ext oX hXX
                    have PU := s9.put_c hwb hwm hd1 hd2 hd3 (rv := .agg #[.int .i64 (k : Int), .slice Ax N cx, .slice A4 N c4, .slice (some ⟨gk, 0, none⟩) N N, .int .i64 a.st]) (r := hltR a (k : Int) xs) ⟨_, _, _, rfl, p1, p2, by show OwnInts _ _ _ (List.replicate a.tp.toNat 0); rw [HTN.out]; exact p3⟩ hn6
                    clear zm zt zs zx zD hXX p1 p2 p3 hom hgm' hxM hxC oC oX st ll s9 CL
                    go_wp2_with fail
                    refine PU.mono ?_
                    rintro e w7 ⟨A7, c7, rfl, s7, b7, hll⟩
                    have HS7 := Lib.hid s7
                    have HL7 := Lib.hid (hll _ _ _ _ ll9)
                    have cB := b7.cell
                    have cF := b7.frozen
                    clear PU s7 b7 hll ll9
                    go_wp2_with fail
                    go_meet
                    exact ⟨_, HS7.out, HL7.out⟩
                case rest =>
                  rename World => wf
                  obtain ⟨v', stf, llf⟩ := hcut
                  clear st ll zm zt zs zx zD CL oX
                  have hj27 : j ≤ 27 := by have := haltReads_len a HOA.out (k : Int); omega
                  go_wp2_with fail
                  go_roundw
                  case rel => exact ⟨j + 1, v', n + 1, by omega, by go_num, Lib.hid (by have := hn.out; omega), stf, llf⟩
                  case measure => simp [intOf]; omega
              · have hjl : ¬ (j : Int) < ((haltReads a (k : Int)).length : Int) := by omega
                have HS := Lib.hid st
                have hnn : Hid (n = a.rules.length + hcN a (k + 1)) := Lib.hid (by
                  have := hn.out
                  rw [hcN_succ]
                  omega)
                clear st ll
                go_wp2_with fail
                go_roundw
                case rel => exact ⟨k + 1, v, n, by omega, by go_num, hnn, HS.out⟩
                case measure => simp [intOf]; omega
          · obtain rfl : k = T := by omega
            have hki : ¬ (k : Int) < a.st := by have := HT.out; omega
            have HS := Lib.hid st
            have HTT : Hid (a.st.toNat = k) := Lib.hid (by have := HT.out; omega)
            clear st hm
            go_wp2_with fail
            go_meet
            exact ⟨v, n, by have := hn.out; rw [this]; unfold hcN haltRs; rw [HTT.out], HS.out⟩
      case rest =>
        rename World => wd
        obtain ⟨v1, M, hM, stB⟩ := hcut
        clear stA
        have HM := Lib.hid hM
        have hM5 : M ≤ 60 + 27 * 16 := by
          have e1 := haltPart_len a HOA.out a.st.toNat
          rw [hM]
          unfold haltRs
          omega
        clear hM
        go_upto_block 6 with fail
        go_cut [] (fun wx => ∃ v, SeqN w (gm + 1) g gm (g + 1 + 1) a b (.slice A a.rules.length ca) (.slice B b.rules.length cb) (M + b.rules.length) v wx)
        case first =>
          go_wp2_with fail
          go_loopw [11] (fun u wr => ∃ (k : Nat) (v : Value), k ≤ b.rules.length ∧ u = .int .i64 (k : Int) ∧ SeqN w (gm + 1) g gm (g + 1 + 1) a b (.slice A a.rules.length ca) (.slice B b.rules.length cb) (M + k) v wr) (fun u _ => b.rules.length - (intOf u).toNat)
          case atStart => exact ⟨0, v1, Nat.zero_le _, rfl, stB⟩
          case round =>
            clear stB
            obtain ⟨k, v, hk, rfl, st⟩ := hrel
            obtain ⟨rs, hrl, hm⟩ := id st
            have z2 : wr.cell? ⟨g + 1, 3, none⟩ = some (.slice B b.rules.length cb) := hm.bb.cell 3
            by_cases hlt : k < b.rules.length
            · obtain ⟨ga, vr, vw, vm, rfl, c0, c1, c2, c3, c4, q1, q2, q3⟩ := OwnMR.at (HB.out.ext hm.om.ext) hlt
              have hro := mrule_all (multi_rule HOB.out hlt)
              obtain ⟨r, hrk⟩ : ∃ r, b.rules[k] = r := ⟨_, rfl⟩
              rw [hrk] at c0 c4 q1 q2 q3 hro
              obtain ⟨⟨p1, p2⟩, ⟨p3, p4⟩, e1, e2, e3, _⟩ := hro
              have zD := Ext.drew wr
              have hm8 := hm.ext zD
              have zm : wr.drew.cell? ⟨gm, 3, none⟩ = some v := hm8.om.cur.cell 3
              have za : wr.drew.cell? ⟨g + 1, 3, none⟩ = some (.slice (some ⟨ga, 0, none⟩) b.rules.length cb) := hm8.bb.cell 3
              have zs : wr.drew.cell? ⟨g, 2, none⟩ = some (.int .i64 a.st) := hm8.ba.cell 2
              have CR := l06OwnRule_c ga (k * 5) vr vw vm r a.st wr.drew (zD.cell c0) (zD.cell c1) (zD.cell c2) (zD.cell c3) (zD.cell c4) (q1.ints.ext zD) (q2.ints.ext zD) (q3.ints.ext zD) (by omega) (by omega) (by omega) ⟨by omega, by omega⟩ ⟨by omega, by omega⟩ ⟨by omega, by omega⟩
              have st8 := st.ext zD
              have hbas := hm8.bas
              have hk60 : k ≤ 60 := by omega
              have hki : (k : Int) < (b.rules.length : Int) := by omega
              clear hrk q1 q2 q3 hm hm8 c0 c1 c2 c3 c4 st
              go_wp2_with fail
              refine wp_region_ordT 9 (readsT [0, 1, 2, 3, 4, 5, 6, 7] (.stir 8 .done)) (by kernel_rfl) (by kernel_rfl) (fun _ _ _ _ _ h => h) ?_
              simp only [readsT]
              iterate 8 (refine wpOrdT_read (v := ?_) (by rfl) (Or.inl ⟨by rfl, fun x hx => ?_⟩) ?_; rotate_left; (· have a0 := hx.cell zm; have a1 := hx.cell za; have a2 := hx.cell zs; go_simp; try with_reducible rfl); try simp only [Act.put, List.setIfInBounds_toArray, List.set_cons_zero, List.set_cons_succ])
              refine wpOrdT_stir (by rfl) (fun K hK => ?_)
              go_simp
              go_at_call 47
              refine CR.mono ?_
              rintro e w9 ⟨⟨A1, c1, A2, c2, A3, c3, rfl, hru⟩, hx9⟩
              refine hK _ _ hx9 ?_
              clear hK K CR
              try simp only [Act.put, List.setIfInBounds_toArray, List.set_cons_zero, List.set_cons_succ]
              refine wpOrdT_done ?_
              try simp only [List.drop_succ_cons, List.drop_zero]
              have PU := (st8.ext hx9).put_c hwb hwm hd1 hd2 hd3 (hru.low hbas) (by omega)
              clear st8 hru hx9 zm za zs z2 zD
              go_wp2_with fail
              refine PU.mono ?_
              rintro e w7 ⟨A7, c7, rfl, s7, b7, _⟩
              have HS7 := Lib.hid s7
              have cB := b7.cell
              have cF := b7.frozen
              clear PU s7 b7
              go_wp2_with fail
              go_roundw
              case rel => exact ⟨k + 1, _, by omega, by go_num, HS7.out⟩
              case measure => simp [intOf]; omega
            · obtain rfl : k = b.rules.length := by omega
              have HS := Lib.hid st
              clear st hm
              go_wp2_with fail
              go_meet
              exact ⟨v, HS.out⟩
        case rest =>
          rename World => we
          obtain ⟨v2, stC⟩ := hcut
          clear stB
          obtain ⟨rs, hrl, hm⟩ := stC
          have IS := l06Is_c gm ⟨a.tp, a.sy, a.st + b.st, rs⟩ v2 we hm.om.cur hm.om.own.rules
          have hnok : multiOk ⟨a.tp, a.sy, a.st + b.st, rs⟩ = false := by
            cases hok : multiOk ⟨a.tp, a.sy, a.st + b.st, rs⟩ with
            | false => rfl
            | true =>
              obtain ⟨_, _, ⟨_, q2⟩, ql, _⟩ := multi_all hok
              have q2 : a.st + b.st ≤ 16 := q2
              have ql : rs.length ≤ 60 := ql
              have hpl : (preL a b).length = rs.length := by
                have := HM.out
                unfold preL
                rw [List.length_append, List.length_append, List.length_map]
                omega
              rcases HBD.out with h | h <;> omega
          rw [hnok] at IS
          have bo := hm.om.out
          have hx := hm.om.ext
          clear hnok hm hrl
          go_wp2_with fail
          refine IS.mono ?_
          rintro e w7 ⟨rfl, hx7⟩
          have bo7 := bo.ext hx7
          have cO := bo7.cell
          have fO := bo7.frozen
          have HEX : Hid (∀ u0 u1 u2 u3, Ext w ((((w7.setCell ⟨g + 1 + 1, 0, none⟩ u0).setCell ⟨g + 1 + 1, 1, none⟩ u1).setCell ⟨g + 1 + 1, 2, none⟩ u2).setCell ⟨g + 1 + 1, 3, none⟩ u3)) := Lib.hid fun u0 u1 u2 u3 =>
            ((((hx.trans hx7).setCell (p := ⟨g + 1 + 1, 0, none⟩) hgw u0).setCell (p := ⟨g + 1 + 1, 1, none⟩) hgw u1).setCell (p := ⟨g + 1 + 1, 2, none⟩) hgw u2).setCell (p := ⟨g + 1 + 1, 3, none⟩) hgw u3
          clear bo bo7 hx hx7 IS
          go_wp2_with fail
          exact bodyPost_ret (v := .tuple #[.agg #[.int .i64 0, .int .i64 0, .int .i64 0, .slice none 0 0], .int .i64 5]) (by simp [results, Try.results16, go_sem, cO]) rfl ⟨by rw [HC.out], HEX.out _ _ _ _⟩
  · have HS := Lib.hid hsame
    have HC : Hid ((2 : Int) = cd) := Lib.hid (by rw [← HCD.out, if_neg hsame])
    by_cases h1 : a.tp = b.tp
    · have h2 : ¬ a.sy = b.sy := fun h => hsame ⟨h1, h⟩
      have e1 : (a.tp != b.tp) = false := by simp [h1]
      have e2 : (a.sy != b.sy) = true := by simp [h2]
      clear hsame h1 h2 bA2 bB2 bO2 hX2
      go_wp2_with fail
      exact bodyPost_ret (v := .tuple #[.agg #[.int .i64 0, .int .i64 0, .int .i64 0, .slice none 0 0], .int .i64 2]) (by simp [results, Try.results16, go_sem, cO]) rfl ⟨by rw [HC.out], HEX.out _ _ _ _⟩
    · have e1 : (a.tp != b.tp) = true := by simp [h1]
      clear hsame h1 bA2 bB2 bO2 hX2
      go_wp2_with fail
      exact bodyPost_ret (v := .tuple #[.agg #[.int .i64 0, .int .i64 0, .int .i64 0, .slice none 0 0], .int .i64 2]) (by simp [results, Try.results16, go_sem, cO]) rfl ⟨by rw [HC.out], HEX.out _ _ _ _⟩
end Go.Proofs.Ytkbpchdncljlbaa
end
