/- Contract of the program's lists of symbols for which a state of a valid machine has no rule.
Contract of the program's sorting of rules with several tapes, at any length. -/
import Derived.Test.YtkbpchdncljlbaaU30
import Derived.Deep.CutBlock
import Derived.Deep.DeepCutAuto
import Derived.Test.YtkbpchdncljlbaaU24
import Derived.Shelf.SlSortCmp.WholeK
section
set_option linter.unusedVariables false
set_option linter.unusedSimpArgs false
namespace Go.Proofs.Ytkbpchdncljlbaa
open Go Go.RowKit Go.Proofs Go.Maps
set_option maxHeartbeats 400000
theorem full_blk {w : World} {base g n : Nat} {e : TypeId} {xs : List Value} (h : w.ownsRow base e 1 (.slice (some ⟨g, 0, none⟩) n n) n xs) : Blk w g e xs.toArray := by
  rcases h.2 with ⟨h', _⟩ | ⟨g', cap, cur, hv, hb, hh, hnc, hcm, hcs, htk⟩
  · cases h'
  · injection hv with e1 e2 e3
    injection e1 with e1
    injection e1 with e1
    subst e1 e3
    unfold Blk
    rw [hh]
    have : cur.toList = xs := by rw [← htk, List.take_of_length_le (by simp [hcs])]
    rw [← this]
theorem restL_all (m : MultiD) (q : Int) : restL m.rules q [] (allS m.sy.toNat m.tp.toNat) = haltReads m q := by
  unfold restL haltReads
  simp
set_option maxRecDepth 20000 in
set_option maxHeartbeats 8000000 in
theorem haltingReads_c (mv : Value) (m : MultiD) (q : Int) (w : World) (hM : Mult w mv m) (hm : multiOk m = true) (hq : 0 ≤ q ∧ q ≤ m.st - 1) :
    Calls Try.prog 44 #[mv, .int .i64 q] w fun e w' => (∃ A c, e = .returned (.slice A (haltReads m q).length c) ∧ OwnLL w.heap.size w.heap.size w' (.slice A (haltReads m q).length c) (haltReads m q)) ∧ Ext w w' := by
  obtain ⟨i0, hi0, hz0, hz1, hz2⟩ := info_parts intInfo
  obtain ⟨rv, rfl, hR⟩ := id hM
  obtain ⟨A, cA, rfl, _, _⟩ := hR.form
  obtain ⟨⟨t1, t2⟩, ⟨y1, y2⟩, ⟨s1, s2⟩, _, _⟩ := multi_all hm
  obtain ⟨N, hN⟩ : ∃ N : Nat, m.tp = (N : Int) := ⟨m.tp.toNat, by omega⟩
  obtain ⟨g, hg⟩ : ∃ g, w.heap.size = g := ⟨_, rfl⟩
  obtain ⟨V, hV⟩ : ∃ V, V = (w.alloc (.cells #[.int .i64 m.tp, .int .i64 m.sy, .int .i64 m.st, .slice A m.rules.length cA] 29)).alloc (.cells #[.int .i64 q] 2) := ⟨_, rfl⟩
  have hX : Ext w V := by rw [hV]; exact (Ext.alloc _ _).trans (Ext.alloc _ _)
  have bM : Blk V g 29 #[.int .i64 m.tp, .int .i64 m.sy, .int .i64 m.st, .slice A m.rules.length cA] := by rw [hV]; exact (Blk.new _ _ _ _ hg).alloc _
  have bS : Blk V (g + 1) 2 #[.int .i64 q] := by rw [hV]; exact Blk.new _ _ _ _ (by simp [hg])
  have MR := multiRules_c (.agg #[.int .i64 m.tp, .int .i64 m.sy, .int .i64 m.st, .slice A m.rules.length cA]) m V (hM.ext hX) hm
  have m0 : V.cell? ⟨g, 0, none⟩ = some (.int .i64 m.tp) := bM.cell 0
  have m1 : V.cell? ⟨g, 1, none⟩ = some (.int .i64 m.sy) := bM.cell 1
  have m2 : V.cell? ⟨g, 2, none⟩ = some (.int .i64 m.st) := bM.cell 2
  have m3 : V.cell? ⟨g, 3, none⟩ = some (.slice A m.rules.length cA) := bM.cell 3
  have HN := Lib.hid hN
  have HM := Lib.hid hm
  have HG := Lib.hid hg
  clear hM hR hm hN
  go_enter Try.func44, Try.ntmps44
  go_wp2_with fail
  try rw [← hV]
  try rw [hg]
  clear hV hg
  refine MR.mono ?_
  rintro e w1 ⟨gmap, rfl, hT, hgm, hx1⟩
  obtain ⟨gl, hgl⟩ : ∃ g, w1.heap.size = g := ⟨_, rfl⟩
  obtain ⟨W2, hW2⟩ : ∃ W, W = ((w1.alloc (.cells #[] 24)).alloc (.cells #[.map (some gmap)] 98)).alloc (.cells #[.slice (some ⟨gl, 0, none⟩) 0 0] 37) := ⟨_, rfl⟩
  have hX2 : Ext w1 W2 := by rw [hW2]; exact ((Ext.alloc _ _).trans (Ext.alloc _ _)).trans (Ext.alloc _ _)
  have bT2 : Blk W2 (gl + 1) 98 #[.map (some gmap)] := by rw [hW2]; exact (Blk.new _ _ _ _ (by simp [hgl])).alloc _
  have bL2 : Blk W2 (gl + 1 + 1) 37 #[.slice (some ⟨gl, 0, none⟩) 0 0] := by rw [hW2]; exact Blk.new _ _ _ _ (by simp [hgl])
  have hW2s : W2.heap.size = gl + 1 + 1 + 1 := by rw [hW2]; simp [hgl]
  have hgle : g + 1 < gl := by rw [← hgl]; have := (bS.ext hx1).lt; omega
  have hwl : w.heap.size ≤ gl := by rw [← hgl]; exact (hX.trans hx1).size
  have ol2 : W2.ownsRow w.heap.size 24 1 (.slice (some ⟨gl, 0, none⟩) 0 0) 0 [] := by
    refine ⟨rfl, .inr ⟨gl, 0, #[], rfl, hwl, ?_, Nat.le_refl _, by unfold maxLen; omega, rfl, rfl⟩⟩
    have b0 : Blk (w1.alloc (.cells #[] 24)) gl 24 #[] := Blk.new _ _ _ _ hgl
    have : Blk W2 gl 24 #[] := by rw [hW2]; exact (b0.alloc _).alloc _
    exact this
  have bM2 := (bM.ext hx1).ext hX2
  have bS2 := (bS.ext hx1).ext hX2
  have hT2 := hT.ext hX2
  have hXX := (hX.trans hx1).trans hX2
  have q0 : W2.cell? ⟨g, 0, none⟩ = some (.int .i64 m.tp) := bM2.cell 0
  have bMk := bM
  clear MR m0 m1 m2 m3 bM bS hT hX hX2
  have m0 : w1.cell? ⟨g, 0, none⟩ = some (.int .i64 m.tp) := (bMk.ext hx1).cell 0
  have m1 : w1.cell? ⟨g, 1, none⟩ = some (.int .i64 m.sy) := (bMk.ext hx1).cell 1
  have m2 : w1.cell? ⟨g, 2, none⟩ = some (.int .i64 m.st) := (bMk.ext hx1).cell 2
  have m3 : w1.cell? ⟨g, 3, none⟩ = some (.slice A m.rules.length cA) := (bMk.ext hx1).cell 3
  clear hx1 bMk
  go_upto_region 2 with fail
  try rw [hgl]
  try rw [← hW2]
  clear hW2 m0 m1 m2 m3
  go_wp2_with (at_make; refine wpList_make_full _ rfl _ _ 24 rfl w.heap.size 2 i0 _ 1 Try.underlying24 hi0 hz0 hz1 .i64 .i64 _ _ N rfl rfl ?d1 ?d2 ?c1 ?c2 ?c3 ?_)
  case d1 => exact HN.out
  case d2 => exact HN.out
  case c1 => rw [hz2]; have := HN.out; omega
  case c2 => unfold maxLen; have := HN.out; omega
  case c3 => exact hXX.size
  intro w3 hown hg3
  have bB3 : Blk w3 (gl + 1 + 1 + 1) 2 (madeCells #[Value.int .i64 0] N).toList.toArray := full_blk hown
  have hx3 : Ext W2 w3 := (Ext.refl _).grown hg3 (by simp)
  clear q0 hown hg3
  go_upto_region 4 with fail
  obtain ⟨g3, hg3⟩ : ∃ g, w3.heap.size = g := ⟨_, rfl⟩
  obtain ⟨FV, hFV⟩ : ∃ v, v = Value.func (.func 77) #[] #[.pointer (some ⟨g, 0, none⟩), .pointer (some ⟨g + 1, 0, none⟩), .pointer (some ⟨g3, 0, none⟩), .pointer (some ⟨gl + 1, 0, none⟩), .pointer (some ⟨gl + 1 + 1, 0, none⟩), .pointer (some ⟨g3 + 1, 0, none⟩)] := ⟨_, rfl⟩
  obtain ⟨W4, hW4⟩ : ∃ W, W = (w3.alloc (.cells #[.slice (some ⟨gl + 1 + 1 + 1, 0, none⟩) N N] 24)).alloc (.cells #[.nilFunc] 111) := ⟨_, rfl⟩
  have hX4 : Ext w3 W4 := by rw [hW4]; exact (Ext.alloc _ _).trans (Ext.alloc _ _)
  have bB4 : Blk W4 g3 24 #[.slice (some ⟨gl + 1 + 1 + 1, 0, none⟩) N N] := by rw [hW4]; exact (Blk.new _ _ _ _ hg3).alloc _
  have bF4 : Blk W4 (g3 + 1) 111 #[.nilFunc] := by rw [hW4]; exact Blk.new _ _ _ _ (by simp [hg3])
  have hW4s : W4.heap.size = g3 + 1 + 1 := by rw [hW4]; simp [hg3]
  have hlg : gl + 1 + 1 + 1 < g3 := by rw [← hg3]; exact bB3.lt
  have c0 : W4.cell? ⟨g3 + 1, 0, none⟩ = some .nilFunc := bF4.cell 0
  have f0 := bF4.frozen 0
  have hst : (store ⟨g3 + 1, 0, none⟩ FV).run Try.prog W4 = .ok () (W4.setCell ⟨g3 + 1, 0, none⟩ FV) := by
    rw [run_store Try.prog W4 _ FV _ (by rw [hFV]; rfl)]
    simp [c0, f0]
  have hXa := hx3.trans hX4
  have hXw := hXX.trans hXa
  have hne : ∀ p, p < g3 + 1 → p ≠ g3 + 1 := fun p hp => by omega
  have nF : w.heap.size ≤ g3 + 1 := by omega
  have st : HrS w (g3 + 1 + 1) g (g + 1) g3 (gl + 1) (gl + 1 + 1) (g3 + 1) (gl + 1 + 1 + 1) gmap m (.slice A m.rules.length cA) q N (List.replicate N 0) [] (.slice (some ⟨gl, 0, none⟩) 0 0) (W4.setCell ⟨g3 + 1, 0, none⟩ FV) := by
    refine ⟨hXw.setCell (p := ⟨g3 + 1, 0, none⟩) nF _, (bM2.ext hXa).far (p := ⟨g3 + 1, 0, none⟩) (hne _ (by omega)) _, (bS2.ext hXa).far (p := ⟨g3 + 1, 0, none⟩) (hne _ (by omega)) _, bB4.far (p := ⟨g3 + 1, 0, none⟩) (hne _ (by omega)) _, (bT2.ext hXa).far (p := ⟨g3 + 1, 0, none⟩) (hne _ (by omega)) _, (bL2.ext hXa).far (p := ⟨g3 + 1, 0, none⟩) (hne _ (by omega)) _, ?_, ?_, by simp, ?_, ?_, ?_, by simp [hW4s]⟩
    · have := bF4.set_ 0 FV
      rw [hFV] at this ⊢
      exact this
    · have e : (ivs (List.replicate N 0)).toArray = (madeCells #[Value.int .i64 0] N).toList.toArray := by
        rw [toList_madeCells_one]
        simp [ivs]
      rw [e]
      exact (bB3.ext hX4).far (p := ⟨g3 + 1, 0, none⟩) (hne _ (by omega)) _
    · exact ⟨[], ownsRow_far (ownsRow_ext ol2 hXa) (fun p hp e => by
        have hp : gl = p := by simpa [Value.ownBlock] using hp
        have e : p = g3 + 1 := e
        omega) _, fun i hi => absurd hi (by simp)⟩
    · intro e
      have e : gl = g3 := by simpa [Value.ownBlock] using e
      omega
    · have ht := hT2.ext hXa
      exact ht.setCell (ht.ne_blk bF4) _
  have FC := fill_all w (g3 + 1 + 1) g (g + 1) g3 (gl + 1) (gl + 1 + 1) (g3 + 1) (gl + 1 + 1 + 1) gmap m (.slice A m.rules.length cA) q N HM.out HN.out.symm hq (by omega) (by omega) (by omega) (by omega) (by omega) N 0 (by omega) _ _ _ _ st (by simp) (by simp)
  have hcf : (W4.setCell ⟨g3 + 1, 0, none⟩ FV).cell? ⟨g3 + 1, 0, none⟩ = some FV := World.cell?_setCell_same _ _ _ c0
  obtain ⟨W5, hW5⟩ : ∃ W, W4.setCell ⟨g3 + 1, 0, none⟩ FV = W := ⟨_, rfl⟩
  rw [hW5] at hst hcf FC
  try rw [hg3]
  try rw [← hW4]
  have HX5 : Hid (w.heap.size ≤ g3 + 1 + 1) := Lib.hid (by omega)
  have hg3' : w3.heap.size = g3 := hg3
  subst hFV
  clear hW5 st hW4 hX4 bB4 bF4 hXa hXw hne c0 f0 bB3 bM2 bS2 hT2 hXX bT2 bL2 ol2 hx3 hg3
  go_wp2_with fail
  refine FC.mono ?_
  rintro e w6 ⟨rfl, buf', v', _, st6⟩
  have hlst : Hid ([] ++ restL m.rules q ((List.replicate N (0 : Int)).take 0) (allS m.sy.toNat N) = haltReads m q) := Lib.hid (by
    rw [List.take_zero, List.nil_append, ← restL_all, HN.out, Int.toNat_natCast])
  rw [hlst.out] at st6
  obtain ⟨A6, c6, rfl, _, _⟩ := st6.ll.form
  have hv6 : w6.cell? ⟨gl + 1 + 1, 0, none⟩ = some (.slice A6 (haltReads m q).length c6) := st6.cl.cell 0
  have HS := Lib.hid st6
  clear FC st6
  go_wp2_with fail
  go_ret
  exact ⟨⟨A6, c6, rfl, HS.out.ll.low (Nat.le_refl _) HX5.out⟩, HS.out.ext⟩
end Go.Proofs.Ytkbpchdncljlbaa
end
section
set_option linter.unusedVariables false
set_option linter.unusedSimpArgs false
namespace Go.Proofs.Ytkbpchdncljlbaa
open Go Go.RowKit Go.Proofs Go.Maps
set_option maxHeartbeats 400000
set_option maxRecDepth 20000 in
theorem sortMN_c (base : Nat) (w : World) (v : Value) (rs : List MRuleD) (h : OwnMR base w v rs) (h0 : 0 < rs.length) (h12 : rs.length < 4611686018427387904) :
    Calls Try.prog 68 #[v, .func (.func 56) #[] #[]] w fun e w' => e = .returned (.tuple #[]) ∧ (∃ rs', rs'.Perm rs ∧ SortedM rs' ∧ ∀ W, KeepB base w' W → MRules W v rs') ∧ w.grownBy w' v.ownBlock := by
  obtain ⟨cl, h1, h2⟩ := h
  obtain ⟨A, cap, rfl, g1, g2, _⟩ := (ownsRow_row h1).form
  obtain ⟨g, rfl, hb, hlt⟩ := own_at h1 h0
  have hlen := h2.1
  have hrow : ∀ (W0 : World), w.grownBy W0 (some g) → MCells base W0 cl rs := fun W0 hW => h2.same fun q cs hq => hW.block q hq.lt (by have := blk_ne_row hq h1 (by decide); exact this)
  have hone : ∀ k, ∀ x ∈ encM cl rs.length k, x.oneCell' = true := by
    intro k x hx
    obtain ⟨vr, vw, vm, e, i1, i2, i3⟩ := h2.rul k
    obtain ⟨_, _, rfl, _⟩ := i1.form
    obtain ⟨_, _, rfl, _⟩ := i2.form
    obtain ⟨_, _, rfl, _⟩ := i3.form
    injection e with e
    have hx' : x ∈ (encM cl rs.length k).toArray.toList := by simpa using hx
    rw [e] at hx'
    simp at hx'
    rcases hx' with rfl | rfl | rfl | rfl | rfl <;> rfl
  have hO := cmpM_swo (fun k => rs.getD k mr0)
  have hsz : (List.range rs.length).toArray.size = rs.length := by simp
  have hdj : ∀ j, j < rs.length → (List.range rs.length).toArray[j]! = j := fun j hj => by simp [hj]
  have hrr : cl.length ≤ cl.length := Nat.le_refl _
  have hcell : ∀ j, j < rs.length * 5 → w.cell? ⟨g, j, none⟩ = cl[j]? ∧ w.frozen? ⟨g, j, none⟩ = false := by
    intro j hj
    rcases h1.2 with ⟨e, _⟩ | ⟨g', cap', cur, hv, hb', hh, hnc, hcm, hcs, htk⟩
    · cases e
    · injection hv with e1 e2 e3
      injection e1 with e1
      injection e1 with e1
      subst e1
      refine ⟨?_, ?_⟩
      · rw [cell_of_row w g j cur _ (0, 0) hh]
        rw [← htk, List.getElem?_take_of_lt (by omega), Array.getElem?_toList]
      · unfold World.frozen?
        simp [hh]
  have hH : Sort.HoldsK (encM cl rs.length) 5 w g 0 (List.range rs.length).toArray := by
    intro j hj
    rw [Sort.size_flatK, hsz] at hj
    rw [Sort.get_flatK _ _ _ _ (by rw [hsz]; exact hj), Nat.zero_add]
    have hq : j / 5 < rs.length := by omega
    rw [hdj _ hq]
    obtain ⟨a, b⟩ := hcell j hj
    refine ⟨?_, b⟩
    rw [a]
    show _ = some (encM cl rs.length (j / 5))[j % 5]!
    rw [encM_get cl rs.length (j / 5) (j % 5) hq (by omega) hlen]
    congr 1
    omega
  have key := AnyQ.slices_SortFunc Try.laysSortK 5 Try.isAgg70 Try.sizeOf70 (encM cl rs.length) (encM_len cl rs.length) hone (fun i j : Nat => cmpM (rs.getD i mr0) (rs.getD j mr0)) hO 56 #[] g 0 cap (List.range rs.length).toArray w (enters_of Try.func56 (by kernel_rfl) rfl)
    (fun m os dk hdk x y => by
      have hW := hrow _ (grownBy_sortWK (encM cl rs.length) 5 w g m dk os)
      refine (compareMultiRulesG_c _ _ _ _ _ (hW.rul x) (hW.rul y)).mono ?_
      rintro e w' ⟨rfl, os', rfl⟩
      exact ⟨rfl, 0, os', rfl⟩) hH hlt (by rw [hsz]; exact h12)
  rw [hsz] at key
  refine key.mono ?_
  rintro e w' ⟨rfl, d', n, os, hp, hS, rfl⟩
  have hgw := grownBy_sortWK (encM cl rs.length) 5 w g n d' os
  obtain ⟨hp1, hp2, hp3⟩ := hp
  have hd' : d'.size = rs.length := by rw [hp1, hsz]
  have hperm : d'.toList.Perm (List.range rs.length) := by
    have e1 : d'.extract 0 rs.length = d' := by
      rw [← hd', Array.extract_size]
    have e2 : (List.range rs.length).toArray.extract 0 rs.length = (List.range rs.length).toArray := by
      have := @Array.extract_size _ (List.range rs.length).toArray
      rwa [hsz] at this
    rw [e1, e2] at hp3
    simpa using hp3
  have hrl : (d'.toList.map fun k => rs.getD k mr0).length = rs.length := by simp [hd']
  have hgd : ∀ i, i < rs.length → (d'.toList.map fun k => rs.getD k mr0).getD i mr0 = rs.getD d'[i]! mr0 := fun i hi => by
    rw [List.getD_eq_getElem?_getD, List.getElem?_eq_getElem (by omega)]
    simp [hd', hi]
  refine ⟨rfl, ⟨d'.toList.map fun k => rs.getD k mr0, ?_, ?_, ?_⟩, hgw⟩
  · have h3 := hperm.map (fun k => rs.getD k mr0)
    have e : (List.range rs.length).map (fun k => rs.getD k mr0) = rs := by
      apply List.ext_getElem (by simp)
      intro i h1 h2
      simp [List.getD_eq_getElem?_getD, List.getElem?_eq_getElem h2]
    rwa [e] at h3
  · intro i j hij hj
    rw [hrl] at hj
    have := hS i j (Nat.zero_le _) hij hj
    rw [hgd j hj, hgd i (by omega)]
    simpa [ltOf] using this
  · intro W hWW
    have hM := (hrow _ hgw).keepB hWW
    have hHs := holdsK_sortWorldK_c (encM cl rs.length) 5 w g 0 _ d' n os hH hlt (by rw [hp1])
    refine ⟨_, cap, by rw [hrl], by omega, g2, fun _ => ⟨g, 0, rfl, fun i hi => ?_⟩⟩
    have hi' : i < rs.length := by omega
    have hin : i < d'.size := by omega
    have hri : (d'.toList.map fun k => rs.getD k mr0)[i] = rs.getD d'[i]! mr0 := by
      have := hgd i hi'
      rw [List.getD_eq_getElem?_getD, List.getElem?_eq_getElem hi] at this
      exact this
    obtain ⟨vr, vw, vm, e, i1, i2, i3⟩ := hM.rul d'[i]!
    injection e with e
    have e' : encM cl rs.length d'[i]! = [.int .i64 (rs.getD d'[i]! mr0).st, vr, vw, vm, .int .i64 (rs.getD d'[i]! mr0).nx] := by have := congrArg Array.toList e; simpa using this
    have cc : ∀ c, c < 5 → W.cell? ⟨g, 0 + i * 5 + c, none⟩ = some (encM cl rs.length d'[i]!)[c]! := fun c hc => hWW.cell (by show base ≤ g; exact hb) (Sort.HoldsK.cell hHs hin hc).1
    rw [e'] at cc
    refine ⟨vr, vw, vm, ?_, cc 1 (by omega), cc 2 (by omega), cc 3 (by omega), ?_, ?_, ?_, ?_⟩
    · rw [hri]; exact cc 0 (by omega)
    · rw [hri]; exact cc 4 (by omega)
    · rw [hri]; exact i1
    · rw [hri]; exact i2
    · rw [hri]; exact i3
theorem sortRulesN_c (base : Nat) (w : World) (bm : Nat) (tp sy st : Int) (v : Value) (rs : List MRuleD) (hb : Blk w bm 29 #[.int .i64 tp, .int .i64 sy, .int .i64 st, v]) (h : OwnMR base w v rs) (h0 : 0 < rs.length) (h12 : rs.length < 4611686018427387904) :
    Calls Try.prog 38 #[.pointer (some ⟨bm, 0, none⟩)] w fun e w' => e = .returned (.tuple #[]) ∧ (∃ rs', rs'.Perm rs ∧ SortedM rs' ∧ ∀ W, KeepB base w' W → MRules W v rs') ∧ w.grownBy w' v.ownBlock := by
  obtain ⟨A, c, rfl, _, _⟩ := h.form
  have b3 := hb.cell 3
  simp only [List.getElem?_toArray, List.getElem?_cons_zero, List.getElem?_cons_succ] at b3
  have SM := sortMN_c base w _ rs h h0 h12
  go_enter Try.func38, Try.ntmps38
  go_wp2_with fail
  refine SM.mono ?_
  rintro e w' ⟨rfl, h1, h2⟩
  go_wp2_with fail
  refine bodyPost_end (results_none rfl _ _ _) rfl ?_
  exact ⟨rfl, h1, h2⟩
end Go.Proofs.Ytkbpchdncljlbaa
end
