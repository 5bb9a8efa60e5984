/- Contracts of the reference's step of a machine.
Plain words on configurations of a machine: one that is valid, and the reference's step of it.
Contract of the program's beginning of a machine with several tapes on words. -/
import Derived.Test.YtgeckhjkahnonaaGreatDoorO11
import Derived.Test.YtgeckhjkahnonaaGreatDoorO28
import Derived.Test.YtgeckhjkahnonaaGreatDoorO04
import Derived.Test.YtgeckhjkahnonaaGreatDoorO05
import Derived.Deep.RegionHeld3
import Derived.Deep.RegionLaw
import Derived.Test.YtgeckhjkahnonaaGreatDoorO18
import Derived.Test.YtgeckhjkahnonaaGreatDoorO21
import Derived.Test.YtgeckhjkahnonaaGreatDoorO24
section
namespace Go.Proofs.YtgeckhjkahnonaaGreatDoor
open Go Go.RowKit Go.Proofs
set_option maxHeartbeats 400000
def ConfV (w : World) (v : Value) (c : ConfR) : Prop := ∃ lv rv bl br, v = .agg #[.int .i64 c.q, lv, rv] ∧ OwnInts bl w lv c.l ∧ OwnInts br w rv c.r
theorem ConfV.ext {w w' : World} {v : Value} {c : ConfR} (h : ConfV w v c) (he : Ext w w') : ConfV w' v c := by
  obtain ⟨lv, rv, bl, br, hv, h1, h2⟩ := h
  exact ⟨lv, rv, bl, br, hv, h1.ext he, h2.ext he⟩
end Go.Proofs.YtgeckhjkahnonaaGreatDoor
end
section
set_option linter.unusedSimpArgs false
set_option linter.unusedVariables false
namespace Go.Proofs.YtgeckhjkahnonaaGreatDoor
open Go Go.RowKit Go.Proofs
theorem conf_good {m : MachD} {c : ConfD} (h : confB m c = true) : IGood m c ∧ (c.l.length ≤ 200 ∧ c.r.length ≤ 200) ∧ tidyL c.l ∧ tidyL c.r := by
  simp only [confB, sideOk, inB, Bool.and_eq_true, Bool.or_eq_true, decide_eq_true_eq, List.all_eq_true, beq_iff_eq, bne_iff_ne, ne_eq] at h
  obtain ⟨⟨hq, ⟨hl1, hl2⟩, hl3⟩, ⟨hr1, hr2⟩, hr3⟩ := h
  refine ⟨⟨by omega, by omega, fun z hz => by have := hl2 z hz; omega, fun z hz => by have := hr2 z hz; omega⟩, ⟨by omega, by omega⟩, ?_, ?_⟩
  · rcases hl3 with h | h
    · exact .inl (List.length_eq_zero_iff.1 (by omega))
    · exact .inr h
  · rcases hr3 with h | h
    · exact .inl (List.length_eq_zero_iff.1 (by omega))
    · exact .inr h
theorem conf_back {m : MachD} {c : ConfD} (hg : IGood m c) (hf : c.l.length ≤ 200 ∧ c.r.length ≤ 200) (ht : tidyL c.l ∧ tidyL c.r) : confB m c = true := by
  have side : ∀ xs : List Int, xs.length ≤ 200 → (∀ z ∈ xs, 0 ≤ z ∧ z < m.sy) → tidyL xs → sideOk xs m.sy 200 = true := fun xs h1 h2 h3 => by
    simp only [sideOk, inB, Bool.and_eq_true, Bool.or_eq_true, decide_eq_true_eq, List.all_eq_true, beq_iff_eq, bne_iff_ne, ne_eq]
    refine ⟨⟨by omega, fun z hz => by have := h2 z hz; omega⟩, ?_⟩
    rcases h3 with h3 | h3
    · left; rw [h3]; rfl
    · exact .inr h3
  simp only [confB, Bool.and_eq_true]
  refine ⟨⟨?_, side _ hf.1 hg.l ht.1⟩, side _ hf.2 hg.r ht.2⟩
  have h0 := hg.q0
  have h1 := hg.q1
  simp only [inB, Bool.and_eq_true, decide_eq_true_eq]
  omega
end Go.Proofs.YtgeckhjkahnonaaGreatDoor
end
section
set_option linter.unusedVariables false
set_option linter.unusedSimpArgs false
namespace Go.Proofs.YtgeckhjkahnonaaGreatDoor
open Go Go.RowKit Go.Proofs Go.Maps
set_option maxHeartbeats 400000
theorem sizeSS_c (A : Option Addr) (n c : Nat) (w : World) : Calls Tryz.prog 34 #[.slice A n c] w fun e w' => e = .returned (.int .i64 n) ∧ w = w' := by
  go_enter Tryz.func34, Tryz.ntmps34
  go_wp2
  go_ret
  exact ⟨rfl, rfl⟩
theorem CpM.tapF {w w1 : World} {ts : List TapeD} {v : Value} {cl : List Value} (h : CpM w ts ts.length v cl w1) (h0 : 0 < ts.length) (hl : ∀ t ∈ ts, t.l.length ≤ 1000 ∧ t.r.length ≤ 1000) :
    ∃ g cap, v = .slice (some ⟨g, 0, none⟩) ts.length cap ∧ ts.length ≤ cap ∧ cap ≤ 9223372036854775807 ∧ TapF w1 g 0 ts := by
  have hlen := h.len
  rcases h.own.2 with ⟨_, e⟩ | ⟨g, cap, cur, e, hb, hh, hnc, hcm, hcs, htk⟩
  · omega
  · subst e
    have hget : ∀ j, j < ts.length * 2 → cur[j]? = cl[j]? := fun j hj => by
      rw [← htk, List.getElem?_take, if_pos (by omega)]
      simp
    have hB : Blk w1 g 91 cur := hh
    refine ⟨g, cap, rfl, hnc, by unfold maxLen at hcm; omega, fun i hi => ?_⟩
    obtain ⟨lv, rv, e1, e2, o1, o2⟩ := h.side i hi hi
    have := hl _ (List.getElem_mem hi)
    exact ⟨lv, rv, by rw [Nat.zero_add, hB.cell, hget _ (by omega)]; exact e1, by rw [Nat.zero_add, hB.cell, hget _ (by omega)]; exact e2, o1.ints, o2.ints, o1.flat, o2.flat, this.1, this.2⟩
/-- A word that may stand on a tape. -/
def wordOk (m : MultiD) (x : List Int) : Bool := decide (x.length ≤ 200) && x.all fun z => inB z 0 (m.sy - 1)
/-- What the beginning on words gives. -/
def StartR (m : MultiD) (ws : List (List Int)) (e : Ending) (w' : World) : Prop :=
  (multiOk m = false ∧ e = .returned (.tuple #[.agg #[.int .i64 0, .slice none 0 0], .int .i64 1])) ∨
  (multiOk m = true ∧ ¬ ((ws.length : Int) = m.tp ∧ ws.all (wordOk m) = true) ∧ e = .returned (.tuple #[.agg #[.int .i64 0, .slice none 0 0], .int .i64 2])) ∨
  (multiOk m = true ∧ (ws.length : Int) = m.tp ∧ ws.all (wordOk m) = true ∧ ∃ g cap, e = .returned (.tuple #[.agg #[.int .i64 0, .slice (some ⟨g, 0, none⟩) ws.length cap], .int .i64 0]) ∧ ws.length ≤ cap ∧ cap ≤ 9223372036854775807 ∧ TapF w' g 0 (ws.map startT))
/-- As StartR, with the tapes in rows of their own, made since w0. -/
def StartC (w0 : World) (m : MultiD) (ws : List (List Int)) (e : Ending) (w' : World) : Prop :=
  (multiOk m = false ∧ e = .returned (.tuple #[.agg #[.int .i64 0, .slice none 0 0], .int .i64 1])) ∨
  (multiOk m = true ∧ ¬ ((ws.length : Int) = m.tp ∧ ws.all (wordOk m) = true) ∧ e = .returned (.tuple #[.agg #[.int .i64 0, .slice none 0 0], .int .i64 2])) ∨
  (multiOk m = true ∧ (ws.length : Int) = m.tp ∧ ws.all (wordOk m) = true ∧ ∃ v cl, e = .returned (.tuple #[.agg #[.int .i64 0, v], .int .i64 0]) ∧ CpM w0 (ws.map startT) (ws.map startT).length v cl w')
set_option maxRecDepth 20000 in
set_option maxHeartbeats 4000000 in
theorem StartMultiC_c (m : MultiD) (mv wv : Value) (ws : List (List Int)) (vs : List Value) (w : World) (hM : Mult w mv m) (hW : Row w 1 wv ws.length vs) (hI : ∀ i, (h : i < ws.length) → ∃ u, vs[i]? = some u ∧ Ints w u ws[i] ∧ Flat u) :
    Calls Tryz.prog 16 #[mv, wv] w fun e w' => StartC w m ws e w' ∧ Ext w w' := by
  obtain ⟨rv, rfl, hR⟩ := id hM
  obtain ⟨A, cA, rfl, _, _⟩ := hR.form
  obtain ⟨B, cB, rfl, hB1, hB2, hvl⟩ := hW.form
  obtain ⟨i0, hi, hz0, hz1, hz2⟩ := info_parts tapeInfo
  obtain ⟨V, hV⟩ : ∃ V, V = (w.alloc (.cells #[.int .i64 m.tp, .int .i64 m.sy, .int .i64 m.st, .slice A m.rules.length cA] 26)).alloc (.cells #[.int .i64 0, .slice none 0 0] 48) := ⟨_, rfl⟩
  have hX : Ext w V := by rw [hV]; exact (Ext.alloc _ _).trans (Ext.alloc _ _)
  obtain ⟨g, hg⟩ : ∃ g, w.heap.size = g := ⟨_, rfl⟩
  have bM : Blk V g 26 #[.int .i64 m.tp, .int .i64 m.sy, .int .i64 m.st, .slice A m.rules.length cA] := by rw [hV]; exact (Blk.new _ _ _ _ hg).alloc _
  have bO : Blk V (g + 1) 48 #[.int .i64 0, .slice none 0 0] := by rw [hV]; exact Blk.new _ _ _ _ (by simp [hg])
  have m0 := bM.cell 0
  have m1 := bM.cell 1
  have m2 := bM.cell 2
  have m3 := bM.cell 3
  simp only [List.getElem?_toArray, List.getElem?_cons_zero, List.getElem?_cons_succ] at m0 m1 m2 m3
  have VM := ValidMulti_c (.agg #[.int .i64 m.tp, .int .i64 m.sy, .int .i64 m.st, .slice A m.rules.length cA]) m V (hM.ext hX)
  have o0 := bO.cell
  have of0 := bO.frozen
  cases hm : multiOk m with
  | false =>
    rw [hm] at VM
    have HM := Lib.hid hm
    clear hm
    go_enter Tryz.func16, Tryz.ntmps16
    go_wp2_with fail
    try rw [← hV]
    try rw [hg]
    clear hV
    refine VM.mono ?_
    rintro e w1 ⟨rfl, hx1⟩
    have bO1 := bO.ext hx1
    have ob := bO1.cell
    have of_ := bO1.frozen
    have HX := Lib.hid (((hX.trans hx1).setCell (p := ⟨g + 1, 0, none⟩) (by show w.heap.size ≤ g + 1; omega) (.int .i64 0)).setCell (p := ⟨g + 1, 1, none⟩) (by show w.heap.size ≤ g + 1; omega) (.slice none 0 0))
    go_wp2_with fail
    exact bodyPost_ret (v := .tuple #[.agg #[.int .i64 0, .slice none 0 0], .int .i64 1]) (by simp [results, Tryz.results16, go_sem, ob]) rfl ⟨.inl ⟨HM.out, rfl⟩, HX.out⟩
  | true =>
    rw [hm] at VM
    have HM := Lib.hid hm
    obtain ⟨⟨tp1, tp2⟩, ⟨sy1, sy2⟩, _⟩ := multi_all hm
    clear hm
    have hsy : IntKind.i64.wrap (m.sy - 1) = m.sy - 1 := IntWalk.i64_in _ (by omega)
    by_cases hn : (ws.length : Int) = m.tp
    · have hne : ((ws.length : Int) != m.tp) = false := by simp [hn]
      have HN : Hid ((ws.length : Int) = m.tp) := hn
      have hn3 : ws.length ≤ 3 := by omega
      have hn2 : 0 < ws.length := by omega
      clear hn
      go_enter Tryz.func16, Tryz.ntmps16
      go_wp2_with fail
      try rw [← hV]
      try rw [hg]
      clear hV
      refine VM.mono ?_
      rintro e w1 ⟨rfl, hx1⟩
      have k0 := cellR ((hx1.cell m0))
      clear m0 m1 m2 m3
      go_wp2_with fail
      refine wp_region_ext (by kernel_rfl) (by kernel_rfl) ?_
      repeat (go_big_quiet_step ((go_at_call 34; exact Calls.sameR (sizeSS_c _ _ _ _))))
      refine wpQuiet_nil ?_
      intro w2 hx2
      have hX2 := hX.trans (hx1.trans hx2)
      have bM2 := bM.ext (hx1.trans hx2)
      have bO2 := bO.ext (hx1.trans hx2)
      obtain ⟨W, hWW⟩ : ∃ W, W = w2.alloc (.cells #[.int .i64 0, .slice none 0 0] 48) := ⟨_, rfl⟩
      obtain ⟨gc, hgc⟩ : ∃ gc, w2.heap.size = gc := ⟨_, rfl⟩
      have hXW : Ext w2 W := by rw [hWW]; exact Ext.alloc _ _
      have bC2 : Blk W gc 48 #[.int .i64 0, .slice none 0 0] := by rw [hWW]; exact Blk.new _ _ _ _ hgc
      have hgl : g + 1 < gc := by rw [← hgc]; exact bO2.lt
      have bMW := bM2.ext hXW
      have bOW := bO2.ext hXW
      have hXW2 := hX2.trans hXW
      have st0 : CpM w (ws.map startT) 0 (.slice none 0 0) [] W := ⟨World.ownsRow_nil .., rfl, fun i _ h => by omega, fun i j u v g _ hu => by simp at hu⟩
      clear k0 VM hX hx1 hx2 hX2 bM2 bO2 bM bO hXW
      go_wp2_with fail
      try rw [← hWW]
      try rw [hgc]
      clear hWW
      go_loopw [22] (fun u wr => ∃ (k : Nat) (v : Value) (cl : List Value), k ≤ ws.length ∧ u = .int .i64 (k : Int) ∧ CpM w (ws.map startT) k v cl wr ∧ Ext w wr ∧ Blk wr g 26 #[.int .i64 m.tp, .int .i64 m.sy, .int .i64 m.st, .slice A m.rules.length cA] ∧ Blk wr (g + 1) 48 #[.int .i64 0, .slice none 0 0] ∧ Blk wr gc 48 #[.int .i64 0, v] ∧ Hid (∀ i, (h : i < ws.length) → i < k → wordOk m ws[i] = true)) (fun u _ => ws.length - (intOf u).toNat)
      case atStart => exact ⟨0, _, _, Nat.zero_le _, rfl, st0, hXW2, bMW, bOW, bC2, fun i _ h => by omega⟩
      case round =>
        clear st0 hXW2 bMW bOW bC2
        obtain ⟨k, v, cl, hk, rfl, st, hx, bM, bO, bC, HALL⟩ := hrel
        obtain ⟨Av, cv, rfl, hv1, hv2, _⟩ := (ownsRow_row st.own).form
        have m1 := bM.cell 1
        simp only [List.getElem?_toArray, List.getElem?_cons_zero, List.getElem?_cons_succ] at m1
        by_cases hlt : k < ws.length
        · obtain ⟨u, hu, iu, fu⟩ := hI k hlt
          obtain ⟨b, off, rfl, hc⟩ := Row.at hW hlt
          have x0 := hx.cell ((hc k (by omega)).trans hu)
          have HNO : Hid (wordOk m ws[k] = false → ¬ ((ws.length : Int) = m.tp ∧ ws.all (wordOk m) = true)) := Lib.hid fun hf h => by
            have := List.all_eq_true.1 h.2 _ (List.getElem_mem hlt)
            rw [hf] at this
            cases this
          have HYES : Hid (wordOk m ws[k] = true → ∀ i, (h : i < ws.length) → i < k + 1 → wordOk m ws[i] = true) := Lib.hid fun ht i hi1 hi2 => by
            by_cases e : i = k
            · subst e; exact ht
            · exact HALL.out i hi1 (by omega)
          have HTS : Hid ((ws.map startT)[k]'(by simpa using hlt) = startT ws[k]) := by unfold Hid; simp
          obtain ⟨x, hxk⟩ : ∃ x, ws[k] = x := ⟨_, rfl⟩
          rw [hxk] at iu HNO HYES HTS
          obtain ⟨A1, k1, rfl, _, _⟩ := iu.form
          have ob := bO.cell
          have of_ := bO.frozen
          have HX := Lib.hid ((hx.setCell (p := ⟨g + 1, 0, none⟩) (by show w.heap.size ≤ g + 1; omega) (.int .i64 0)).setCell (p := ⟨g + 1, 1, none⟩) (by show w.heap.size ≤ g + 1; omega) (.slice none 0 0))
          clear hxk hc hu
          by_cases h200 : 200 < x.length
          · have HB : Hid (¬ ((ws.length : Int) = m.tp ∧ ws.all (wordOk m) = true)) := HNO.out (by unfold wordOk; rw [decide_eq_false (by omega)]; rfl)
            have i4 : (200 : Int) < (x.length : Int) := by omega
            clear st iu
            go_wp2_with fail
            exact bodyPost_ret (v := .tuple #[.agg #[.int .i64 0, .slice none 0 0], .int .i64 2]) (by simp [results, Tryz.results16, go_sem, ob]) rfl ⟨.inr (.inl ⟨HM.out, HB.out, rfl⟩), HX.out⟩
          · have i4 : ¬ (200 : Int) < (x.length : Int) := by omega
            have AW := allWithin_c _ x 0 (m.sy - 1) wr (iu.ext hx)
            have HWO : Hid (wordOk m x = (x.all fun z => inB z 0 (m.sy - 1))) := by unfold Hid wordOk; rw [decide_eq_true (by omega), Bool.true_and]
            generalize (x.all fun z => inB z 0 (m.sy - 1)) = ok at *
            cases ok with
            | false =>
              have HB := HNO.out HWO.out
              have HBB := Lib.hid HB
              clear st iu HB
              go_wp2_with fail
              refine AW.mono ?_
              rintro e _ ⟨rfl, rfl⟩
              go_wp2_with fail
              exact bodyPost_ret (v := .tuple #[.agg #[.int .i64 0, .slice none 0 0], .int .i64 2]) (by simp [results, Tryz.results16, go_sem, ob]) rfl ⟨.inr (.inl ⟨HM.out, HBB.out, rfl⟩), HX.out⟩
            | true =>
              have HY := Lib.hid (HYES.out HWO.out)
              have z1 := bC.drew.cell 1
              simp only [List.getElem?_toArray, List.getElem?_cons_zero, List.getElem?_cons_succ] at z1
              have hxd := hx.trans (Ext.drew wr)
              have CL := CloneF_c _ x wr.drew (iu.ext hxd) fu (by omega)
              clear ob of_ HX HNO HYES
              go_wp2_with fail
              refine AW.mono ?_
              rintro e _ ⟨rfl, rfl⟩
              clear AW m1
              go_wp2_with fail
              refine wp_region_ord 7 [0, 1, 2, 3, 4, 5, 6] (by kernel_rfl) (by kernel_rfl) (fun _ _ _ _ _ h => h) ?_
              simp only [pickO, List.drop_succ_cons, List.drop_zero, List.head?_cons, Option.elim_some]
              repeat (refine wpOrd_read (v := ?_) (by rfl) (Or.inl ⟨by rfl, fun x hx => ?_⟩) ?_; rotate_left; (· have a2 := hx.cell z1; go_simp; try with_reducible rfl); simp only [Act.put, List.setIfInBounds_toArray, List.set_cons_zero, List.set_cons_succ])
              refine wpOrd_stir (by rfl) (fun K hK => ?_)
              go_simp
              go_at_call 36
              refine CL.mono ?_
              rintro e w3 ⟨uc, rfl, oc, _, hx3⟩
              obtain ⟨A3, c3, rfl, _, _⟩ := id oc.ints.form
              refine hK _ _ hx3 ?_
              clear hK K CL
              try simp only [Act.put, List.setIfInBounds_toArray, List.set_cons_zero, List.set_cons_succ]
              refine wpOrd_stir (by rfl) (fun K hK => ?_)
              go_simp
              go_at_call 35
              refine (trimmed_c _ x w3 oc.ints (by omega)).mono ?_
              rintro e _ ⟨⟨A4, c4, e4, rfl⟩, rfl⟩
              injection e4 with e5 _ e6
              subst e5 e6
              refine hK _ _ (Ext.refl _) ?_
              clear hK K
              have ot := own_trim oc
              have hlt4 : trimN x x.length = (trim x).length := by have := trimN_le x x.length; simp [trim]; omega
              have HLT := Lib.hid hlt4
              generalize trimN x x.length = nt at *
              clear hlt4
              try simp only [Act.put, List.setIfInBounds_toArray, List.set_cons_zero, List.set_cons_succ]
              repeat (refine wpOrd_read (v := ?_) (by rfl) (Or.inl ⟨by rfl, fun x hx => ?_⟩) ?_; rotate_left; (· go_simp; try with_reducible rfl); simp only [Act.put, List.setIfInBounds_toArray, List.set_cons_zero, List.set_cons_succ])
              refine wpOrd_stir (by rfl) (fun K hK => ?_)
              go_simp
              refine hK _ _ (Ext.alloc _ _) ?_
              clear hK K
              try simp only [Act.put, List.setIfInBounds_toArray, List.set_cons_zero, List.set_cons_succ]
              refine wpOrd_done ?_
              try simp only [List.drop_succ_cons, List.drop_zero]
              have eA := Ext.alloc w3 (.cells #[.slice none 0 0, .slice A3 nt c3] 91)
              have hXr : Ext wr w3 := (Ext.drew wr).trans hx3
              have st4 := (st.ext hXr).ext eA
              have hsr : w.heap.size ≤ wr.drew.heap.size := hx.size
              clear z1
              go_wp2_with (at_builtin; refine wpList_append_own_at _ rfl _ _ 46 rfl w.heap.size 91 i0 (.agg #[.slice none 0 0, .slice none 0 0]) 2 48 Tryz.underlying46 hi hz0 hz1 hz2 rfl (by decide) _ _ cl rfl st4.own ⟨w3.heap.size, 0, none⟩ 1 1 [.slice none 0 0, .slice A3 nt c3] rfl rfl (World.news_of_block (heap_alloc_new w3 _)) ?c2 ?c3 ?c4 ?c5 ?_)
              case c2 => first | exact ⟨rfl, rfl⟩ | (intro u hu; simp at hu; rcases hu with rfl | rfl <;> rfl)
              case c3 => unfold maxLen; omega
              case c4 => omega
              case c5 => first | omega | (have := eA.size; have := hXr.size; have := hx.size; omega)
              intro v' w5 hown5 hg5 _ _
              obtain ⟨A5, c5, rfl, _, _, _⟩ := (ownsRow_row hown5).form
              have hsX3 : wr.drew.heap.size ≤ w3.heap.size := hx3.size
              have st5 := st4.push (lv := .slice none 0 0) (rv := .slice A3 nt c3) (by simpa using hlt) hg5 (by rw [hg]; exact hown5) (by rw [HTS.out]; exact ⟨by simp [startT, ivs], .inl ⟨rfl, by simp [startT]⟩⟩) (by rw [HTS.out]; exact OwnInts.ext (ownsRow_base ot hsr) eA) (fun q hq => by simp [Value.ownBlock] at hq) (fun j u q hj hq => by
                have := st.lt (by simp; omega) hj hq
                exact ⟨fun e => by simp [Value.ownBlock] at e, fun e => by have := (ot.lt q e).1; have hd : wr.drew.heap.size = wr.heap.size := rfl; omega⟩)
              have bM5 := Blk.apart ((bM.ext hXr).ext eA) st4.own (by decide) hg5
              have bO5 := Blk.apart ((bO.ext hXr).ext eA) st4.own (by decide) hg5
              have bC5 := Blk.apart ((bC.ext hXr).ext eA) st4.own (by decide) hg5
              have hx5 : Ext w w5 := ((hx.trans hXr).trans eA).grown hg5 (fun q hq => (st4.own.lt q hq).1)
              have q1 := bC5.cell 1
              have qf := bC5.frozen 1
              simp only [List.getElem?_toArray, List.getElem?_cons_zero, List.getElem?_cons_succ] at q1
              have HS := Lib.hid (st5.set bC5 1 (.slice A5 (k + 1) c5))
              have HX := Lib.hid (hx5.setCell (p := ⟨gc, 1, none⟩) (by show w.heap.size ≤ gc; omega) (.slice A5 (k + 1) c5))
              have HO := Lib.hid (bO5.far (p := ⟨gc, 1, none⟩) (by show g + 1 ≠ gc; omega) (.slice A5 (k + 1) c5))
              have HMM := Lib.hid (bM5.far (p := ⟨gc, 1, none⟩) (by show g ≠ gc; omega) (.slice A5 (k + 1) c5))
              have HC := Lib.hid (bC5.set_ 1 (.slice A5 (k + 1) c5))
              clear st st4 st5 hown5 hg5 bO bC bM bM5 bO5 bC5 hx5 oc ot eA hXr
              go_wp2_with fail
              go_roundw
              case rel => exact ⟨k + 1, _, _, by omega, by go_num, HS.out, HX.out, HMM.out, HO.out, HC.out, HY.out⟩
              case measure => simp [intOf]; omega
        · obtain rfl : k = ws.length := by omega
          have o0 := bC.cell 0
          have o1 := bC.cell 1
          have of_ := bO.frozen
          have ob := bO.cell
          simp only [List.getElem?_toArray, List.getElem?_cons_zero, List.getElem?_cons_succ] at o0 o1
          have HLW : Hid (ws.all (wordOk m) = true) := Lib.hid (by
            rw [List.all_eq_true]
            intro x hx
            obtain ⟨i, hi', rfl⟩ := List.getElem_of_mem hx
            exact HALL.out i hi' hi')
          have st' := (st.set bO 0 (.int .i64 0)).set (bO.set_ 0 _) 1 (.slice Av ws.length cv)
          have hml : (ws.map startT).length = ws.length := by simp
          have HT := Lib.hid (show CpM w (ws.map startT) (ws.map startT).length (.slice Av ws.length cv) cl _ from by rw [hml]; exact st')
          have HX := Lib.hid ((hx.setCell (p := ⟨g + 1, 0, none⟩) (by show w.heap.size ≤ g + 1; omega) (.int .i64 0)).setCell (p := ⟨g + 1, 1, none⟩) (by show w.heap.size ≤ g + 1; omega) (.slice Av ws.length cv))
          clear st st' hml
          go_wp2_with fail
          exact bodyPost_ret (v := .tuple #[.agg #[.int .i64 0, .slice Av ws.length cv], .int .i64 0]) (by simp [results, Tryz.results16, go_sem, ob]) rfl ⟨.inr (.inr ⟨HM.out, HN.out, HLW.out, _, _, rfl, HT.out⟩), HX.out⟩
    · have hne : ((ws.length : Int) != m.tp) = true := by simp [hn]
      have HN : Hid (¬ ((ws.length : Int) = m.tp ∧ ws.all (wordOk m) = true)) := fun h => hn h.1
      clear hn
      go_enter Tryz.func16, Tryz.ntmps16
      go_wp2_with fail
      try rw [← hV]
      try rw [hg]
      clear hV
      refine VM.mono ?_
      rintro e w1 ⟨rfl, hx1⟩
      have k0 := cellR ((hx1.cell m0))
      clear m0 m1 m2 m3
      go_wp2_with fail
      refine wp_region_ext (by kernel_rfl) (by kernel_rfl) ?_
      repeat (go_big_quiet_step ((go_at_call 34; exact Calls.sameR (sizeSS_c _ _ _ _))))
      refine wpQuiet_nil ?_
      intro w2 hx2
      have bO1 := bO.ext (hx1.trans hx2)
      have ob := bO1.cell
      have of_ := bO1.frozen
      have HX := Lib.hid (((hX.trans (hx1.trans hx2)).setCell (p := ⟨g + 1, 0, none⟩) (by show w.heap.size ≤ g + 1; omega) (.int .i64 0)).setCell (p := ⟨g + 1, 1, none⟩) (by show w.heap.size ≤ g + 1; omega) (.slice none 0 0))
      clear k0
      go_wp2_with fail
      exact bodyPost_ret (v := .tuple #[.agg #[.int .i64 0, .slice none 0 0], .int .i64 2]) (by simp [results, Tryz.results16, go_sem, ob]) rfl ⟨.inr (.inl ⟨HM.out, HN.out, rfl⟩), HX.out⟩
end Go.Proofs.YtgeckhjkahnonaaGreatDoor
end
