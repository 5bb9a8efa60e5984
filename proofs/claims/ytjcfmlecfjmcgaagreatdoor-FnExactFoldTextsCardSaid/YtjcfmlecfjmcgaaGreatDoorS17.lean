/- Contract of the reference's building of the machine on one half of the tape. The machine is valid and has fewer than 6 symbols.
Contracts of both machines on one half of the tape: the program's and the reference's. The machine is valid. -/
import Derived.Test.YtjcfmlecfjmcgaaGreatDoorS16
import Derived.Test.YtjcfmlecfjmcgaaGreatDoorS10
section
set_option linter.unusedSimpArgs false
set_option linter.unusedVariables false
namespace Go.Proofs.YtjcfmlecfjmcgaaGreatDoor
open Go Go.RowKit Go.Proofs
set_option maxHeartbeats 400000
def Build13 (w0 : World) (m : MachD) (bk b : Nat) (e : Ending) (w' : World) : Prop :=
  ((foldB m = none ∧ e = .returned (.bool false)) ∨
    ∃ s rv pv vs, foldB m = some s ∧ e = .returned (.bool true) ∧ MkSt w0.heap.size w' bk b (m.sy + 1) s.1.length s.2 s.1 rv pv vs ∧ (∀ p ∈ s.1, POk m.st p) ∧ 1 ≤ s.1.length ∧ s.1.length ≤ 1000) ∧ Ext w0 w'
/-- How the building stands in memory. -/
structure InS (w0 : World) (m : MachD) (N bk b : Nat) (s : List FP × List RuleD) (rv pv : Value) (vs : List Value) (wr : World) : Prop where
  st : MkSt w0.heap.size wr bk b (N : Int) 0 s.2 s.1 rv pv vs
  below : Ext w0 wr
  ok : ∀ p ∈ s.1, POk m.st p
theorem InS.ext {w0 : World} {m : MachD} {N bk b : Nat} {s : List FP × List RuleD} {rv pv : Value} {vs : List Value} {wr wr' : World} (h : InS w0 m N bk b s rv pv vs wr) (he : Ext wr wr') : InS w0 m N bk b s rv pv vs wr' :=
  ⟨h.st.ext he, Ext.trans h.below he, h.ok⟩
theorem InS.ruled {w0 : World} {m : MachD} {N bk b : Nat} {s : List FP × List RuleD} {rv pv v' : Value} {vs : List Value} {wr w5 : World} {r : RuleD} (h : InS w0 m N bk b s rv pv vs wr)
    (hown : w5.ownsRow w0.heap.size 95 3 v' (s.2.length + 1) (rvs s.2 ++ [.int .i64 r.w, .int .i64 r.m, .int .i64 r.n])) (hg : wr.grownBy w5 rv.ownBlock) :
    InS w0 m N bk b (s.1, s.2 ++ [r]) v' pv vs (w5.setCell ⟨bk, 6, none⟩ v') :=
  ⟨h.st.ruled hown hg, (Below.grown h.below hg (Ext.size h.below) (fun b hb => (World.ownsRow.lt h.st.rules b hb).1)).setCell h.st.low _, h.ok⟩
theorem InS.added {w0 : World} {m : MachD} {N bk b : Nat} {s : List FP × List RuleD} {rv pv v' u : Value} {vs : List Value} {wr w5 : World} {x : FP} (h : InS w0 m N bk b s rv pv vs wr) (hu : OwnInts w0.heap.size wr u (encL x)) (hx : POk m.st x)
    (hown : w5.ownsRow w0.heap.size 25 1 v' (s.1.length + 1) (vs ++ [u])) (hg : wr.grownBy w5 pv.ownBlock) :
    InS w0 m N bk b (s.1 ++ [x], s.2) rv v' (vs ++ [u]) (w5.setCell ⟨bk, 3, none⟩ v') :=
  ⟨h.st.added hu hown hg, (Below.grown h.below hg (Ext.size h.below) (fun b hb => (World.ownsRow.lt h.st.places b hb).1)).setCell h.st.low _, fun p hp => by
    rcases List.mem_append.1 hp with h' | h'
    · exact h.ok p h'
    · simp at h'; subst h'; exact hx⟩
set_option maxHeartbeats 40000000 in
set_option maxRecDepth 20000 in
theorem build13_c (w0 w : World) (bk b : Nat) (m : MachD) (g : Nat) (hM : MachAt w0 b m) (h0 : Ext w0 w) (hk : w0.heap.size ≤ bk) (hB : Blk w bk 62 #[.pointer (some ⟨b, 0, none⟩), .pointer none, .int .i64 1, .slice none 0 0, .int .i64 0, .int .i64 0, .slice none 0 0])
    (hf : OwnInts w0.heap.size w (.slice (some ⟨g, 0, none⟩) 3 3) [0, 0, 0]) (hm : machOk m = true) (h5 : m.sy ≤ 5) :
    Calls Tryz.prog 46 #[.pointer (some ⟨bk, 0, none⟩), .int .i64 (m.sy + 1), .slice (some ⟨g, 0, none⟩) 3 3] w (Build13 w0 m bk b) := by
  obtain ⟨s1, s2, s3, s4, hl⟩ := machOk_all hm
  obtain ⟨N, hN⟩ : ∃ N : Nat, m.sy + 1 = N := ⟨(m.sy + 1).toNat, by omega⟩
  have HB : Hid (foldB m = bld (actF m) fp0 N) := by unfold Hid foldB; rw [hN]; rfl
  rw [hN]
  have n3 : 3 ≤ N := by omega
  have n6 : N ≤ 6 := by omega
  have HN := Lib.hid hN
  clear hN hl
  have k0 := hB.cell
  have kf := hB.frozen
  have hbk := hB.lt
  have k1 := (hB.alloc (.cells #[.slice (some ⟨g, 0, none⟩) 3 3] 25)).cell
  have kf1 := (hB.alloc (.cells #[.slice (some ⟨g, 0, none⟩) 3 3] 25)).frozen
  obtain ⟨i0, hi, hz0, hz1, hz2⟩ := info_parts ruleInfo
  obtain ⟨j0, hjI, hy0, hy1, hy2⟩ := info_parts rowInfo
  go_enter Tryz.func46, Tryz.ntmps46
  go_wp2
  obtain ⟨W, hW⟩ : ∃ W, W = ((((((w.setCell ⟨bk, 3, none⟩ (.slice (some ⟨w.heap.size, 0, none⟩) 1 1)).setCell ⟨bk, 4, none⟩ (.int .i64 N)).setCell ⟨bk, 5, none⟩ (.int .i64 0)).setCell ⟨bk, 6, none⟩ (.slice (some ⟨w.heap.size + 1, 0, none⟩) 0 0)).alloc (.cells #[.slice (some ⟨g, 0, none⟩) 3 3] 25)).alloc (.cells #[] 95)) := ⟨_, rfl⟩
  have hsw := Ext.size h0
  have HI : InS w0 m N bk b ([fp0], []) (.slice (some ⟨w.heap.size + 1, 0, none⟩) 0 0) (.slice (some ⟨w.heap.size, 0, none⟩) 1 1) [.slice (some ⟨g, 0, none⟩) 3 3] W := by
    have hne : ∀ k, (Value.slice (some ⟨g, 0, none⟩) 3 3).ownBlock = some k → k ≠ bk := fun k hk e => by
      have := blk_ne_row hB hf (by decide)
      rw [hk, e] at this
      exact this rfl
    have f4 := ownsRow_far (ownsRow_far (ownsRow_far (ownsRow_far hf (p := ⟨bk, 3, none⟩) hne (.slice (some ⟨w.heap.size, 0, none⟩) 1 1)) (p := ⟨bk, 4, none⟩) hne (.int .i64 N)) (p := ⟨bk, 5, none⟩) hne (.int .i64 0)) (p := ⟨bk, 6, none⟩) hne (.slice (some ⟨w.heap.size + 1, 0, none⟩) 0 0)
    have b4 := (((hB.set_ 3 (.slice (some ⟨w.heap.size, 0, none⟩) 1 1)).set_ 4 (.int .i64 N)).set_ 5 (.int .i64 0)).set_ 6 (.slice (some ⟨w.heap.size + 1, 0, none⟩) 0 0)
    have x4 := ((((Ext.setCell h0 (p := ⟨bk, 3, none⟩) hk (.slice (some ⟨w.heap.size, 0, none⟩) 1 1)).setCell (p := ⟨bk, 4, none⟩) hk (.int .i64 N)).setCell (p := ⟨bk, 5, none⟩) hk (.int .i64 0)).setCell (p := ⟨bk, 6, none⟩) hk (.slice (some ⟨w.heap.size + 1, 0, none⟩) 0 0))
    have hs4 : ((((w.setCell ⟨bk, 3, none⟩ (.slice (some ⟨w.heap.size, 0, none⟩) 1 1)).setCell ⟨bk, 4, none⟩ (.int .i64 N)).setCell ⟨bk, 5, none⟩ (.int .i64 0)).setCell ⟨bk, 6, none⟩ (.slice (some ⟨w.heap.size + 1, 0, none⟩) 0 0)).heap.size = w.heap.size := by simp [World.setCell]
    generalize ((((w.setCell ⟨bk, 3, none⟩ (.slice (some ⟨w.heap.size, 0, none⟩) 1 1)).setCell ⟨bk, 4, none⟩ (.int .i64 N)).setCell ⟨bk, 5, none⟩ (.int .i64 0)).setCell ⟨bk, 6, none⟩ (.slice (some ⟨w.heap.size + 1, 0, none⟩) 0 0)) = w4 at *
    subst hW
    have ea := (Ext.alloc w4 (.cells #[.slice (some ⟨g, 0, none⟩) 3 3] 25)).trans (Ext.alloc _ (.cells #[] 95))
    refine ⟨⟨b4.ext ea, ?_, ?_, fun i p hp => ?_, hk⟩, x4.trans ea, fun p hp => ?_⟩
    · have := World.ownsRow_made (base := w0.heap.size) (e := 95) (size := 3) (w4.alloc (.cells #[.slice (some ⟨g, 0, none⟩) 3 3] 25)) #[] 0 (by simp; omega) (by unfold maxLen; omega) (by simp)
      simpa [OwnRules, rvs, hs4] using this
    · refine ⟨by simp, .inr ⟨w.heap.size, 1, #[.slice (some ⟨g, 0, none⟩) 3 3], rfl, hsw, ?_, Nat.le_refl _, by unfold maxLen; omega, by simp, by simp⟩⟩
      exact ((Blk.new w4 w.heap.size 25 _ hs4).alloc _)
    · have h1 := (List.getElem?_eq_some_iff.1 hp).1
      have e0 : i = 0 := by simp at h1; omega
      subst e0
      simp at hp
      subst hp
      exact ⟨_, rfl, by simpa [encL, fp0] using OwnInts.ext f4 ea⟩
    · simp at hp
      subst hp
      exact ⟨by simp [fp0], by simp [fp0], by simp [fp0], by simp [fp0]; omega, .inl rfl, fun _ => rfl⟩
  rw [← hW]
  clear hW k0 kf k1 kf1 hB hf h0
  go_loopw [7] (fun i wr => ∃ (k : Nat) (s : List FP × List RuleD) (rv pv : Value) (vs : List Value), i = .int .i64 k ∧ BldAt (actF m) fp0 N k s ∧ InS w0 m N bk b s rv pv vs wr) (fun i _ => 1001 - (intOf i).toNat)
  case atStart => exact ⟨0, ([fp0], []), _, _, _, rfl, BldAt.start _ _ _, HI⟩
  case round =>
    clear HI
    obtain ⟨k, s, rv, pv, vs, rfl, hB, inv⟩ := hrel
    have hk1 := hB.le
    have hk2 := hB.most
    obtain ⟨Ap, cp, rfl⟩ := inv.st.form
    have c3 := inv.st.blk.cell 3
    simp only [List.getElem?_toArray, List.getElem?_cons_zero, List.getElem?_cons_succ] at c3
    by_cases hlt : k < s.1.length
    · obtain ⟨p, hp⟩ : ∃ p, s.1[k]? = some p := ⟨s.1[k], List.getElem?_eq_getElem hlt⟩
      have hpo : POk m.st p := inv.ok p (List.mem_of_getElem? hp)
      go_wp2
      go_loopw [8] (fun i wr' => ∃ (j : Nat) (rv pv : Value) (vs : List Value), j ≤ N ∧ i = .int .i64 j ∧ (rowTo (actF m) p s j).1.length ≤ 1000 ∧ InS w0 m N bk b (rowTo (actF m) p s j) rv pv vs wr') (fun i _ => N - (intOf i).toNat)
      case atStart => exact ⟨0, _, _, _, Nat.zero_le _, rfl, hk2, inv⟩
      case round =>
        clear inv c3
        obtain ⟨j, rv, pv, vs, hj, rfl, hlen1, inv⟩ := hrel
        by_cases hjn : j < N
        · have fa : FoldArgs m p j := ⟨hm, hpo, by omega, by have := HN.out; omega⟩
          have hpj : (rowTo (actF m) p s j).1[k]? = some p := by
            obtain ⟨t, ht⟩ := rowTo_prefix (actF m) p s j
            rw [← ht, List.getElem?_append_left hlt]; exact hp
          have htl : (rowTo (actF m) p s j).2.length ≤ 6600 := by
            have h1 := rowTo_length (actF m) p s j
            have h2 := hB.rules
            have h3 : k * N ≤ 1000 * 6 := Nat.mul_le_mul (by omega) n6
            omega
          have HRT : Hid (rowTo (actF m) p s (j + 1) = symStep (actF m) p (rowTo (actF m) p s j) j) := rfl
          have HF : Hid (1000 < (symStep (actF m) p (rowTo (actF m) p s j) j).1.length → foldB m = none) := by
            unfold Hid
            intro hbig
            rw [HB.out]
            refine hB.fails hlt hp (Nat.lt_of_lt_of_le hbig ?_)
            have := rowTo_le (actF m) p s (show j + 1 ≤ N by omega)
            exact this
          have HBA := Lib.hid hB
          clear hB
          generalize rowTo (actF m) p s j = t at *
          have hkt : k < t.1.length := (List.getElem?_eq_some_iff.1 hpj).1
          obtain ⟨Ap, cp, rfl⟩ := inv.st.form
          obtain ⟨gp, A', c', rfl, hgp1, hgp2, a0, ho⟩ := inv.st.at hpj
          have c3 := inv.st.blk.cell 3
          simp only [List.getElem?_toArray, List.getElem?_cons_zero, List.getElem?_cons_succ] at c3
          go_wp2_with fail
          refine (move13_c bk b m p j _ _ _ _ _ _ wr inv.st.blk (hM.ext inv.below) fa ho.ints).mono ?_
          have hap := fun hno => actF_ok hm hpo fa.v0 fa.v1 (v := (j : Int)) hno
          have hsN := fun hno => symStep_no (act := actF m) (p := p) (s := t) (v := (j : Int)) hno
          have hsY := fun hno => symStep_yes (act := actF m) (p := p) (s := t) (v := (j : Int)) hno
          generalize hST : symStep (actF m) p t j = st at *
          clear hST
          generalize actF m p j = a at *
          rintro e w3 ⟨hres, hx3⟩
          have inv4 := inv.ext hx3
          clear c3 a0
          rcases hres with ⟨hno, rfl⟩ | ⟨hno, A1, c1, rfl, ho1⟩
          · have HS := Lib.hid (hsN hno)
            clear hsN hsY hap HF
            obtain ⟨U, hU⟩ : ∃ U, U = w3.alloc (.cells #[.bool false, .int .i64 0, .int .i64 0, .slice none 0 0] 124) := ⟨_, rfl⟩
            have hXU : Ext w3 U := by rw [hU]; exact Ext.alloc _ _
            have inv5 := inv4.ext hXU
            go_wp2_with fail
            rw [← hU]
            clear hU
            have hrl : OwnRules w0.heap.size U rv t.2 := inv5.st.rules
            obtain ⟨Ar, cr, rfl, _, _, _⟩ := (ownsRow_row hrl).form
            have c6 := inv5.st.blk.cell 6
            simp only [List.getElem?_toArray, List.getElem?_cons_zero, List.getElem?_cons_succ] at c6
            have hsU := Ext.size inv5.below
            go_region_law
              (first
                | (refine step_append_lies _ (by rfl) _ _ _ (by rfl) w0.heap.size 95 i0 _ 3 24 Tryz.underlying33 hi hz0 hz1 hz2 rfl (by omega) _ _ (rvs t.2) (by first | rfl | simp [Act.eval, Act.put]) (OwnRules.ext hrl e6) ⟨w5.heap.size, 0, none⟩ 1 1 [.int .i64 0, .int .i64 0, .int .i64 (-1)] (by first | rfl | simp [Act.eval, Act.put]) rfl (World.news_of_block (w := w5.alloc (.cells #[.int .i64 0, .int .i64 0, .int .i64 (-1)] 95)) (heap_alloc_new w5 _)) (by simp [Value.oneCell']) (by omega) (by unfold maxLen; omega) (by omega) hsz6 (w5.heap.size + 1) (by simp) ?_; intro g7 cap w7 hown7 hg7 hat7 hlt7; have I7 := I6.ruled (r := ⟨0, 0, -1⟩) hown7 hg7; have B7 := Blk.apart I6.st.blk I6.st.rules (by decide) hg7; have z2 := B7.cell 6; have f2 := B7.frozen 6; simp only [List.getElem?_toArray, List.getElem?_cons_zero, List.getElem?_cons_succ] at z2)
                | (go_simp; go_at_call 81; ((with_reducible refine (l05None_c _).mono ?_)); rintro e w5 ⟨rfl, hx5⟩; have e5 := (Ext.drew U).trans hx5; have e6 := e5.trans (Ext.alloc w5 (.cells #[.int .i64 0, .int .i64 0, .int .i64 (-1)] 95)); have I6 := inv5.ext e6; have c65 := e5.cell c6; have c66 := e6.cell c6; have hsz6 : w0.heap.size ≤ (w5.alloc (.cells #[.int .i64 0, .int .i64 0, .int .i64 (-1)] 95)).heap.size := Ext.size I6.below))
            all_goals
              try go_wp2
              go_roundw
              case rel => exact ⟨j + 1, _, _, _, by omega, by go_num, by rw [HRT.out, HS.out]; exact hlen1, by rw [HRT.out, HS.out]; exact I7⟩
              case measure => simp [intOf]; omega
          · have HS := Lib.hid (hsY hno)
            have HAP := Lib.hid (hap hno)
            clear hsN hsY hap
            have o4 : OwnInts w0.heap.size w3 (.slice A1 (encL a.p).length c1) (encL a.p) := ownsRow_base ho1 (Ext.size inv.below)
            obtain ⟨aw, am, ap, ano⟩ := a
            simp only at hno HS HAP o4
            clear ho1
            generalize hen : (encL ap).length = en at *
            have HEN := Lib.hid hen
            clear hen
            obtain ⟨U, hU⟩ : ∃ U, U = w3.alloc (.cells #[.bool true, .int .i64 aw, .int .i64 am, .slice A1 en c1] 124) := ⟨_, rfl⟩
            have hXU : Ext w3 U := by rw [hU]; exact Ext.alloc _ _
            have bA : Blk U w3.heap.size 124 #[.bool true, .int .i64 aw, .int .i64 am, .slice A1 en c1] := by rw [hU]; exact Blk.new _ _ _ _ rfl
            have inv5 := inv4.ext hXU
            have o5 : OwnInts w0.heap.size U (.slice A1 en c1) (encL ap) := OwnInts.ext o4 hXU
            go_wp2_with fail
            rw [← hU]
            clear hU
            refine (find13_c inv5.st inv5.ok ap HAP.out _ o5.ints (by omega)).mono ?_
            rintro e w6 ⟨rfl, hx6⟩
            have inv6 := inv5.ext hx6
            have bA6 := bA.ext hx6
            have o6 := o5.ext hx6
            clear inv5 bA o5 inv4 o4
            by_cases hin : ap ∈ t.1
            · have hfn : findN t.1 ap = (t.1.idxOf ap : Nat) := by simp [findN, hin]
              rw [hfn]
              rw [addP_old hin] at HS
              have hneg : decide (((t.1.idxOf ap : Nat) : Int) < 0) = false := by simp
              go_wp2_with fail
              have hrl : OwnRules w0.heap.size w6 rv t.2 := inv6.st.rules
              obtain ⟨Ar, cr, rfl, _, _, _⟩ := (ownsRow_row hrl).form
              have eA := (Ext.alloc w6 (.cells #[.int .i64 aw, .int .i64 am, .int .i64 (t.1.idxOf ap : Nat)] 95)).trans (Ext.drew _)
              have I6 := inv6.ext eA
              have c6 := inv6.st.blk.cell 6
              have c6' := (inv6.st.blk.alloc (.cells #[.int .i64 aw, .int .i64 am, .int .i64 (t.1.idxOf ap : Nat)] 95)).cell 6
              have q1 := bA6.cell 1
              have q2 := bA6.cell 2
              simp only [List.getElem?_toArray, List.getElem?_cons_zero, List.getElem?_cons_succ] at c6 c6' q1 q2
              have hsU := Ext.size inv6.below
              go_region_law ((refine step_append_lies _ (by rfl) _ _ _ (by rfl) w0.heap.size 95 i0 _ 3 24 Tryz.underlying33 hi hz0 hz1 hz2 rfl (by omega) _ _ (rvs t.2) (by first | rfl | simp [Act.eval, Act.put]) (OwnRules.ext hrl eA) ⟨w6.heap.size, 0, none⟩ 1 1 [.int .i64 aw, .int .i64 am, .int .i64 (t.1.idxOf ap : Nat)] (by first | rfl | simp [Act.eval, Act.put]) rfl (World.news_of_block (w := (w6.alloc (.cells #[.int .i64 aw, .int .i64 am, .int .i64 (t.1.idxOf ap : Nat)] 95)).drew) (heap_alloc_new w6 _)) (by simp [Value.oneCell']) (by omega) (by unfold maxLen; omega) (by omega) (by simp; omega) (w6.heap.size + 1) (by simp) ?_; intro g7 cap w7 hown7 hg7 hat7 hlt7; have I7 := I6.ruled (r := ⟨aw, am, (t.1.idxOf ap : Nat)⟩) hown7 hg7; have B7 := Blk.apart I6.st.blk I6.st.rules (by decide) hg7; have z2 := B7.cell 6; have f2 := B7.frozen 6; simp only [List.getElem?_toArray, List.getElem?_cons_zero, List.getElem?_cons_succ] at z2))
              all_goals
                try go_wp2
                go_roundw
                case rel => exact ⟨j + 1, _, _, _, by omega, by go_num, by rw [HRT.out, HS.out]; exact hlen1, by rw [HRT.out, HS.out]; exact I7⟩
                case measure => simp [intOf]; omega
            · have hfn : findN t.1 ap = -1 := by simp [findN, hin]
              rw [hfn]
              rw [idx_new hin, addP_new hin] at HS
              have c3 := inv6.st.blk.cell 3
              simp only [List.getElem?_toArray, List.getElem?_cons_zero, List.getElem?_cons_succ] at c3
              by_cases h1000 : t.1.length = 1000
              · have hb1000 : ((t.1.length : Int) == 1000) = true := by simp [h1000]
                have HNO : Hid (foldB m = none) := by
                  unfold Hid
                  refine HF.out ?_
                  rw [HS.out]
                  simp
                  omega
                clear h1000
                go_wp2
                go_ret
                exact ⟨.inl ⟨HNO.out, rfl⟩, inv6.below⟩
              · have hb1000 : ((t.1.length : Int) == 1000) = false := by simp; omega
                have eB := (Ext.alloc w6 (.cells #[.slice A1 en c1] 25)).trans (Ext.drew _)
                have I8 := inv6.ext eB
                have o8 := OwnInts.ext o6 eB
                have c3' := (inv6.st.blk.alloc (.cells #[.slice A1 en c1] 25)).cell 3
                have q3 := bA6.cell 3
                simp only [List.getElem?_toArray, List.getElem?_cons_zero, List.getElem?_cons_succ] at c3' q3
                have hs6 := Ext.size inv6.below
                have bA8 := bA6.ext eB
                go_wp2
                go_region_law ((refine step_append_lies _ (by rfl) _ _ _ (by rfl) w0.heap.size 25 j0 _ 1 24 Tryz.underlying60 hjI hy0 hy1 hy2 rfl (by omega) _ _ vs (by first | rfl | simp [Act.eval, Act.put]) I8.st.places ⟨w6.heap.size, 0, none⟩ 1 1 [.slice A1 en c1] (by first | rfl | simp [Act.eval, Act.put]) rfl (World.news_of_block (w := (w6.alloc (.cells #[.slice A1 en c1] 25)).drew) (heap_alloc_new w6 _)) (by simp [Value.oneCell']) (by omega) (by unfold maxLen; omega) (by omega) (by simp; omega) (w6.heap.size + 1) (by simp) ?_; intro g9 cap9 w9 hown9 hg9 hat9 hlt9; have I9 := I8.added o8 HAP.out hown9 hg9; have B9 := Blk.apart I8.st.blk I8.st.places (by decide) hg9; have z9 := B9.cell 3; have f9 := B9.frozen 3; have bA9 := (Blk.apart bA8 I8.st.places (by decide) hg9).far (p := ⟨bk, 3, none⟩) (blk_ne (Blk.apart bA8 I8.st.places (by decide) hg9) B9 (by decide)) (.slice (some ⟨g9, 0, none⟩) (t.1.length + 1) cap9); simp only [List.getElem?_toArray, List.getElem?_cons_zero, List.getElem?_cons_succ] at z9))
                all_goals
                  obtain ⟨X, hX⟩ : ∃ X, X = w9.setCell ⟨bk, 3, none⟩ (.slice (some ⟨g9, 0, none⟩) (t.1.length + 1) cap9) := ⟨_, rfl⟩
                  rw [← hX] at I9 bA9 ⊢
                  clear hX c3 c3' z9 f9 q3 I8
                  try go_wp2_with fail
                  have hrl : OwnRules w0.heap.size X rv t.2 := I9.st.rules
                  obtain ⟨Ar, cr, rfl, _, _, _⟩ := (ownsRow_row hrl).form
                  have eA := (Ext.alloc X (.cells #[.int .i64 aw, .int .i64 am, .int .i64 (t.1.length : Nat)] 95)).trans (Ext.drew _)
                  have I6 := I9.ext eA
                  have c6 := I9.st.blk.cell 6
                  have c6' := (I9.st.blk.alloc (.cells #[.int .i64 aw, .int .i64 am, .int .i64 (t.1.length : Nat)] 95)).cell 6
                  have q1 := bA9.cell 1
                  have q2 := bA9.cell 2
                  simp only [List.getElem?_toArray, List.getElem?_cons_zero, List.getElem?_cons_succ] at c6 c6' q1 q2
                  have hsU := Ext.size I9.below
                  go_region_law ((refine step_append_lies _ (by rfl) _ _ _ (by rfl) w0.heap.size 95 i0 _ 3 24 Tryz.underlying33 hi hz0 hz1 hz2 rfl (by omega) _ _ (rvs t.2) (by first | rfl | simp [Act.eval, Act.put]) (OwnRules.ext hrl eA) ⟨X.heap.size, 0, none⟩ 1 1 [.int .i64 aw, .int .i64 am, .int .i64 (t.1.length : Nat)] (by first | rfl | simp [Act.eval, Act.put]) rfl (World.news_of_block (w := (X.alloc (.cells #[.int .i64 aw, .int .i64 am, .int .i64 (t.1.length : Nat)] 95)).drew) (heap_alloc_new X _)) (by simp [Value.oneCell']) (by omega) (by unfold maxLen; omega) (by omega) (by simp; omega) (X.heap.size + 1) (by simp) ?_; intro g7 cap w7 hown7 hg7 hat7 hlt7; have I7 := I6.ruled (r := ⟨aw, am, (t.1.length : Nat)⟩) hown7 hg7; have B7 := Blk.apart I6.st.blk I6.st.rules (by decide) hg7; have z2 := B7.cell 6; have f2 := B7.frozen 6; simp only [List.getElem?_toArray, List.getElem?_cons_zero, List.getElem?_cons_succ] at z2))
                  all_goals
                    try go_wp2
                    go_roundw
                    case rel => exact ⟨j + 1, _, _, _, by omega, by go_num, by rw [HRT.out, HS.out]; (simp; omega), by rw [HRT.out, HS.out]; exact I7⟩
                    case measure => simp [intOf]; omega
        · have hjN : j = N := by omega
          subst hjN
          have HBN := Lib.hid (hB.step hlt hp hlen1)
          clear hB
          generalize rowTo (actF m) p s j = t at *
          go_wp2
          go_roundw
          case rel => exact ⟨k + 1, t, rv, pv, vs, by go_num, HBN.out, inv⟩
          case measure => simp [intOf]; omega
    · have HBN := Lib.hid (hB.ends hlt)
      have one := hB.one
      clear hB
      have f5 := inv.st.blk.frozen 5
      have c5 := inv.st.blk.cell 5
      simp only [List.getElem?_toArray, List.getElem?_cons_zero, List.getElem?_cons_succ] at c5
      go_wp2
      go_ret
      have hgs := grownBy_setCell wr ⟨bk, 5, none⟩ (.int .i64 (s.1.length : Nat))
      refine ⟨.inr ⟨s, rv, _, vs, HB.out.trans HBN.out, rfl, ⟨?_, own_kept inv.st.rules hgs (blk_ne_row inv.st.blk inv.st.rules (by decide)), own_kept inv.st.places hgs (blk_ne_row inv.st.blk inv.st.places (by decide)), fun i p hp => ?_, inv.st.low⟩, inv.ok, one, hk2⟩, Below.setCell inv.below inv.st.low _⟩
      · have := inv.st.blk.set_ 5 (.int .i64 (s.1.length : Nat))
        rw [HN.out]
        exact this
      · obtain ⟨u, e, hu⟩ := inv.st.rows i p hp
        exact ⟨u, e, own_kept hu hgs (blk_ne_row inv.st.blk hu (by decide))⟩
end Go.Proofs.YtjcfmlecfjmcgaaGreatDoor
end
section
set_option linter.unusedSimpArgs false
set_option linter.unusedVariables false
namespace Go.Proofs.YtjcfmlecfjmcgaaGreatDoor
open Go Go.RowKit Go.Proofs
set_option maxHeartbeats 400000
def foldOf (m : MachD) : Option (List FP × List RuleD) := if m.sy = 6 then none else foldB m
def Make13 (w : World) (m : MachD) (b : Nat) (e : Ending) (w' : World) : Prop :=
  ((foldOf m = none ∧ ∃ bk, e = .returned (.tuple #[.pointer (some ⟨bk, 0, none⟩), .bool false])) ∨
    ∃ s bk rv pv vs, foldOf m = some s ∧ e = .returned (.tuple #[.pointer (some ⟨bk, 0, none⟩), .bool true]) ∧ MkSt w.heap.size w' bk b (m.sy + 1) s.1.length s.2 s.1 rv pv vs ∧ (∀ p ∈ s.1, POk m.st p) ∧ 1 ≤ s.1.length ∧ s.1.length ≤ 1000) ∧ Ext w w'
set_option maxHeartbeats 1000000 in
set_option maxRecDepth 20000 in
theorem l13MakeFold_c (b : Nat) (m : MachD) (w : World) (hM : MachAt w b m) (hm : machOk m = true) :
    Calls Tryz.prog 21 #[.pointer (some ⟨b, 0, none⟩)] w (Make13 w m b) := by
  obtain ⟨s1, s2, s3, s4, hl⟩ := machOk_all hm
  have hM0 := hM
  obtain ⟨rv, p0, p1, p2, hr⟩ := hM
  obtain ⟨W, hW⟩ : ∃ W, W = w.alloc (.cells #[.pointer (some ⟨b, 0, none⟩), .pointer none, .int .i64 1, .slice none 0 0, .int .i64 0, .int .i64 0, .slice none 0 0] 62) := ⟨_, rfl⟩
  have hXW : Ext w W := by rw [hW]; exact Ext.alloc _ _
  have bK : Blk W w.heap.size 62 #[.pointer (some ⟨b, 0, none⟩), .pointer none, .int .i64 1, .slice none 0 0, .int .i64 0, .int .i64 0, .slice none 0 0] := by rw [hW]; exact Blk.new _ _ _ _ rfl
  have q0 := hXW.cell p0
  have q0' := q0
  rw [hW] at q0'
  by_cases h6 : m.sy = 6
  · have hb6 : (m.sy == 6) = true := by simp [h6]
    have HE : Hid (foldOf m = none) := by unfold Hid foldOf; rw [if_pos h6]
    clear h6
    go_enter Tryz.func21, Tryz.ntmps21
    go_wp2
    go_ret2
    exact ⟨.inl ⟨HE.out, _, rfl⟩, Ext.alloc _ _⟩
  · have hb6 : (m.sy == 6) = false := by simp [h6]
    have HE : Hid (foldOf m = foldB m) := by unfold Hid foldOf; rw [if_neg h6]
    have h5 : m.sy ≤ 5 := by omega
    obtain ⟨V, hV⟩ : ∃ V, V = W.alloc (.cells #[.int .i64 0, .int .i64 0, .int .i64 0] 2) := ⟨_, rfl⟩
    have hXV : Ext W V := by rw [hV]; exact Ext.alloc _ _
    have hsz : W.heap.size = w.heap.size + 1 := by rw [hW]; simp
    have bL : Blk V (w.heap.size + 1) 2 (ivs [0, 0, 0]).toArray := by rw [hV]; exact Blk.new _ _ _ _ hsz
    have oL := own_of_blk (base := w.heap.size) bL (by omega) (by simp)
    clear h6
    go_enter Tryz.func21, Tryz.ntmps21
    go_wp2_with fail
    rw [← hW, ← hV]
    clear hV hW q0'
    refine (build13_c w V w.heap.size b m _ hM0 (hXW.trans hXV) (Nat.le_refl _) (bK.ext hXV) oL hm h5).mono ?_
    rintro e w1 ⟨hres, hx1⟩
    rcases hres with ⟨hn, rfl⟩ | ⟨s, rv1, pv1, vs1, hs, rfl, hst, hok, l1, l2⟩
    · go_wp2
      go_ret2
      exact ⟨.inl ⟨HE.out.trans hn, _, rfl⟩, hx1⟩
    · go_wp2
      go_ret2
      exact ⟨.inr ⟨s, _, rv1, pv1, vs1, HE.out.trans hs, rfl, hst, hok, l1, l2⟩, hx1⟩
def FoldRes (w : World) (m : MachD) (e : Ending) (w' : World) : Prop :=
  ((foldOf m = none ∧ e = .returned (.tuple #[.pointer none, .bool false])) ∨
    ∃ s bx bm rv pv, foldOf m = some s ∧ e = .returned (.tuple #[.pointer (some ⟨bx, 0, none⟩), .bool true]) ∧ PlSt w.heap.size w' bx (m.sy + 1) s.1.length s.2 s.1 rv pv bm ∧ (∀ p ∈ s.1, POk m.st p) ∧ 1 ≤ s.1.length ∧ s.1.length ≤ 1000) ∧ Ext w w'
set_option maxHeartbeats 1000000 in
set_option maxRecDepth 20000 in
theorem folded_c (mv : Value) (m : MachD) (w : World) (hM : Mach w mv m) (hm : machOk m = true) :
    Calls Tryz.prog 30 #[mv] w (FoldRes w m) := by
  obtain ⟨s1, s2, s3, s4, hl⟩ := machOk_all hm
  obtain ⟨rv, rfl, hr⟩ := hM
  obtain ⟨A, c, rfl, _, _⟩ := hr.form
  obtain ⟨W, hW⟩ : ∃ W, W = w.alloc (.cells #[.int .i64 m.sy, .int .i64 m.st, .slice A m.rules.length c] 35) := ⟨_, rfl⟩
  have hXW : Ext w W := by rw [hW]; exact Ext.alloc _ _
  have bM : Blk W w.heap.size 35 #[.int .i64 m.sy, .int .i64 m.st, .slice A m.rules.length c] := by rw [hW]; exact Blk.new _ _ _ _ rfl
  by_cases h6 : m.sy = 6
  · have hb6 : (m.sy == 6) = true := by simp [h6]
    have HE : Hid (foldOf m = none) := by unfold Hid foldOf; rw [if_pos h6]
    clear h6
    go_enter Tryz.func30, Tryz.ntmps30
    go_wp2
    go_ret2
    exact ⟨.inl ⟨HE.out, rfl⟩, Ext.alloc _ _⟩
  · have hb6 : (m.sy == 6) = false := by simp [h6]
    have HE : Hid (foldOf m = foldB m) := by unfold Hid foldOf; rw [if_neg h6]
    have h5 : m.sy ≤ 5 := by omega
    clear h6
    have hbd := buildF_c W w.heap.size _ m bM (hr.ext hXW) hm h5
    simp only [fp0, FP.v] at hbd
    go_enter Tryz.func30, Tryz.ntmps30
    go_wp2_with fail
    rw [← hW]
    refine hbd.mono ?_
    rintro e w1 ⟨hres, hx1⟩
    have hX := hXW.trans hx1
    rcases hres with ⟨hn, rfl⟩ | ⟨s, bx, bm, rv1, pv1, hs, rfl, hst, hok, l1, l2⟩
    · go_wp2
      go_ret2
      exact ⟨.inl ⟨HE.out.trans hn, rfl⟩, hX⟩
    · have hst' : PlSt w.heap.size w1 bx (m.sy + 1) s.1.length s.2 s.1 rv1 pv1 bm :=
        ⟨hst.blk, ownsRow_base hst.rules hXW.size, ownsRow_base hst.places hXW.size, hst.tbl, Nat.le_trans hXW.size hst.lowX, Nat.le_trans hXW.size hst.lowM⟩
      go_wp2
      go_ret2
      exact ⟨.inr ⟨s, bx, bm, rv1, pv1, HE.out.trans hs, rfl, hst', hok, l1, l2⟩, hX⟩
end Go.Proofs.YtjcfmlecfjmcgaaGreatDoor
end
