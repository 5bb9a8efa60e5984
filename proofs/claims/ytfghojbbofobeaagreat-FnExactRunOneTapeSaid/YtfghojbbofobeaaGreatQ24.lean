/- Contract of the reference's building of the machine with one tape for several. The machine is valid.
Contracts of both machines with one tape for several: the program's and the reference's. The machine is valid.
Contract of the cells of one tape of a configuration of the machine with one tape for several. -/
import Derived.Test.YtfghojbbofobeaaGreatQ23
import Derived.Test.YtfghojbbofobeaaGreatQ10
import Derived.Test.YtfghojbbofobeaaGreatQ17
import Derived.Test.YtfghojbbofobeaaGreatQ06
section
set_option linter.unusedSimpArgs false
set_option linter.unusedVariables false
namespace Go.Proofs.YtfghojbbofobeaaGreat
open Go Go.RowKit Go.Proofs
set_option maxHeartbeats 400000
def BuildS (w0 : World) (m : MultiD) (bk b : Nat) (e : Ending) (w' : World) : Prop :=
  ((weaveB m = none ∧ e = .returned (.bool false)) ∨
    ∃ s rv pv vs, weaveB m = some s ∧ e = .returned (.bool true) ∧ MkM w0.heap.size w' bk b m (2 * m.sy) s.1.length s.2 s.1 rv pv vs ∧ (∀ p ∈ s.1, WOk m p) ∧ 1 ≤ s.1.length ∧ s.1.length ≤ 1000) ∧ Ext w0 w'
/-- How the building stands in memory. -/
structure InZ (w0 : World) (m : MultiD) (N bk b : Nat) (s : List MP × List RuleD) (rv pv : Value) (vs : List Value) (wr : World) : Prop where
  st : MkM w0.heap.size wr bk b m (N : Int) 0 s.2 s.1 rv pv vs
  below : Ext w0 wr
  ok : ∀ p ∈ s.1, WOk m p
theorem InZ.ext {w0 : World} {m : MultiD} {N bk b : Nat} {s : List MP × List RuleD} {rv pv : Value} {vs : List Value} {wr wr' : World} (h : InZ w0 m N bk b s rv pv vs wr) (he : Ext wr wr') : InZ w0 m N bk b s rv pv vs wr' :=
  ⟨h.st.ext he, Ext.trans h.below he, h.ok⟩
theorem InZ.ruled {w0 : World} {m : MultiD} {N bk b : Nat} {s : List MP × List RuleD} {rv pv v' : Value} {vs : List Value} {wr w5 : World} {r : RuleD} (h : InZ w0 m N bk b s rv pv vs wr)
    (hown : w5.ownsRow w0.heap.size 140 3 v' (s.2.length + 1) (rvs s.2 ++ [.int .i64 r.w, .int .i64 r.m, .int .i64 r.n])) (hg : wr.grownBy w5 rv.ownBlock) :
    InZ w0 m N bk b (s.1, s.2 ++ [r]) v' pv vs (w5.setCell ⟨bk, 6, none⟩ v') :=
  ⟨h.st.ruled hown hg, (Below.grown h.below hg (Ext.size h.below) (fun b hb => (World.ownsRow.lt h.st.rules b hb).1)).setCell h.st.low _, h.ok⟩
theorem InZ.added {w0 : World} {m : MultiD} {N bk b : Nat} {s : List MP × List RuleD} {rv pv v' u : Value} {vs : List Value} {wr w5 : World} {x : MP} (h : InZ w0 m N bk b s rv pv vs wr) (hu : OwnInts w0.heap.size wr u (encM m x)) (hx : WOk m x)
    (hown : w5.ownsRow w0.heap.size 46 1 v' (s.1.length + 1) (vs ++ [u])) (hg : wr.grownBy w5 pv.ownBlock) :
    InZ w0 m N bk b (s.1 ++ [x], s.2) rv v' (vs ++ [u]) (w5.setCell ⟨bk, 3, none⟩ v') :=
  ⟨h.st.added hu hown hg, (Below.grown h.below hg (Ext.size h.below) (fun b hb => (World.ownsRow.lt h.st.places b hb).1)).setCell h.st.low _, fun p hp => by
    rcases List.mem_append.1 hp with h' | h'
    · exact h.ok p h'
    · simp at h'; subst h'; exact hx⟩
set_option maxHeartbeats 40000000 in
set_option maxRecDepth 20000 in
theorem buildS_c (w0 w : World) (bk b : Nat) (m : MultiD) (g L0 cL : Nat) (hM : MulAt w0 b m) (h0 : Ext w0 w) (hk : w0.heap.size ≤ bk) (hB : Blk w bk 64 #[.pointer none, .pointer (some ⟨b, 0, none⟩), .int .i64 2, .slice none 0 0, .int .i64 0, .int .i64 0, .slice none 0 0])
    (hf : OwnInts w0.heap.size w (.slice (some ⟨g, 0, none⟩) L0 cL) (encM m mp0)) (hL0 : L0 = (encM m mp0).length) (hm : multiOk m = true) :
    Calls Tryz.prog 46 #[.pointer (some ⟨bk, 0, none⟩), .int .i64 (2 * m.sy), .slice (some ⟨g, 0, none⟩) L0 cL] w (BuildS w0 m bk b) := by
  obtain ⟨⟨tp1, tp2⟩, ⟨s1, s2⟩, ⟨s3, s4⟩, hl, _⟩ := multi_all hm
  obtain ⟨N, hN⟩ : ∃ N : Nat, 2 * m.sy = N := ⟨(2 * m.sy).toNat, by omega⟩
  have HB : Hid (weaveB m = bld (actW m) mp0 N) := by unfold Hid weaveB; rw [hN]; rfl
  rw [hN]
  have n3 : 3 ≤ N := by omega
  have n6 : N ≤ 6 := by omega
  have HN := Lib.hid hN
  clear hN hl
  clear hL0
  have k0 := hB.cell
  have kf := hB.frozen
  have hbk := hB.lt
  have k1 := (hB.alloc (.cells #[.slice (some ⟨g, 0, none⟩) L0 cL] 46)).cell
  have kf1 := (hB.alloc (.cells #[.slice (some ⟨g, 0, none⟩) L0 cL] 46)).frozen
  obtain ⟨i0, hi, hz0, hz1, hz2⟩ := info_parts ruleInfo
  obtain ⟨j0, hjI, hy0, hy1, hy2⟩ := info_parts rowInfo
  go_enter Tryz.func46, Tryz.ntmps46
  go_wp2
  obtain ⟨W, hW⟩ : ∃ W, W = ((((((w.setCell ⟨bk, 3, none⟩ (.slice (some ⟨w.heap.size, 0, none⟩) 1 1)).setCell ⟨bk, 4, none⟩ (.int .i64 N)).setCell ⟨bk, 5, none⟩ (.int .i64 0)).setCell ⟨bk, 6, none⟩ (.slice (some ⟨w.heap.size + 1, 0, none⟩) 0 0)).alloc (.cells #[.slice (some ⟨g, 0, none⟩) L0 cL] 46)).alloc (.cells #[] 140)) := ⟨_, rfl⟩
  have hsw := Ext.size h0
  have HI : InZ w0 m N bk b ([mp0], []) (.slice (some ⟨w.heap.size + 1, 0, none⟩) 0 0) (.slice (some ⟨w.heap.size, 0, none⟩) 1 1) [.slice (some ⟨g, 0, none⟩) L0 cL] W := by
    have hne : ∀ k, (Value.slice (some ⟨g, 0, none⟩) L0 cL).ownBlock = some k → k ≠ bk := fun k hk e => by
      have := blk_ne_row hB hf (by decide)
      rw [hk, e] at this
      exact this rfl
    have f4 := ownsRow_far (ownsRow_far (ownsRow_far (ownsRow_far hf (p := ⟨bk, 3, none⟩) hne (.slice (some ⟨w.heap.size, 0, none⟩) 1 1)) (p := ⟨bk, 4, none⟩) hne (.int .i64 N)) (p := ⟨bk, 5, none⟩) hne (.int .i64 0)) (p := ⟨bk, 6, none⟩) hne (.slice (some ⟨w.heap.size + 1, 0, none⟩) 0 0)
    have b4 := (((hB.set_ 3 (.slice (some ⟨w.heap.size, 0, none⟩) 1 1)).set_ 4 (.int .i64 N)).set_ 5 (.int .i64 0)).set_ 6 (.slice (some ⟨w.heap.size + 1, 0, none⟩) 0 0)
    have x4 := ((((Ext.setCell h0 (p := ⟨bk, 3, none⟩) hk (.slice (some ⟨w.heap.size, 0, none⟩) 1 1)).setCell (p := ⟨bk, 4, none⟩) hk (.int .i64 N)).setCell (p := ⟨bk, 5, none⟩) hk (.int .i64 0)).setCell (p := ⟨bk, 6, none⟩) hk (.slice (some ⟨w.heap.size + 1, 0, none⟩) 0 0))
    have hs4 : ((((w.setCell ⟨bk, 3, none⟩ (.slice (some ⟨w.heap.size, 0, none⟩) 1 1)).setCell ⟨bk, 4, none⟩ (.int .i64 N)).setCell ⟨bk, 5, none⟩ (.int .i64 0)).setCell ⟨bk, 6, none⟩ (.slice (some ⟨w.heap.size + 1, 0, none⟩) 0 0)).heap.size = w.heap.size := by simp [World.setCell]
    generalize ((((w.setCell ⟨bk, 3, none⟩ (.slice (some ⟨w.heap.size, 0, none⟩) 1 1)).setCell ⟨bk, 4, none⟩ (.int .i64 N)).setCell ⟨bk, 5, none⟩ (.int .i64 0)).setCell ⟨bk, 6, none⟩ (.slice (some ⟨w.heap.size + 1, 0, none⟩) 0 0)) = w4 at *
    subst hW
    have ea := (Ext.alloc w4 (.cells #[.slice (some ⟨g, 0, none⟩) L0 cL] 46)).trans (Ext.alloc _ (.cells #[] 140))
    refine ⟨⟨b4.ext ea, ?_, ?_, fun i p hp => ?_, hk⟩, x4.trans ea, fun p hp => ?_⟩
    · have := World.ownsRow_made (base := w0.heap.size) (e := 140) (size := 3) (w4.alloc (.cells #[.slice (some ⟨g, 0, none⟩) L0 cL] 46)) #[] 0 (by simp; omega) (by unfold maxLen; omega) (by simp)
      simpa [OwnRules, rvs, hs4] using this
    · refine ⟨by simp, .inr ⟨w.heap.size, 1, #[.slice (some ⟨g, 0, none⟩) L0 cL], rfl, hsw, ?_, Nat.le_refl _, by unfold maxLen; omega, by simp, by simp⟩⟩
      exact ((Blk.new w4 w.heap.size 46 _ hs4).alloc _)
    · have h1 := (List.getElem?_eq_some_iff.1 hp).1
      have e0 : i = 0 := by simp at h1; omega
      subst e0
      simp at hp
      subst hp
      exact ⟨_, rfl, OwnInts.ext f4 ea⟩
    · simp at hp
      subst hp
      exact lookP_ok hm (by omega) (by omega)
  rw [← hW]
  clear hW k0 kf k1 kf1 hB hf h0
  go_loopw [7] (fun i wr => ∃ (k : Nat) (s : List MP × List RuleD) (rv pv : Value) (vs : List Value), i = .int .i64 k ∧ BldAt (actW m) mp0 N k s ∧ InZ w0 m N bk b s rv pv vs wr) (fun i _ => 1001 - (intOf i).toNat)
  case atStart => exact ⟨0, ([mp0], []), _, _, _, rfl, BldAt.start _ _ _, HI⟩
  case round =>
    clear HI
    obtain ⟨k, s, rv, pv, vs, rfl, hB, inv⟩ := hrel
    have hk1 := hB.le
    have hk2 := hB.most
    obtain ⟨Ap, cp, rfl⟩ := inv.st.form
    have c3 := inv.st.blk.cell 3
    simp only [List.getElem?_toArray, List.getElem?_cons_zero, List.getElem?_cons_succ] at c3
    by_cases hlt : k < s.1.length
    · obtain ⟨p, hp⟩ : ∃ p, s.1[k]? = some p := ⟨s.1[k], List.getElem?_eq_getElem hlt⟩
      have hpo : WOk m p := inv.ok p (List.mem_of_getElem? hp)
      go_wp2
      go_loopw [8] (fun i wr' => ∃ (j : Nat) (rv pv : Value) (vs : List Value), j ≤ N ∧ i = .int .i64 j ∧ (rowTo (actW m) p s j).1.length ≤ 1000 ∧ InZ w0 m N bk b (rowTo (actW m) p s j) rv pv vs wr') (fun i _ => N - (intOf i).toNat)
      case atStart => exact ⟨0, _, _, _, Nat.zero_le _, rfl, hk2, inv⟩
      case round =>
        clear inv c3
        obtain ⟨j, rv, pv, vs, hj, rfl, hlen1, inv⟩ := hrel
        by_cases hjn : j < N
        · have fv0 : (0 : Int) ≤ (j : Int) := by omega
          have fv1 : (j : Int) < 2 * m.sy := by have := HN.out; omega
          have hpj : (rowTo (actW m) p s j).1[k]? = some p := by
            obtain ⟨t, ht⟩ := rowTo_prefix (actW m) p s j
            rw [← ht, List.getElem?_append_left hlt]; exact hp
          have htl : (rowTo (actW m) p s j).2.length ≤ 6600 := by
            have h1 := rowTo_length (actW m) p s j
            have h2 := hB.rules
            have h3 : k * N ≤ 1000 * 6 := Nat.mul_le_mul (by omega) n6
            omega
          have HRT : Hid (rowTo (actW m) p s (j + 1) = symStep (actW m) p (rowTo (actW m) p s j) j) := rfl
          have HF : Hid (1000 < (symStep (actW m) p (rowTo (actW m) p s j) j).1.length → weaveB m = none) := by
            unfold Hid
            intro hbig
            rw [HB.out]
            refine hB.fails hlt hp (Nat.lt_of_lt_of_le hbig ?_)
            have := rowTo_le (actW m) p s (show j + 1 ≤ N by omega)
            exact this
          have HBA := Lib.hid hB
          clear hB
          generalize rowTo (actW m) p s j = t at *
          have hkt : k < t.1.length := (List.getElem?_eq_some_iff.1 hpj).1
          obtain ⟨Ap, cp, rfl⟩ := inv.st.form
          obtain ⟨gp, A', c', rfl, hgp1, hgp2, a0, ho⟩ := inv.st.at hpj
          have c3 := inv.st.blk.cell 3
          simp only [List.getElem?_toArray, List.getElem?_cons_zero, List.getElem?_cons_succ] at c3
          go_wp2_with fail
          refine (moveM_c bk b m p j _ _ _ _ _ _ wr inv.st.blk (hM.ext inv.below) hm hpo fv0 fv1 ho.ints).mono ?_
          have hap := fun hno => actW_ok hm hpo fv0 fv1 (v := (j : Int)) hno
          have hsN := fun hno => symStep_no (act := actW m) (p := p) (s := t) (v := (j : Int)) hno
          have hsY := fun hno => symStep_yes (act := actW m) (p := p) (s := t) (v := (j : Int)) hno
          generalize hST : symStep (actW m) p t j = st at *
          clear hST
          generalize actW m p j = a at *
          rintro e w3 ⟨hres, hx3⟩
          have inv4 := inv.ext hx3
          clear c3 a0
          rcases hres with ⟨hno, rfl⟩ | ⟨hno, A1, c1, rfl, ho1⟩
          · have HS := Lib.hid (hsN hno)
            clear hsN hsY hap HF
            obtain ⟨U, hU⟩ : ∃ U, U = w3.alloc (.cells #[.bool false, .int .i64 0, .int .i64 0, .slice none 0 0] 137) := ⟨_, rfl⟩
            have hXU : Ext w3 U := by rw [hU]; exact Ext.alloc _ _
            have inv5 := inv4.ext hXU
            go_wp2_with fail
            rw [← hU]
            clear hU
            have hrl : OwnRules w0.heap.size U rv t.2 := inv5.st.rules
            obtain ⟨Ar, cr, rfl, _, _, _⟩ := (ownsRow_row hrl).form
            have c6 := inv5.st.blk.cell 6
            simp only [List.getElem?_toArray, List.getElem?_cons_zero, List.getElem?_cons_succ] at c6
            have hsU := Ext.size inv5.below
            go_region_law
              (first
                | (refine step_append_lies _ (by rfl) _ _ _ (by rfl) w0.heap.size 140 i0 _ 3 24 Tryz.underlying60 hi hz0 hz1 hz2 rfl (by omega) _ _ (rvs t.2) (by first | rfl | simp [Act.eval, Act.put]) (OwnRules.ext hrl e6) ⟨w5.heap.size, 0, none⟩ 1 1 [.int .i64 0, .int .i64 0, .int .i64 (-1)] (by first | rfl | simp [Act.eval, Act.put]) rfl (World.news_of_block (w := w5.alloc (.cells #[.int .i64 0, .int .i64 0, .int .i64 (-1)] 140)) (heap_alloc_new w5 _)) (by simp [Value.oneCell']) (by omega) (by unfold maxLen; omega) (by omega) hsz6 (w5.heap.size + 1) (by simp) ?_; intro g7 cap w7 hown7 hg7 hat7 hlt7; have I7 := I6.ruled (r := ⟨0, 0, -1⟩) hown7 hg7; have B7 := Blk.apart I6.st.blk I6.st.rules (by decide) hg7; have z2 := B7.cell 6; have f2 := B7.frozen 6; simp only [List.getElem?_toArray, List.getElem?_cons_zero, List.getElem?_cons_succ] at z2)
                | (go_simp; go_at_call 79; ((with_reducible refine (l05None_c _).mono ?_)); rintro e w5 ⟨rfl, hx5⟩; have e5 := (Ext.drew U).trans hx5; have e6 := e5.trans (Ext.alloc w5 (.cells #[.int .i64 0, .int .i64 0, .int .i64 (-1)] 140)); have I6 := inv5.ext e6; have c65 := e5.cell c6; have c66 := e6.cell c6; have hsz6 : w0.heap.size ≤ (w5.alloc (.cells #[.int .i64 0, .int .i64 0, .int .i64 (-1)] 140)).heap.size := Ext.size I6.below))
            all_goals
              try go_wp2
              go_roundw
              case rel => exact ⟨j + 1, _, _, _, by omega, by go_num, by rw [HRT.out, HS.out]; exact hlen1, by rw [HRT.out, HS.out]; exact I7⟩
              case measure => simp [intOf]; omega
          · have HS := Lib.hid (hsY hno)
            have HAP := Lib.hid (hap hno)
            clear hsN hsY hap
            have o4 : OwnInts w0.heap.size w3 (.slice A1 (encM m a.p).length c1) (encM m a.p) := ownsRow_base ho1 (Ext.size inv.below)
            obtain ⟨aw, am, ap, ano⟩ := a
            simp only at hno HS HAP o4
            clear ho1
            generalize hen : (encM m ap).length = en at *
            have HEN := Lib.hid hen
            clear hen
            obtain ⟨U, hU⟩ : ∃ U, U = w3.alloc (.cells #[.bool true, .int .i64 aw, .int .i64 am, .slice A1 en c1] 137) := ⟨_, rfl⟩
            have hXU : Ext w3 U := by rw [hU]; exact Ext.alloc _ _
            have bA : Blk U w3.heap.size 137 #[.bool true, .int .i64 aw, .int .i64 am, .slice A1 en c1] := by rw [hU]; exact Blk.new _ _ _ _ rfl
            have inv5 := inv4.ext hXU
            have o5 : OwnInts w0.heap.size U (.slice A1 en c1) (encM m ap) := OwnInts.ext o4 hXU
            go_wp2_with fail
            rw [← hU]
            clear hU
            refine (findM_c inv5.st hm inv5.ok ap HAP.out _ o5.ints (by omega)).mono ?_
            rintro e w6 ⟨rfl, hx6⟩
            have inv6 := inv5.ext hx6
            have bA6 := bA.ext hx6
            have o6 := o5.ext hx6
            clear inv5 bA o5 inv4 o4
            by_cases hin : ap ∈ t.1
            · have hfn : findW t.1 ap = (t.1.idxOf ap : Nat) := by simp [findW, hin]
              rw [hfn]
              rw [addP_old hin] at HS
              have hneg : decide (((t.1.idxOf ap : Nat) : Int) < 0) = false := by simp
              go_wp2_with fail
              have hrl : OwnRules w0.heap.size w6 rv t.2 := inv6.st.rules
              obtain ⟨Ar, cr, rfl, _, _, _⟩ := (ownsRow_row hrl).form
              have eA := (Ext.alloc w6 (.cells #[.int .i64 aw, .int .i64 am, .int .i64 (t.1.idxOf ap : Nat)] 140)).trans (Ext.drew _)
              have I6 := inv6.ext eA
              have c6 := inv6.st.blk.cell 6
              have c6' := (inv6.st.blk.alloc (.cells #[.int .i64 aw, .int .i64 am, .int .i64 (t.1.idxOf ap : Nat)] 140)).cell 6
              have q1 := bA6.cell 1
              have q2 := bA6.cell 2
              simp only [List.getElem?_toArray, List.getElem?_cons_zero, List.getElem?_cons_succ] at c6 c6' q1 q2
              have hsU := Ext.size inv6.below
              go_region_law ((refine step_append_lies _ (by rfl) _ _ _ (by rfl) w0.heap.size 140 i0 _ 3 24 Tryz.underlying60 hi hz0 hz1 hz2 rfl (by omega) _ _ (rvs t.2) (by first | rfl | simp [Act.eval, Act.put]) (OwnRules.ext hrl eA) ⟨w6.heap.size, 0, none⟩ 1 1 [.int .i64 aw, .int .i64 am, .int .i64 (t.1.idxOf ap : Nat)] (by first | rfl | simp [Act.eval, Act.put]) rfl (World.news_of_block (w := (w6.alloc (.cells #[.int .i64 aw, .int .i64 am, .int .i64 (t.1.idxOf ap : Nat)] 140)).drew) (heap_alloc_new w6 _)) (by simp [Value.oneCell']) (by omega) (by unfold maxLen; omega) (by omega) (by simp; omega) (w6.heap.size + 1) (by simp) ?_; intro g7 cap w7 hown7 hg7 hat7 hlt7; have I7 := I6.ruled (r := ⟨aw, am, (t.1.idxOf ap : Nat)⟩) hown7 hg7; have B7 := Blk.apart I6.st.blk I6.st.rules (by decide) hg7; have z2 := B7.cell 6; have f2 := B7.frozen 6; simp only [List.getElem?_toArray, List.getElem?_cons_zero, List.getElem?_cons_succ] at z2))
              all_goals
                try go_wp2
                go_roundw
                case rel => exact ⟨j + 1, _, _, _, by omega, by go_num, by rw [HRT.out, HS.out]; exact hlen1, by rw [HRT.out, HS.out]; exact I7⟩
                case measure => simp [intOf]; omega
            · have hfn : findW t.1 ap = -1 := by simp [findW, hin]
              rw [hfn]
              rw [idx_new hin, addP_new hin] at HS
              have c3 := inv6.st.blk.cell 3
              simp only [List.getElem?_toArray, List.getElem?_cons_zero, List.getElem?_cons_succ] at c3
              by_cases h1000 : t.1.length = 1000
              · have hb1000 : ((t.1.length : Int) == 1000) = true := by simp [h1000]
                have HNO : Hid (weaveB m = none) := by
                  unfold Hid
                  refine HF.out ?_
                  rw [HS.out]
                  simp
                  omega
                clear h1000
                go_wp2
                go_ret
                exact ⟨.inl ⟨HNO.out, rfl⟩, inv6.below⟩
              · have hb1000 : ((t.1.length : Int) == 1000) = false := by simp; omega
                have eB := (Ext.alloc w6 (.cells #[.slice A1 en c1] 46)).trans (Ext.drew _)
                have I8 := inv6.ext eB
                have o8 := OwnInts.ext o6 eB
                have c3' := (inv6.st.blk.alloc (.cells #[.slice A1 en c1] 46)).cell 3
                have q3 := bA6.cell 3
                simp only [List.getElem?_toArray, List.getElem?_cons_zero, List.getElem?_cons_succ] at c3' q3
                have hs6 := Ext.size inv6.below
                have bA8 := bA6.ext eB
                go_wp2
                go_region_law ((refine step_append_lies _ (by rfl) _ _ _ (by rfl) w0.heap.size 46 j0 _ 1 24 Tryz.underlying25 hjI hy0 hy1 hy2 rfl (by omega) _ _ vs (by first | rfl | simp [Act.eval, Act.put]) I8.st.places ⟨w6.heap.size, 0, none⟩ 1 1 [.slice A1 en c1] (by first | rfl | simp [Act.eval, Act.put]) rfl (World.news_of_block (w := (w6.alloc (.cells #[.slice A1 en c1] 46)).drew) (heap_alloc_new w6 _)) (by simp [Value.oneCell']) (by omega) (by unfold maxLen; omega) (by omega) (by simp; omega) (w6.heap.size + 1) (by simp) ?_; intro g9 cap9 w9 hown9 hg9 hat9 hlt9; have I9 := I8.added o8 HAP.out hown9 hg9; have B9 := Blk.apart I8.st.blk I8.st.places (by decide) hg9; have z9 := B9.cell 3; have f9 := B9.frozen 3; have bA9 := (Blk.apart bA8 I8.st.places (by decide) hg9).far (p := ⟨bk, 3, none⟩) (blk_ne (Blk.apart bA8 I8.st.places (by decide) hg9) B9 (by decide)) (.slice (some ⟨g9, 0, none⟩) (t.1.length + 1) cap9); simp only [List.getElem?_toArray, List.getElem?_cons_zero, List.getElem?_cons_succ] at z9))
                all_goals
                  obtain ⟨X, hX⟩ : ∃ X, X = w9.setCell ⟨bk, 3, none⟩ (.slice (some ⟨g9, 0, none⟩) (t.1.length + 1) cap9) := ⟨_, rfl⟩
                  rw [← hX] at I9 bA9 ⊢
                  clear hX c3 c3' z9 f9 q3 I8
                  try go_wp2_with fail
                  have hrl : OwnRules w0.heap.size X rv t.2 := I9.st.rules
                  obtain ⟨Ar, cr, rfl, _, _, _⟩ := (ownsRow_row hrl).form
                  have eA := (Ext.alloc X (.cells #[.int .i64 aw, .int .i64 am, .int .i64 (t.1.length : Nat)] 140)).trans (Ext.drew _)
                  have I6 := I9.ext eA
                  have c6 := I9.st.blk.cell 6
                  have c6' := (I9.st.blk.alloc (.cells #[.int .i64 aw, .int .i64 am, .int .i64 (t.1.length : Nat)] 140)).cell 6
                  have q1 := bA9.cell 1
                  have q2 := bA9.cell 2
                  simp only [List.getElem?_toArray, List.getElem?_cons_zero, List.getElem?_cons_succ] at c6 c6' q1 q2
                  have hsU := Ext.size I9.below
                  go_region_law ((refine step_append_lies _ (by rfl) _ _ _ (by rfl) w0.heap.size 140 i0 _ 3 24 Tryz.underlying60 hi hz0 hz1 hz2 rfl (by omega) _ _ (rvs t.2) (by first | rfl | simp [Act.eval, Act.put]) (OwnRules.ext hrl eA) ⟨X.heap.size, 0, none⟩ 1 1 [.int .i64 aw, .int .i64 am, .int .i64 (t.1.length : Nat)] (by first | rfl | simp [Act.eval, Act.put]) rfl (World.news_of_block (w := (X.alloc (.cells #[.int .i64 aw, .int .i64 am, .int .i64 (t.1.length : Nat)] 140)).drew) (heap_alloc_new X _)) (by simp [Value.oneCell']) (by omega) (by unfold maxLen; omega) (by omega) (by simp; omega) (X.heap.size + 1) (by simp) ?_; intro g7 cap w7 hown7 hg7 hat7 hlt7; have I7 := I6.ruled (r := ⟨aw, am, (t.1.length : Nat)⟩) hown7 hg7; have B7 := Blk.apart I6.st.blk I6.st.rules (by decide) hg7; have z2 := B7.cell 6; have f2 := B7.frozen 6; simp only [List.getElem?_toArray, List.getElem?_cons_zero, List.getElem?_cons_succ] at z2))
                  all_goals
                    try go_wp2
                    go_roundw
                    case rel => exact ⟨j + 1, _, _, _, by omega, by go_num, by rw [HRT.out, HS.out]; (simp; omega), by rw [HRT.out, HS.out]; exact I7⟩
                    case measure => simp [intOf]; omega
        · have hjN : j = N := by omega
          subst hjN
          have HBN := Lib.hid (hB.step hlt hp hlen1)
          clear hB
          generalize rowTo (actW m) p s j = t at *
          go_wp2
          go_roundw
          case rel => exact ⟨k + 1, t, rv, pv, vs, by go_num, HBN.out, inv⟩
          case measure => simp [intOf]; omega
    · have HBN := Lib.hid (hB.ends hlt)
      have one := hB.one
      clear hB
      have f5 := inv.st.blk.frozen 5
      have c5 := inv.st.blk.cell 5
      simp only [List.getElem?_toArray, List.getElem?_cons_zero, List.getElem?_cons_succ] at c5
      go_wp2
      go_ret
      have hgs := grownBy_setCell wr ⟨bk, 5, none⟩ (.int .i64 (s.1.length : Nat))
      refine ⟨.inr ⟨s, rv, _, vs, HB.out.trans HBN.out, rfl, ⟨?_, own_kept inv.st.rules hgs (blk_ne_row inv.st.blk inv.st.rules (by decide)), own_kept inv.st.places hgs (blk_ne_row inv.st.blk inv.st.places (by decide)), fun i p hp => ?_, inv.st.low⟩, inv.ok, one, hk2⟩, Below.setCell inv.below inv.st.low _⟩
      · have := inv.st.blk.set_ 5 (.int .i64 (s.1.length : Nat))
        rw [HN.out]
        exact this
      · obtain ⟨u, e, hu⟩ := inv.st.rows i p hp
        exact ⟨u, e, own_kept hu hgs (blk_ne_row inv.st.blk hu (by decide))⟩
end Go.Proofs.YtfghojbbofobeaaGreat
end
section
set_option linter.unusedSimpArgs false
set_option linter.unusedVariables false
namespace Go.Proofs.YtfghojbbofobeaaGreat
open Go Go.RowKit Go.Proofs Go.Maps
set_option maxHeartbeats 400000
def MakeS (w : World) (m : MultiD) (b : Nat) (e : Ending) (w' : World) : Prop :=
  ((weaveB m = none ∧ ∃ bk, e = .returned (.tuple #[.pointer (some ⟨bk, 0, none⟩), .bool false])) ∨
    ∃ s bk rv pv vs, weaveB m = some s ∧ e = .returned (.tuple #[.pointer (some ⟨bk, 0, none⟩), .bool true]) ∧ MkM w.heap.size w' bk b m (2 * m.sy) s.1.length s.2 s.1 rv pv vs ∧ (∀ p ∈ s.1, WOk m p) ∧ 1 ≤ s.1.length ∧ s.1.length ≤ 1000) ∧ Ext w w'
set_option maxHeartbeats 1000000 in
set_option maxRecDepth 20000 in
theorem l13MakeSeveral_c (b : Nat) (m : MultiD) (w : World) (hM : MulAt w b m) (hm : multiOk m = true) :
    Calls Tryz.prog 21 #[.pointer (some ⟨b, 0, none⟩)] w (MakeS w m b) := by
  obtain ⟨⟨tp1, tp2⟩, ⟨y1, y2⟩, _⟩ := multi_all hm
  obtain ⟨W, hW⟩ : ∃ W, W = w.alloc (.cells #[.pointer none, .pointer (some ⟨b, 0, none⟩), .int .i64 2, .slice none 0 0, .int .i64 0, .int .i64 0, .slice none 0 0] 64) := ⟨_, rfl⟩
  have hXW : Ext w W := by rw [hW]; exact Ext.alloc _ _
  have bK : Blk W w.heap.size 64 #[.pointer none, .pointer (some ⟨b, 0, none⟩), .int .i64 2, .slice none 0 0, .int .i64 0, .int .i64 0, .slice none 0 0] := by rw [hW]; exact Blk.new _ _ _ _ rfl
  have HM := Lib.hid hM
  obtain ⟨A, cA, hb, _⟩ := hM
  have a1 : W.cell? ⟨b, 1, none⟩ = some (.int .i64 m.sy) := (hb.ext hXW).cell 1
  have hwm : IntKind.i64.wrap (2 * m.sy) = 2 * m.sy := IntWalk.i64_in _ (by omega)
  clear hb
  go_enter Tryz.func21, Tryz.ntmps21
  go_upto_region 2 with fail
  try rw [← hW]
  clear hW
  have zD := Ext.drew W
  have e1 := zD.cell a1
  have hM1 := HM.out.ext (hXW.trans zD)
  refine wp_region_ordT 8 (readsT [0, 1, 2, 3, 4, 5, 6] (.stir 7 .done)) (by kernel_rfl) (by kernel_rfl) (fun _ _ _ _ _ h => h) ?_
  simp only [readsT]
  iterate 7 (refine wpOrdT_read (v := ?_) (by rfl) (Or.inl ⟨by rfl, fun x hx => ?_⟩) ?_; rotate_left; (· have u1 := hx.cell e1; go_simp; try with_reducible rfl); try simp only [Act.put, List.setIfInBounds_toArray, List.set_cons_zero, List.set_cons_succ])
  refine wpOrdT_stir (by rfl) (fun K hK => ?_)
  go_simp
  go_at_call 47
  refine (lookS_c b m 0 _ hM1 hm).mono ?_
  rintro e w1 ⟨u, rfl, ou, hx1⟩
  refine hK _ _ hx1 ?_
  clear hK K
  try simp only [Act.put, List.setIfInBounds_toArray, List.set_cons_zero, List.set_cons_succ]
  have ou0 : OwnInts w.heap.size w1 u (encM m mp0) := ownsRow_base ou (hXW.trans zD).size
  obtain ⟨L0, hL0⟩ : ∃ L0, L0 = (encM m mp0).length := ⟨_, rfl⟩
  obtain ⟨gu, cu, rfl⟩ : ∃ gu cu, u = .slice (some ⟨gu, 0, none⟩) L0 cu := by
    obtain ⟨Au, cu, rfl, _, _⟩ := id ou0.ints.form
    obtain ⟨gu, rfl, _, _⟩ := own_at ou0 (by simp [encM, mp0])
    exact ⟨gu, cu, by rw [hL0]⟩
  have BS := buildS_c w w1 w.heap.size b m gu L0 cu HM.out ((hXW.trans zD).trans hx1) (Nat.le_refl _) ((bK.ext zD).ext hx1) ou0 hL0 hm
  have HL0 := Lib.hid hL0
  clear hL0 ou ou0
  refine wpOrdT_done ?_
  try simp only [List.drop_succ_cons, List.drop_zero]
  clear e1 a1 hM1 bK hXW zD hx1
  go_wp2_with fail
  refine BS.mono ?_
  rintro e w2 ⟨hres, hx2⟩
  clear BS
  rcases hres with ⟨hn, rfl⟩ | ⟨s, rv1, pv1, vs1, hs, rfl, hst, hok, l1, l2⟩
  · go_wp2_with fail
    go_ret2
    exact ⟨.inl ⟨hn, _, rfl⟩, hx2⟩
  · go_wp2_with fail
    go_ret2
    exact ⟨.inr ⟨s, _, rv1, pv1, vs1, hs, rfl, hst, hok, l1, l2⟩, hx2⟩
def WeaveRes (w : World) (m : MultiD) (e : Ending) (w' : World) : Prop :=
  ((weaveB m = none ∧ e = .returned (.tuple #[.pointer none, .bool false])) ∨
    ∃ s bx bm rv pv, weaveB m = some s ∧ e = .returned (.tuple #[.pointer (some ⟨bx, 0, none⟩), .bool true]) ∧ PlM w.heap.size w' bx (2 * m.sy) s.1.length s.2 s.1 rv pv bm ∧ (∀ p ∈ s.1, WOk m p) ∧ 1 ≤ s.1.length ∧ s.1.length ≤ 1000) ∧ Ext w w'
set_option maxHeartbeats 1000000 in
set_option maxRecDepth 20000 in
theorem oneTape_c (mv : Value) (m : MultiD) (w : World) (hM : Mult w mv m) (hm : multiOk m = true) :
    Calls Tryz.prog 29 #[mv] w (WeaveRes w m) := by
  obtain ⟨⟨tp1, tp2⟩, ⟨y1, y2⟩, _⟩ := multi_all hm
  obtain ⟨rv, rfl, hR⟩ := hM
  obtain ⟨A, cA, rfl, _, _⟩ := hR.form
  obtain ⟨g, hg⟩ : ∃ g, w.heap.size = g := ⟨_, rfl⟩
  obtain ⟨W, hW⟩ : ∃ W, W = w.alloc (.cells #[.int .i64 m.tp, .int .i64 m.sy, .int .i64 m.st, .slice A m.rules.length cA] 35) := ⟨_, rfl⟩
  have hXW : Ext w W := by rw [hW]; exact Ext.alloc _ _
  have bM : Blk W g 35 #[.int .i64 m.tp, .int .i64 m.sy, .int .i64 m.st, .slice A m.rules.length cA] := by rw [hW]; exact Blk.new _ _ _ _ hg
  have a0 : W.cell? ⟨g, 0, none⟩ = some (.int .i64 m.tp) := bM.cell 0
  have a1 : W.cell? ⟨g, 1, none⟩ = some (.int .i64 m.sy) := bM.cell 1
  have a2 : W.cell? ⟨g, 2, none⟩ = some (.int .i64 m.st) := bM.cell 2
  have a3 : W.cell? ⟨g, 3, none⟩ = some (.slice A m.rules.length cA) := bM.cell 3
  have hwm : IntKind.i64.wrap (2 * m.sy) = 2 * m.sy := IntWalk.i64_in _ (by omega)
  go_enter Tryz.func29, Tryz.ntmps29
  go_upto_region 1 with fail
  try rw [← hW]
  try rw [hg]
  clear hW
  have zD := Ext.drew W
  have e0 := zD.cell a0
  have e1 := zD.cell a1
  have e2 := zD.cell a2
  have e3 := zD.cell a3
  have MR := multiRules_c (.agg #[.int .i64 m.tp, .int .i64 m.sy, .int .i64 m.st, .slice A m.rules.length cA]) m W.drew ⟨_, rfl, hR.ext (hXW.trans zD)⟩ hm
  refine wp_region_ordT 3 (readsT [0, 1] (.stir 2 .done)) (by kernel_rfl) (by kernel_rfl) (fun _ _ _ _ _ h => h) ?_
  simp only [readsT]
  iterate 2 (refine wpOrdT_read (v := ?_) (by rfl) (Or.inl ⟨by rfl, fun x hx => ?_⟩) ?_; rotate_left; (· have u0 := hx.cell e0; have u1 := hx.cell e1; have u2 := hx.cell e2; have u3 := hx.cell e3; go_simp; try with_reducible rfl); try simp only [Act.put, List.setIfInBounds_toArray, List.set_cons_zero, List.set_cons_succ])
  refine wpOrdT_stir (by rfl) (fun K hK => ?_)
  go_simp
  go_at_call 59
  refine MR.mono ?_
  rintro e w1 ⟨bm, rfl, tb, hbm, hx1⟩
  refine hK _ _ hx1 ?_
  clear hK K MR
  try simp only [Act.put, List.setIfInBounds_toArray, List.set_cons_zero, List.set_cons_succ]
  refine wpOrdT_done ?_
  try simp only [List.drop_succ_cons, List.drop_zero]
  have hX1 := hXW.trans (zD.trans hx1)
  obtain ⟨gw, hgw⟩ : ∃ gw, w1.heap.size = gw := ⟨_, rfl⟩
  obtain ⟨V, hV⟩ : ∃ V, V = w1.alloc (.cells #[.int .i64 m.tp, .int .i64 m.sy, .int .i64 m.st, .slice A m.rules.length cA, .map (some bm)] 116) := ⟨_, rfl⟩
  have hXV : Ext w1 V := by rw [hV]; exact Ext.alloc _ _
  have hWv : Weav V gw m := ⟨A, cA, bm, by rw [hV]; exact Blk.new _ _ _ _ hgw, hR.ext (hX1.trans hXV), tb.ext hXV⟩
  have hXv := hX1.trans hXV
  have a1V : V.cell? ⟨g, 1, none⟩ = some (.int .i64 m.sy) := (zD.trans (hx1.trans hXV)).cell a1
  clear e0 e1 e2 e3 a0 a1 a2 a3 tb bM hR hx1 zD hX1 hXV hXW
  go_upto_region 2 with fail
  try rw [← hV]
  try rw [hgw]
  clear hV hgw
  have zD := Ext.drew V
  have e1 := zD.cell a1V
  have fin : ∀ (Z : World) , Ext V.drew Z → Calls Tryz.prog 60 #[.int .i64 (2 * m.sy), mp0.v, .func (.func 62) #[.pointer (some ⟨gw, 0, none⟩)] #[]] Z (fun e w' => BuildM Z m e w' ∧ Ext V.drew Z) := fun Z hZ => (buildW_c Z gw m (hWv.ext (zD.trans hZ)) hm).mono fun e w' hh => ⟨hh, hZ⟩
  simp only [mp0, MP.v] at fin
  refine wp_region_ordT 9 (readsT [0, 1, 2, 4] (.fork 3 (.stir 5 (.stir 6 (readsT [7, 8] .done))) 5 (.stir 3 (.stir 6 (readsT [7, 8] .done))))) (by kernel_rfl) (by kernel_rfl) (fun _ _ _ _ _ h => h) ?_
  simp only [readsT]
  iterate 4 (refine wpOrdT_read (v := ?_) (by rfl) (Or.inl ⟨by rfl, fun x hx => ?_⟩) ?_; rotate_left; (· have u1 := hx.cell e1; go_simp; try with_reducible rfl); try simp only [Act.put, List.setIfInBounds_toArray, List.set_cons_zero, List.set_cons_succ])
  refine wpOrdT_fork (by rfl) (by rfl) (fun K hK => ?_) (fun K hK => ?_)
  · go_simp
    go_at_call 61
    refine (look_c 0 _).mono ?_
    rintro e w3 ⟨rfl, hx3⟩
    refine hK _ _ hx3 ?_
    clear hK K
    try simp only [Act.put, List.setIfInBounds_toArray, List.set_cons_zero, List.set_cons_succ]
    simp only [lookP, MP.v]
    refine wpOrdT_stir (by rfl) (fun K hK => ?_)
    go_simp
    refine hK _ _ (Ext.refl _) ?_
    clear hK K
    try simp only [Act.put, List.setIfInBounds_toArray, List.set_cons_zero, List.set_cons_succ]
    refine wpOrdT_stir (by rfl) (fun K hK => ?_)
    go_simp
    go_at_call 60
    refine (fin w3 hx3).mono ?_
    rintro e w4 ⟨⟨hres, hx4⟩, _⟩
    have hX4 : Ext w w4 := hXv.trans (zD.trans (hx3.trans hx4))
    have hlow : w.heap.size ≤ w3.heap.size := (hXv.trans (zD.trans hx3)).size
    rcases hres with ⟨hn, rfl⟩ | ⟨s, bx, bm', rv1, pv1, hs, rfl, hst, hok, l1, l2⟩
    · refine hK _ _ hx4 ?_
      clear hK K fin
      try simp only [Act.put, List.setIfInBounds_toArray, List.set_cons_zero, List.set_cons_succ]
      iterate 2 (refine wpOrdT_read (v := ?_) (by rfl) (Or.inl ⟨by rfl, fun x hx => ?_⟩) ?_; rotate_left; (· go_simp; try with_reducible rfl); try simp only [Act.put, List.setIfInBounds_toArray, List.set_cons_zero, List.set_cons_succ])
      refine wpOrdT_done ?_
      try simp only [List.drop_succ_cons, List.drop_zero]
      go_wp2_with fail
      go_ret2
      exact ⟨.inl ⟨hn, rfl⟩, hX4⟩
    · refine hK _ _ hx4 ?_
      clear hK K fin
      try simp only [Act.put, List.setIfInBounds_toArray, List.set_cons_zero, List.set_cons_succ]
      have hst' : PlM w.heap.size w4 bx (2 * m.sy) s.1.length s.2 s.1 rv1 pv1 bm' :=
        ⟨hst.blk, ownsRow_base hst.rules hlow, ownsRow_base hst.places hlow, hst.tbl, Nat.le_trans hlow hst.lowX, Nat.le_trans hlow hst.lowM⟩
      iterate 2 (refine wpOrdT_read (v := ?_) (by rfl) (Or.inl ⟨by rfl, fun x hx => ?_⟩) ?_; rotate_left; (· go_simp; try with_reducible rfl); try simp only [Act.put, List.setIfInBounds_toArray, List.set_cons_zero, List.set_cons_succ])
      refine wpOrdT_done ?_
      try simp only [List.drop_succ_cons, List.drop_zero]
      go_wp2_with fail
      go_ret2
      exact ⟨.inr ⟨s, _, bm', rv1, pv1, hs, rfl, hst', hok, l1, l2⟩, hX4⟩
  · go_simp
    refine hK _ _ (Ext.refl _) ?_
    clear hK K
    try simp only [Act.put, List.setIfInBounds_toArray, List.set_cons_zero, List.set_cons_succ]
    refine wpOrdT_stir (by rfl) (fun K hK => ?_)
    go_simp
    go_at_call 61
    refine (look_c 0 _).mono ?_
    rintro e w3 ⟨rfl, hx3⟩
    refine hK _ _ hx3 ?_
    clear hK K
    try simp only [Act.put, List.setIfInBounds_toArray, List.set_cons_zero, List.set_cons_succ]
    simp only [lookP, MP.v]
    refine wpOrdT_stir (by rfl) (fun K hK => ?_)
    go_simp
    go_at_call 60
    refine (fin w3 hx3).mono ?_
    rintro e w4 ⟨⟨hres, hx4⟩, _⟩
    have hX4 : Ext w w4 := hXv.trans (zD.trans (hx3.trans hx4))
    have hlow : w.heap.size ≤ w3.heap.size := (hXv.trans (zD.trans hx3)).size
    rcases hres with ⟨hn, rfl⟩ | ⟨s, bx, bm', rv1, pv1, hs, rfl, hst, hok, l1, l2⟩
    · refine hK _ _ hx4 ?_
      clear hK K fin
      try simp only [Act.put, List.setIfInBounds_toArray, List.set_cons_zero, List.set_cons_succ]
      iterate 2 (refine wpOrdT_read (v := ?_) (by rfl) (Or.inl ⟨by rfl, fun x hx => ?_⟩) ?_; rotate_left; (· go_simp; try with_reducible rfl); try simp only [Act.put, List.setIfInBounds_toArray, List.set_cons_zero, List.set_cons_succ])
      refine wpOrdT_done ?_
      try simp only [List.drop_succ_cons, List.drop_zero]
      go_wp2_with fail
      go_ret2
      exact ⟨.inl ⟨hn, rfl⟩, hX4⟩
    · refine hK _ _ hx4 ?_
      clear hK K fin
      try simp only [Act.put, List.setIfInBounds_toArray, List.set_cons_zero, List.set_cons_succ]
      have hst' : PlM w.heap.size w4 bx (2 * m.sy) s.1.length s.2 s.1 rv1 pv1 bm' :=
        ⟨hst.blk, ownsRow_base hst.rules hlow, ownsRow_base hst.places hlow, hst.tbl, Nat.le_trans hlow hst.lowX, Nat.le_trans hlow hst.lowM⟩
      iterate 2 (refine wpOrdT_read (v := ?_) (by rfl) (Or.inl ⟨by rfl, fun x hx => ?_⟩) ?_; rotate_left; (· go_simp; try with_reducible rfl); try simp only [Act.put, List.setIfInBounds_toArray, List.set_cons_zero, List.set_cons_succ])
      refine wpOrdT_done ?_
      try simp only [List.drop_succ_cons, List.drop_zero]
      go_wp2_with fail
      go_ret2
      exact ⟨.inr ⟨s, _, bm', rv1, pv1, hs, rfl, hst', hok, l1, l2⟩, hX4⟩
end Go.Proofs.YtfghojbbofobeaaGreat
end
section
set_option linter.unusedSimpArgs false
set_option linter.unusedVariables false
namespace Go.Proofs.YtfghojbbofobeaaGreat
open Go Go.RowKit Go.Proofs Go.Maps
set_option maxHeartbeats 400000
theorem floor_eq {a b : Int} (h : -2 ≤ a) (hb : b = 2 ∨ b = 3) : (a.tmod b + b).tmod b = a % b := by
  by_cases h0 : 0 ≤ a
  · rw [Int.tmod_eq_emod_of_nonneg h0]
    have h1 := Int.emod_nonneg a (show b ≠ 0 by omega)
    rw [Int.tmod_eq_emod_of_nonneg (by omega), Int.add_emod_right, Int.emod_emod]
  · have ha : a = -1 ∨ a = -2 := by omega
    rcases ha with rfl | rfl <;> rcases hb with rfl | rfl <;> decide
theorem floorMod_c (a b : Int) (w : World) (h : -2 ≤ a) (h1 : a ≤ 1000000) (hb : b = 2 ∨ b = 3) :
    Calls Tryz.prog 110 #[.int .i64 a, .int .i64 b] w fun e w' => e = .returned (.int .i64 (a % b)) ∧ w = w' := by
  have hf := floor_eq h hb
  have hb0 : ¬ b = 0 := by omega
  obtain ⟨r, hr⟩ : ∃ r, a.tmod b = r := ⟨_, rfl⟩
  rw [hr] at hf
  have hrb : -3 ≤ r ∧ r ≤ 1000000 := by
    rw [← hr]
    by_cases h0 : 0 ≤ a
    · rw [Int.tmod_eq_emod_of_nonneg h0]
      have h2 := Int.emod_nonneg a (show b ≠ 0 by omega)
      have h3 := Int.emod_lt_of_pos a (show 0 < b by omega)
      omega
    · have ha : a = -1 ∨ a = -2 := by omega
      rcases ha with rfl | rfl <;> rcases hb with rfl | rfl <;> decide
  have hw : IntKind.i64.wrap (r + b) = r + b := IntWalk.i64_in _ (by omega)
  go_enter Tryz.func110, Tryz.ntmps110
  go_wp2
  go_ret
  exact ⟨rfl, rfl⟩
theorem markM_c (v : Int) (b : Nat) (sy : Int) (w : World) (h : w.cell? ⟨b, 1, none⟩ = some (.int .i64 sy)) :
    Calls Tryz.prog 69 #[.int .i64 v, .pointer (some ⟨b, 0, none⟩)] w fun e w' => e = .returned (.bool (markB sy v)) ∧ w = w' := by
  go_enter Tryz.func69, Tryz.ntmps69
  go_wp2
  go_ret
  exact ⟨rfl, rfl⟩
theorem lineT_len (T f : Nat) (xs : List Int) (n : Nat) : (lineT T f xs n).length ≤ n := by
  unfold lineT ixT
  rw [List.length_map]
  exact Nat.le_trans (List.length_filter_le _ _) (by simp)
theorem lineT_next {T f k n : Nat} {xs : List Int} (hT : T = 2 ∨ T = 3) (hk : k % T = f) (h1 : k < n) (h2 : n ≤ k + T) : lineT T f xs n = lineT T f xs k ++ [xs.getD k 0] := by
  unfold lineT
  rw [ixT_next hT hk h1 h2, List.map_append]
  rfl
set_option maxRecDepth 20000 in
set_option maxHeartbeats 4000000 in
theorem tapeCells_c (m : MultiD) (rvm : Value) (c : ConfD) (lv qv : Value) (t0 j : Int) (w : World) (hm : multiOk m = true) (hl : Ints w lv c.l) (hr : Ints w qv c.r) (fl : Flat lv) (fr : Flat qv) (hL : c.l.length ≤ 200) (hR : c.r.length ≤ 200)
    (ht0 : 0 ≤ t0) (ht1 : t0 < m.tp) (hj0 : 0 ≤ j) (hj1 : j < m.tp) :
    Calls Tryz.prog 70 #[.agg #[.int .i64 m.tp, .int .i64 m.sy, .int .i64 m.st, rvm], .agg #[.int .i64 c.q, lv, qv], .int .i64 t0, .int .i64 j] w fun e w' => ∃ u, e = .returned u ∧ OwnInts w.heap.size w' u (lineC m c t0 j) ∧ Ext w w' := by
  obtain ⟨i0, hi, hz0, hz1, hz2⟩ := info_parts intInfo
  obtain ⟨⟨tp1, tp2⟩, _⟩ := multi_all hm
  obtain ⟨Al, cl, rfl, _, _⟩ := hl.form
  obtain ⟨Ar, cr, rfl, _, _⟩ := hr.form
  obtain ⟨g, hg⟩ : ∃ g, w.heap.size = g := ⟨_, rfl⟩
  obtain ⟨W, hW⟩ : ∃ W, W = (w.alloc (.cells #[.int .i64 m.tp, .int .i64 m.sy, .int .i64 m.st, rvm] 35)).alloc (.cells #[.int .i64 c.q, .slice Al c.l.length cl, .slice Ar c.r.length cr] 54) := ⟨_, rfl⟩
  have hX : Ext w W := by rw [hW]; exact (Ext.alloc _ _).trans (Ext.alloc _ _)
  have bM : Blk W g 35 #[.int .i64 m.tp, .int .i64 m.sy, .int .i64 m.st, rvm] := by rw [hW]; exact (Blk.new _ _ _ _ hg).alloc _
  have bC : Blk W (g + 1) 54 #[.int .i64 c.q, .slice Al c.l.length cl, .slice Ar c.r.length cr] := by rw [hW]; exact Blk.new _ _ _ _ (by simp [hg])
  have c1 : W.cell? ⟨g + 1, 1, none⟩ = some (.slice Al c.l.length cl) := bC.cell 1
  have c2 : W.cell? ⟨g + 1, 2, none⟩ = some (.slice Ar c.r.length cr) := bC.cell 2
  have zD := Ext.drew W
  have RV := reversed_c (.slice Al c.l.length cl) c.l W.drew (hl.ext (hX.trans zD)) fl (by omega)
  have hlr : c.l.reverse.length = c.l.length := by simp
  go_enter Tryz.func70, Tryz.ntmps70
  go_upto_region 1 with fail
  try rw [← hW]
  try rw [hg]
  clear hW
  have e1 := zD.cell c1
  have e2 := zD.cell c2
  refine wp_region_ordT 9 (readsT [0, 1, 3, 4, 7, 8] (.stir 2 (.stir 5 (.stir 6 .done)))) (by kernel_rfl) (by kernel_rfl) (fun _ _ _ _ _ h => h) ?_
  simp only [readsT]
  iterate 6 (refine wpOrdT_read (v := ?_) (by rfl) (Or.inl ⟨by rfl, fun x hx => ?_⟩) ?_; rotate_left; (· have u1 := hx.cell e1; have u2 := hx.cell e2; go_simp; try with_reducible rfl); try simp only [Act.put, List.setIfInBounds_toArray, List.set_cons_zero, List.set_cons_succ])
  refine wpOrdT_stir (by rfl) (fun K hK => ?_)
  go_simp
  go_at_call 66
  refine RV.mono ?_
  rintro e w5 ⟨u5, rfl, ho5, hx5⟩
  refine hK _ _ hx5 ?_
  clear hK K RV
  try simp only [Act.put, List.setIfInBounds_toArray, List.set_cons_zero, List.set_cons_succ]
  have hf5 := ho5.flat
  obtain ⟨A5, c5, rfl, _, _⟩ := ho5.ints.form
  have JN := joinedA_c A5 Ar c5 cr c.l.reverse c.r w5 ho5.ints (hr.ext (hX.trans (zD.trans hx5))) hf5 fr (by omega)
  have eA := Ext.alloc w5 (.cells #[.slice A5 c.l.reverse.length c5, .slice Ar c.r.length cr] 46)
  refine wpOrdT_stir (by rfl) (fun K hK => ?_)
  go_simp
  rw [hlr] at eA
  refine hK _ _ eA ?_
  clear hK K
  try simp only [Act.put, List.setIfInBounds_toArray, List.set_cons_zero, List.set_cons_succ]
  rw [hlr] at JN
  refine wpOrdT_stir (by rfl) (fun K hK => ?_)
  go_simp
  go_at_call 109
  refine JN.mono ?_
  rintro e w7 ⟨u7, rfl, ho7, hx7⟩
  refine hK _ _ hx7 ?_
  clear hK K JN
  try simp only [Act.put, List.setIfInBounds_toArray, List.set_cons_zero, List.set_cons_succ]
  refine wpOrdT_done ?_
  try simp only [List.drop_succ_cons, List.drop_zero]
  have hX7 := hX.trans (zD.trans (hx5.trans (eA.trans hx7)))
  have hE7 := zD.trans (hx5.trans (eA.trans hx7))
  have i7 : Ints w7 u7 (cellsC c) := ho7.ints
  have hlen : (cellsC c).length = c.l.length + c.r.length := by simp [cellsC]
  obtain ⟨A7, c7, rfl, _, _⟩ := i7.form
  have a0 : w7.cell? ⟨g, 0, none⟩ = some (.int .i64 m.tp) := (bM.ext hE7).cell 0
  have SZ := sizeInt_c (.slice Al c.l.length cl) c.l w7 (hl.ext hX7)
  clear e1 e2 c1 c2 bC ho5 hf5 hx5 eA hx7 ho7 hE7 zD
  go_wp2_with fail
  refine SZ.mono ?_
  rintro e w' ⟨rfl, rfl⟩
  clear SZ
  have hT : m.tp = 2 ∨ m.tp = 3 := by omega
  obtain ⟨n, hn⟩ : ∃ n, c.l.length = n := ⟨_, rfl⟩
  have hws : IntKind.i64.wrap (j - t0) = j - t0 := IntWalk.i64_in _ (by omega)
  have hwa : IntKind.i64.wrap (j - t0 + (n : Int)) = j - t0 + (n : Int) := IntWalk.i64_in _ (by omega)
  have FM := floorMod_c (j - t0 + (n : Int)) m.tp w7 (by omega) (by omega) hT
  obtain ⟨F, hF⟩ : ∃ F, frstC m.tp t0 j n = F := ⟨_, rfl⟩
  have hFi : (j - t0 + (n : Int)) % m.tp = (F : Int) := by
    rw [← hF]
    unfold frstC
    have := Int.emod_nonneg (j - t0 + (n : Int)) (show m.tp ≠ 0 by omega)
    omega
  obtain ⟨T, hTT⟩ : ∃ T : Nat, (T : Int) = m.tp := ⟨m.tp.toNat, by omega⟩
  have hTn : m.tp.toNat = T := by omega
  have hFlt : F < T := by
    rw [← hF, ← hTn]
    exact frstC_lt tp1 n
  have HLI : Hid (lineC m c t0 j = lineT T F (cellsC c) (cellsC c).length) := Lib.hid (by unfold lineC; rw [hTn, hn, hF])
  rw [hFi] at FM
  rw [hn]
  rw [← hTT] at a0 FM
  have hT2 : T = 2 ∨ T = 3 := by omega
  have hN4 : (cellsC c).length ≤ 400 := by omega
  have HX7 := Lib.hid hX7
  have HI7 := Lib.hid i7
  clear hF hFi hn hlr hlen hTT hTn hL hR
  generalize cellsC c = xs at *
  obtain ⟨N, hN⟩ : ∃ N, xs.length = N := ⟨_, rfl⟩
  have HN := Lib.hid hN
  rw [hN] at hN4 ⊢
  go_wp2_with fail
  refine FM.mono ?_
  rintro e w' ⟨rfl, rfl⟩
  clear FM
  obtain ⟨V, hV⟩ : ∃ V, V = w7.alloc (.cells #[] 2) := ⟨_, rfl⟩
  have hXV : Ext w7 V := by rw [hV]; exact Ext.alloc _ _
  have hown0 : V.ownsRow w7.heap.size 2 1 (.slice (some ⟨w7.heap.size, 0, none⟩) 0 0) (lineT T F xs (min F N)).length (ivs (lineT T F xs (min F N))) := by
    have e0 : lineT T F xs (min F N) = [] := by unfold lineT; rw [ixT_first hT2 (by omega) hFlt]; rfl
    rw [e0, hV]
    exact World.ownsRow_made (base := w7.heap.size) (e := 2) (size := 1) w7 #[] 0 (by simp) (by unfold maxLen; omega) (by simp [ivs])
  have HA0 := Lib.hid a0
  have a0V := hXV.cell a0
  clear a0
  go_wp2_with fail
  try rw [← hV]
  clear hV
  go_loopw [12, 13] (fun l i wr => ∃ k : Nat, i = .int .i64 (k : Int) ∧ k % T = F ∧ k < N + T ∧ Ext w7 wr ∧ wr.ownsRow w7.heap.size 2 1 l (lineT T F xs (min k N)).length (ivs (lineT T F xs (min k N)))) (fun _ i _ => N + T - (intOf i).toNat)
  case atStart => exact ⟨F, rfl, Nat.mod_eq_of_lt hFlt, by omega, hXV, hown0⟩
  case round =>
    obtain ⟨k, rfl, hkF, hkN, hE, ho⟩ := hrel
    have ik := HI7.out.ext hE
    have a0 : wr.cell? ⟨g, 0, none⟩ = some (.int .i64 (T : Int)) := hE.cell HA0.out
    clear hown0 hXV a0V
    have SZ := sizeInt_c (.slice A7 N c7) xs wr (by rw [← HN.out]; exact ik)
    rw [HN.out] at SZ
    by_cases hlt : k < N
    · have hmin : min k N = k := by omega
      rw [hmin] at ho
      obtain ⟨Al', cl', rfl, h3, h3', _⟩ := (ownsRow_row ho).form
      have hklt : k < xs.length := by rw [HN.out]; exact hlt
      obtain ⟨b, off, rfl, hc⟩ := ik.at hklt
      have ck := hc k hklt
      have hki : (k : Int) < (N : Int) := by omega
      have hgd : xs.getD k 0 = xs[k] := by rw [List.getD_eq_getElem?_getD, List.getElem?_eq_getElem hklt]; rfl
      have hnext : lineT T F xs (min (k + T) N) = lineT T F xs k ++ [xs[k]] := by rw [lineT_next hT2 hkF (by omega) (by omega), hgd]
      obtain ⟨y, hy⟩ : ∃ y, xs[k] = y := ⟨_, rfl⟩
      rw [hy] at ck hnext
      have hll := lineT_len T F xs k
      have HTK : Hid (ivs (lineT T F xs (min (k + T) N)) = ivs (lineT T F xs k) ++ [.int .i64 y]) := Lib.hid (by rw [hnext]; simp [ivs])
      have HTL : Hid ((lineT T F xs (min (k + T) N)).length = (lineT T F xs k).length + 1) := Lib.hid (by rw [hnext]; simp)
      have hwk : IntKind.i64.wrap ((k : Int) + (T : Int)) = (k : Int) + (T : Int) := IntWalk.i64_in _ (by omega)
      have hsz := hE.size
      have HA := Lib.hid a0
      clear hnext hy hc hgd ik hmin
      go_wp2_with fail
      refine SZ.mono ?_
      rintro e w' ⟨rfl, rfl⟩
      clear SZ
      go_wp2_with (at_builtin; refine wpList_append_own _ rfl _ _ 46 rfl w7.heap.size 2 i0 (.int .i64 0) 1 8 Tryz.underlying46 hi hz0 hz1 hz2 rfl (by decide) _ _ _ rfl (ho.alloc _) ⟨wr.heap.size, 0, none⟩ 1 1 [.int .i64 y] rfl rfl ?c1 ?c2 ?c3 ?c4 ?c5 ?_)
      case c1 => exact cell_one_new _ _ _
      case c2 => first | rfl | (intro u hu; simp at hu; subst hu; rfl)
      case c3 => first | omega | (unfold maxLen; omega)
      case c4 => omega
      case c5 => first | omega | (simp; omega)
      intro v' w3 hown' hgrow _
      have hX3 : Ext w7 w3 := hE.grown (grownBy_trans (World.grownBy_alloc _ _ _) hgrow) (fun b hb => (ho.lt b hb).1)
      have R : w3.ownsRow w7.heap.size 2 1 v' (lineT T F xs (min (k + T) N)).length (ivs (lineT T F xs (min (k + T) N))) := by rw [HTK.out, HTL.out]; exact hown'
      have a03 : w3.cell? ⟨g, 0, none⟩ = some (.int .i64 (T : Int)) := hX3.cell HA0.out
      clear hown' hgrow ho a0 HA
      go_wp2_with fail
      go_roundw
      case rel => exact ⟨k + T, by simp, by rw [Nat.add_mod_right]; exact hkF, by omega, hX3, R⟩
      case measure =>
        have hT0 : 0 < T := by omega
        simp [intOf]
        omega
    · have hmin : min k N = N := by omega
      rw [hmin] at ho
      obtain ⟨Al', cl', hv, h3, h3', _⟩ := (ownsRow_row ho).form
      subst hv
      have hge : ¬ (k : Int) < (N : Int) := by omega
      have HO : Hid (OwnInts w.heap.size wr (.slice Al' (lineT T F xs N).length cl') (lineC m c t0 j)) := Lib.hid (by
        rw [HLI.out, HN.out]
        exact ownsRow_base ho HX7.out.size)
      clear ho ik
      go_wp2_with fail
      refine SZ.mono ?_
      rintro e w' ⟨rfl, rfl⟩
      clear SZ
      go_wp2_with fail
      go_ret
      exact ⟨_, rfl, HO.out, HX7.out.trans hE⟩
end Go.Proofs.YtfghojbbofobeaaGreat
end
