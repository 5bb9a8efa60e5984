/- Contract of the reference's configuration with several tapes for one of the machine with one tape.
Contract of the reference's decoding of a configuration of the machine with one tape for several.
Contract: the reference's run of the machine with one tape for several, and the configuration with several tapes at its end. -/
import Derived.Test.YtfghojbbofobeaaGreatQ39
import Derived.Test.YtfghojbbofobeaaGreatQ33
import Derived.Test.YtfghojbbofobeaaGreatQ37
import Derived.Test.YtfghojbbofobeaaGreatQ36
import Derived.Test.YtfghojbbofobeaaGreatQ38
import Derived.Deep.RegionHeld3
import Derived.Deep.DeepCutAuto
section
set_option linter.unusedSimpArgs false
set_option linter.unusedVariables false
namespace Go.Proofs.YtfghojbbofobeaaGreat
open Go Go.RowKit Go.Proofs Go.Maps
set_option maxHeartbeats 400000
/-- The reference's result. -/
def DecResS (w : World) (r : MConfD × Int) (e : Ending) (w' : World) : Prop :=
  ∃ v, e = .returned (.tuple #[.agg #[.int .i64 r.1.q, v], .int .i64 r.2]) ∧ OwnT w.heap.size w' v r.1.tapes ∧ Ext w w'
theorem OwnT.void (base : Nat) (w : World) : OwnT base w (.slice none 0 0) [] := ⟨[], World.ownsRow_nil .., TCells.nil _ _⟩
theorem OwnT.base {base base' : Nat} {w : World} {v : Value} {ts : List TapeD} (h : OwnT base w v ts) (hb : base' ≤ base) : OwnT base' w v ts := by
  obtain ⟨cl, h1, h2, h3⟩ := h
  exact ⟨cl, ownsRow_base h1 hb, h2, fun i hi => by
    obtain ⟨x, y, c0, c1, o1, o2⟩ := h3 i hi
    exact ⟨x, y, c0, c1, ownsRow_base o1 hb, ownsRow_base o2 hb⟩⟩
theorem DecResS.fail {w w1 : World} {k : Int} {b : Nat} (hb : w.heap.size ≤ b) (hX : Ext w w1) (x y : Value) :
    DecResS w (⟨0, []⟩, k) (.returned (.tuple #[.agg #[.int .i64 0, .slice none 0 0], .int .i64 k])) ((w1.setCell ⟨b, 0, none⟩ x).setCell ⟨b, 1, none⟩ y) :=
  ⟨_, rfl, OwnT.void _ _, (hX.setCell hb _).setCell hb _⟩
theorem DecResS.done {w w1 : World} {q k : Int} {ts : List TapeD} {v : Value} {b base : Nat} {cs : Array Value} (hb : w.heap.size ≤ b) (hX : Ext w w1) (h : OwnT base w1 v ts) (hbb : w.heap.size ≤ base) (hB : Blk w1 b 30 cs) (x y : Value) :
    DecResS w (⟨q, ts⟩, k) (.returned (.tuple #[.agg #[.int .i64 q, v], .int .i64 k])) ((w1.setCell ⟨b, 0, none⟩ x).setCell ⟨b, 1, none⟩ y) :=
  ⟨_, rfl, ((h.base hbb).far hB (by decide) (by decide) 0 x).far (hB.set_ 0 x) (by decide) (by decide) 1 y, (hX.setCell hb _).setCell hb _⟩
theorem encM_three {m : MultiD} {p : MP} (h : p.k = 0) : (encM m p)[1]? = some p.a ∧ (encM m p)[2]? = some p.t := by
  unfold encM
  rw [if_pos h]
  exact ⟨rfl, rfl⟩
theorem encM_fst {m : MultiD} {p : MP} (hp : WOk m p) : (encM m p)[0]? = some p.k := by
  have := encM_head hp
  rwa [List.head?_eq_getElem?] at this
set_option maxRecDepth 20000 in
set_option maxHeartbeats 8000000 in
theorem l13Decode_c (base : Nat) (w : World) (bk b bc : Nat) (m : MultiD) (rs : List RuleD) (ps : List MP) (rv pv : Value) (vs : List Value) (c : ConfD)
    (h : MkM base w bk b m (2 * m.sy) ps.length rs ps rv pv vs) (hok : ∀ p ∈ ps, WOk m p) (l1 : 1 ≤ ps.length) (l2 : ps.length ≤ 1000) (hM : MulAt w b m) (hm : multiOk m = true) (hC : ConfP w bc c) :
    Calls Tryz.prog 24 #[.pointer (some ⟨bk, 0, none⟩), .pointer (some ⟨bc, 0, none⟩)] w (DecResS w (if confB ⟨2 * m.sy, ps.length, rs⟩ c then decOne m (ps.getD c.q.toNat mp0) c else (⟨0, []⟩, 2))) := by
  obtain ⟨i0, hi0, hz0, hz1, hz2⟩ := info_parts tapeInfo
  obtain ⟨⟨tp1, tp2⟩, ⟨y1, y2⟩, _⟩ := multi_all hm
  obtain ⟨Ap, cp, rfl, hp1, hp2, _⟩ := (ownsRow_row h.places).form
  obtain ⟨R, hR⟩ : ∃ R, R = (if confB ⟨2 * m.sy, ps.length, rs⟩ c then decOne m (ps.getD c.q.toNat mp0) c else (⟨0, []⟩, 2)) := ⟨_, rfl⟩
  rw [← hR]
  have HR := Lib.hid hR
  obtain ⟨g, hg⟩ : ∃ g, w.heap.size = g := ⟨_, rfl⟩
  obtain ⟨W, hW⟩ : ∃ W, W = w.alloc (.cells #[.int .i64 0, .slice none 0 0] 30) := ⟨_, rfl⟩
  have hX : Ext w W := by rw [hW]; exact Ext.alloc _ _
  have bO : Blk W g 30 #[.int .i64 0, .slice none 0 0] := by rw [hW]; exact Blk.new _ _ _ _ hg
  have hwg : w.heap.size ≤ g := by omega
  have x4 := (h.blk.ext hX).cell 4
  have x5 := (h.blk.ext hX).cell 5
  simp only [List.getElem?_toArray, List.getElem?_cons_zero, List.getElem?_cons_succ] at x4 x5
  have GD := l05Good_c bk 4 bc ⟨2 * m.sy, ps.length, rs⟩ c W x4 x5 (hC.ext hX) (by show (1 : Int) ≤ 2 * m.sy; omega) (by show 2 * m.sy ≤ 1000000; omega) (by show (1 : Int) ≤ (ps.length : Int); omega) (by show (ps.length : Int) ≤ 1000; omega)
  clear x4 x5 hR
  go_enter Tryz.func24, Tryz.ntmps24
  go_wp2_with fail
  try rw [← hW]
  try rw [hg]
  clear hW
  refine GD.mono ?_
  rintro e w1 ⟨rfl, hx1⟩
  clear GD
  have hX1 := hX.trans hx1
  have bO1 := bO.ext hx1
  cases hc : confB ⟨2 * m.sy, ps.length, rs⟩ c with
  | false =>
    have HE : Hid (R = (⟨0, []⟩, 2)) := Lib.hid (by rw [HR.out, hc]; rfl)
    have ob := bO1.cell
    have of_ := bO1.frozen
    clear hc
    go_wp2_with fail
    rw [HE.out]
    exact bodyPost_ret (v := .tuple #[.agg #[.int .i64 0, .slice none 0 0], .int .i64 2]) (by simp [results, Tryz.results24, go_sem, ob]) rfl (DecResS.fail hwg hX1 _ _)
  | true =>
    obtain ⟨⟨q0, q1⟩, ⟨b1, b2⟩, ⟨b3, b4⟩⟩ := conf_allM hc
    obtain ⟨i, hi⟩ : ∃ i : Nat, c.q = i := ⟨c.q.toNat, by omega⟩
    have hil : i < ps.length := by omega
    obtain ⟨p, hp⟩ : ∃ p, ps[i] = p := ⟨_, rfl⟩
    have hpg : ps[i]? = some p := by rw [List.getElem?_eq_getElem hil, hp]
    have HE : Hid (R = decOne m p c) := Lib.hid (by
      rw [HR.out, hc, hi, Int.toNat_natCast, List.getD_eq_getElem?_getD, hpg]
      rfl)
    have hpk : WOk m p := hok p (by rw [← hp]; exact List.getElem_mem hil)
    obtain ⟨u, hu, hou⟩ := h.rows i p hpg
    obtain ⟨lv, qv, c0, c1, c2, hl, hr⟩ := hC
    have HC : Hid (ConfP w bc c) := Lib.hid ⟨lv, qv, c0, c1, c2, hl, hr⟩
    rw [hi] at c0
    have HB1 : Hid (∀ z ∈ c.l, 0 ≤ z ∧ z ≤ 2 * m.sy - 1) := Lib.hid fun z hz => by have := b2 z hz; omega
    have HB2 : Hid (∀ z ∈ c.r, 0 ≤ z ∧ z ≤ 2 * m.sy - 1) := Lib.hid fun z hz => by have := b4 z hz; omega
    have e0 := encM_fst (m := m) hpk
    have HK3 : Hid (p.k = 0 → (encM m p)[1]? = some p.a ∧ (encM m p)[2]? = some p.t) := Lib.hid encM_three
    have ht0 : 0 ≤ p.t := hpk.t0
    have ht1 : p.t < m.tp := hpk.t1
    obtain ⟨gp, rfl, _, _⟩ := own_at h.places (by omega)
    have k0 : w.cell? ⟨gp, i, none⟩ = some u := (World.ownsRow.cellAt h.places i (by have := h.places.1; omega)).trans hu
    obtain ⟨n, hn⟩ : ∃ n, (encM m p).length = n := ⟨_, rfl⟩
    obtain ⟨Au, cu, rfl, _, _⟩ := id hou.ints.form
    have hn0 : 0 < (encM m p).length := (List.getElem?_eq_some_iff.1 e0).1
    obtain ⟨gu, rfl, _, _⟩ := own_at hou hn0
    have kc : ∀ (q : Nat) (z : Int), (encM m p)[q]? = some z → w.cell? ⟨gu, q, none⟩ = some (.int .i64 z) := fun q z hz => by
      have hq := (List.getElem?_eq_some_iff.1 hz).1
      rw [World.ownsRow.cellAt hou q (by simpa using hq)]
      simp only [ivs, List.getElem?_map, hz]
      rfl
    rw [hn] at k0 hn0
    have u0 := kc 0 _ e0
    have HU1 : Hid (p.k = 0 → w.cell? ⟨gu, 1, none⟩ = some (.int .i64 p.a) ∧ w.cell? ⟨gu, 2, none⟩ = some (.int .i64 p.t) ∧ 2 < n) := Lib.hid fun hk => by
      obtain ⟨a1, a2⟩ := HK3.out hk
      exact ⟨kc 1 _ a1, kc 2 _ a2, by rw [← hn]; exact (List.getElem?_eq_some_iff.1 a2).1⟩
    have x3 := (h.blk.ext hX1).cell 3
    have x1 := (h.blk.ext hX1).cell 1
    simp only [List.getElem?_toArray, List.getElem?_cons_zero, List.getElem?_cons_succ] at x3 x1
    have HX1b := Lib.hid x1
    have HMM := Lib.hid (hM.ext hX1)
    have j1 : (0 : Int) ≤ (i : Int) := by omega
    have j2 : (i : Int) < (ps.length : Int) := by omega
    have zD := Ext.drew w1
    have d0 := zD.cell (hX1.cell c0)
    have d3 := zD.cell x3
    have dk := zD.cell (hX1.cell k0)
    have HI := Lib.hid hi
    clear hc hi hp hpg e0 hn kc x1 x3 c0 c1 c2 hl hr hou hu h q0 q1 b2 b4 k0
    go_upto_region 3 with fail
    refine wp_region_ordT 10 (readsT [0, 1, 2, 3, 4, 5, 6, 7, 8, 9] .done) (by kernel_rfl) (by kernel_rfl) (fun _ _ _ _ _ h => h) ?_
    simp only [readsT]
    iterate 10 (refine wpOrdT_read (v := ?_) (by rfl) (Or.inl ⟨by rfl, fun x hx => ?_⟩) ?_; rotate_left; (· have u0 := hx.cell d0; have u1 := hx.cell d3; have u2 := hx.cell dk; go_simp; try with_reducible rfl); try simp only [Act.put, List.setIfInBounds_toArray, List.set_cons_zero, List.set_cons_succ])
    refine wpOrdT_done ?_
    try simp only [List.drop_succ_cons, List.drop_zero]
    change wpList _ _ _ _ _ w1.drew
    have hX2 := hX1.trans zD
    have hxW := hx1.trans zD
    have bO2 := bO1.ext zD
    have v0 := hX2.cell u0
    clear d0 d3 dk
    generalize w1.drew = V at *
    obtain ⟨pk, pa, pt, pc, pf0, pf1, pf2, pd⟩ := p
    simp only at v0 ht0 ht1 HU1
    by_cases hk : pk = 0
    · obtain ⟨w1', w2', hn2⟩ := HU1.out hk
      have v1 := hX2.cell w1'
      have v2 := hX2.cell w2'
      clear HU1 w1' w2'
      subst hk
      have hn1 : 1 < n := by omega
      have hn1i : (1 : Int) < (n : Int) := by omega
      have hn2i : (2 : Int) < (n : Int) := by omega
      have hn0i : (0 : Int) < (n : Int) := by omega
      have HK : Hid (R = match decTapes m c pt m.tp.toNat with | some ts => (⟨pa, ts⟩, 0) | none => (⟨0, []⟩, 9)) := Lib.hid (by rw [HE.out]; unfold decOne; simp only [if_true]; cases decTapes m c pt m.tp.toNat <;> rfl)
      obtain ⟨gv, hgv⟩ : ∃ gv, V.heap.size = gv := ⟨_, rfl⟩
      obtain ⟨U, hU⟩ : ∃ U, U = (V.alloc (.cells #[] 106)).alloc (.cells #[.int .i64 pa, .slice (some ⟨gv, 0, none⟩) 0 0] 30) := ⟨_, rfl⟩
      have hXU : Ext V U := by rw [hU]; exact (Ext.alloc _ _).trans (Ext.alloc _ _)
      have bT : Blk U (gv + 1) 30 #[.int .i64 pa, .slice (some ⟨gv, 0, none⟩) 0 0] := by rw [hU]; exact Blk.new _ _ _ _ (by simp [hgv])
      have o0 : OwnT gv U (.slice (some ⟨gv, 0, none⟩) 0 0) [] := by
        have h1 := World.ownsRow_made (base := gv) (e := 106) (size := 2) V #[] 0 (by rw [hgv]; exact Nat.le_refl _) (by unfold maxLen; omega) (by simp)
        rw [hgv] at h1
        have h2 : OwnT gv (V.alloc (.cells #[] 106)) (.slice (some ⟨gv, 0, none⟩) 0 0) [] := ⟨[], h1, TCells.nil _ _⟩
        rw [hU]
        exact h2.ext (Ext.alloc _ _)
      have HGV := Lib.hid hgv
      have HXV := Lib.hid hX2
      have HBO := Lib.hid bO2
      have HV2 := Lib.hid v2
      have HX1V := Lib.hid (zD.cell HX1b.out)
      have HMV := Lib.hid (HMM.out.ext zD)
      have HCV := Lib.hid (HC.out.ext hX2)
      clear hX1 hX hx1 zD bO bO1 bO2 hM
      have HC := HCV
      go_wp2_with fail
      try rw [← hU]
      try rw [hgv]
      clear hU hgv
      go_loopw [8] (fun u wr => ∃ (k : Nat) (ts : List TapeD) (v : Value), (k : Int) ≤ m.tp ∧ u = .int .i64 (k : Int) ∧ decTapes m c pt k = some ts ∧ OwnT gv wr v ts ∧ Ext V wr ∧ Blk wr (gv + 1) 30 #[.int .i64 pa, v]) (fun u _ => m.tp.toNat - (intOf u).toNat)
      case atStart => exact ⟨0, [], _, by show (0 : Int) ≤ m.tp; omega, rfl, rfl, o0, hXU, bT⟩
      case round =>
        clear hXU bT o0 v0 v1 v2
        obtain ⟨k, ts, v, hk, rfl, hdt, st, hx, bT⟩ := hrel
        obtain ⟨Av, cv, rfl, _, _⟩ := st.form
        have hXwr := HXV.out.trans hx
        have HMr := HMV.out.ext hx
        obtain ⟨Am, cm, bMr, _⟩ := id HMr
        have m0 := bMr.cell 0
        have x1 := hx.cell HX1V.out
        simp only [List.getElem?_toArray, List.getElem?_cons_zero, List.getElem?_cons_succ] at m0
        have bO3 := HBO.out.ext hx
        by_cases hlt : (k : Int) < m.tp
        · have HD := Lib.hid hdt
          have hts3 : ts.length ≤ 3 := by have := decTapes_len hdt; omega
          have u2 := hx.cell HV2.out
          have HFA : Hid (tapeDec m.sy (lineC m c pt (k : Int)) = none → R = (⟨0, []⟩, 9)) := Lib.hid fun hh => by rw [HK.out, decTapes_fail hh (show k < m.tp.toNat by omega)]
          have HGO : Hid (∀ t, tapeDec m.sy (lineC m c pt (k : Int)) = some t → decTapes m c pt (k + 1) = some (ts ++ [t])) := Lib.hid fun t ht => decTapes_next HD.out ht
          have RT := fun (x : World) (hxx : Ext wr.drew x) => l13Tape_c b bc m c pt (k : Int) x (HMr.ext ((Ext.drew wr).trans hxx)) hm (HC.out.ext (hx.trans ((Ext.drew wr).trans hxx))) b1 b3 ht0 ht1 (by omega) hlt HB1.out HB2.out
          obtain ⟨D, hD⟩ : ∃ D, tapeDec m.sy (lineC m c pt (k : Int)) = D := ⟨_, rfl⟩
          rw [hD] at HFA HGO
          have RT2 : ∀ (x : World), Ext wr.drew x → Calls Tryz.prog 54 #[.pointer (some ⟨b, 0, none⟩), .pointer (some ⟨bc, 0, none⟩), .int .i64 pt, .int .i64 (k : Int)] x (TapeResS x D) := fun x hxx => by rw [← hD]; exact RT x hxx
          have hmeas : m.tp.toNat - (k + 1) < m.tp.toNat - k := by omega
          have hkw : IntKind.i64.wrap ((k : Int) + 1) = (k : Int) + 1 := IntWalk.i64_in _ (by omega)
          clear hdt hD RT
          have zD := Ext.drew wr
          have y1 := zD.cell x1
          have y2 := zD.cell u2
          go_upto_region 10 with fail
          refine wp_region_ordT 15 (readsT [0, 1, 2, 3, 4, 5, 6, 7, 8] (.fork 9 (readsT [10, 11, 12] (.stir 13 (.stir 14 .done))) 13 (.stir 9 (readsT [10, 11, 12] (.stir 14 .done))))) (by kernel_rfl) (by kernel_rfl) (fun _ _ _ _ _ h => h) ?_
          simp only [readsT]
          iterate 9 (refine wpOrdT_read (v := ?_) (by rfl) (Or.inl ⟨by rfl, fun x hx => ?_⟩) ?_; rotate_left; (· have u0 := hx.cell y1; have u1 := hx.cell y2; go_simp; try with_reducible rfl); try simp only [Act.put, List.setIfInBounds_toArray, List.set_cons_zero, List.set_cons_succ])
          have hxY := hx.trans zD
          have bTY := bT.ext zD
          have stY := st.ext zD
          have bOY := bO3.ext zD
          clear x1 u2 y1 y2 m0 bMr HMr hXwr hx bT st bO3 zD
          generalize wr.drew = Y at *
          refine wpOrdT_forks (by rfl) (by rfl) (fun K hK => ?_) (fun K hK => ?_)
          · go_simp
            go_at_call 54
            refine (RT2 _ (Ext.refl _)).mono ?_
            rintro e w5 ⟨hres, hx5⟩
            rcases hres with ⟨hnn, rfl⟩ | ⟨t, lv, rv', hss, rfl, ol, or⟩
            · obtain ⟨Z, hZ⟩ : ∃ Z, Z = w5.alloc (.cells #[.slice none 0 0, .slice none 0 0] 106) := ⟨_, rfl⟩
              have hYZ : Ext Y Z := by rw [hZ]; exact hx5.trans (Ext.alloc _ _)
              refine hK (Ext Y) _ _ (fun _ h => h) hx5 ?_
              clear hK K
              try simp only [Act.put, List.setIfInBounds_toArray, List.set_cons_zero, List.set_cons_succ]
              iterate 3 (refine wpOrdT_read (v := ?_) (by rfl) (Or.inl ⟨by rfl, fun x hx => ?_⟩) ?_; rotate_left; (· go_simp; try with_reducible rfl); try simp only [Act.put, List.setIfInBounds_toArray, List.set_cons_zero, List.set_cons_succ])
              refine wpOrdT_keep (by rfl) (fun K hK => ?_)
              go_simp
              refine hK _ _ (hx5.trans (Ext.alloc _ _)) ?_
              clear hK K
              try simp only [Act.put, List.setIfInBounds_toArray, List.set_cons_zero, List.set_cons_succ]
              refine wpOrdT_keep (by rfl) (fun K hK => ?_)
              go_simp
              try rw [← hZ]
              refine hK _ _ hYZ ?_
              clear hK K hZ
              try simp only [Act.put, List.setIfInBounds_toArray, List.set_cons_zero, List.set_cons_succ]
              refine wpOrdT_done ?_
              try simp only [List.drop_succ_cons, List.drop_zero]
              have HE9 : Hid (R = (⟨0, []⟩, 9)) := Lib.hid (HFA.out hnn)
              have bO6 := bOY.ext hYZ
              have ob := bO6.cell
              have of_ := bO6.frozen
              have hXf : Ext w Z := HXV.out.trans (hxY.trans hYZ)
              clear hnn
              go_wp2_with fail
              rw [HE9.out]
              exact bodyPost_ret (v := .tuple #[.agg #[.int .i64 0, .slice none 0 0], .int .i64 9]) (by simp [results, Tryz.results24, go_sem, ob]) rfl (DecResS.fail hwg hXf _ _)
            · obtain ⟨A5, c5, rfl, _, _⟩ := ol.ints.form
              obtain ⟨A7, c7, rfl, _, _⟩ := or.ints.form
              have hgY : gv ≤ Y.heap.size := by have := hxY.size; rw [HGV.out] at this; exact this
              obtain ⟨Z, hZ⟩ : ∃ Z, Z = w5.alloc (.cells #[.slice A5 t.l.length c5, .slice A7 t.r.length c7] 106) := ⟨_, rfl⟩
              have hYZ : Ext Y Z := by rw [hZ]; exact hx5.trans (Ext.alloc _ _)
              obtain ⟨gz, hgz⟩ : ∃ gz, w5.heap.size = gz := ⟨_, rfl⟩
              have bZ : Blk Z gz 106 #[.slice A5 t.l.length c5, .slice A7 t.r.length c7] := by rw [hZ]; exact Blk.new _ _ _ _ hgz
              have olZ : OwnInts gv Z (.slice A5 t.l.length c5) t.l := by rw [hZ]; exact OwnInts.ext (ownsRow_base ol hgY) (Ext.alloc _ _)
              have orZ : OwnInts gv Z (.slice A7 t.r.length c7) t.r := by rw [hZ]; exact OwnInts.ext (ownsRow_base or hgY) (Ext.alloc _ _)
              refine hK (Ext Y) _ _ (fun _ h => h) hx5 ?_
              clear hK K
              try simp only [Act.put, List.setIfInBounds_toArray, List.set_cons_zero, List.set_cons_succ]
              iterate 3 (refine wpOrdT_read (v := ?_) (by rfl) (Or.inl ⟨by rfl, fun x hx => ?_⟩) ?_; rotate_left; (· go_simp; try with_reducible rfl); try simp only [Act.put, List.setIfInBounds_toArray, List.set_cons_zero, List.set_cons_succ])
              refine wpOrdT_keep (by rfl) (fun K hK => ?_)
              go_simp
              refine hK _ _ (hx5.trans (Ext.alloc _ _)) ?_
              clear hK K
              try simp only [Act.put, List.setIfInBounds_toArray, List.set_cons_zero, List.set_cons_succ]
              refine wpOrdT_keep (by rfl) (fun K hK => ?_)
              go_simp
              try rw [hgz]
              clear hgz
              try rw [← hZ]
              refine hK _ _ hYZ ?_
              clear hK K hZ
              try simp only [Act.put, List.setIfInBounds_toArray, List.set_cons_zero, List.set_cons_succ]
              refine wpOrdT_done ?_
              try simp only [List.drop_succ_cons, List.drop_zero]
              have HG := Lib.hid (HGO.out _ hss)
              have hxZ := hxY.trans hYZ
              have bTZ := bTY.ext hYZ
              have stZ := stY.ext hYZ
              have z0 := bZ.cell 0
              have z1 := bZ.cell 1
              have t1 := bTZ.cell 1
              simp only [List.getElem?_toArray, List.getElem?_cons_zero, List.getElem?_cons_succ] at z0 z1 t1
              obtain ⟨cl, ho, htc⟩ := stZ
              have eA := Ext.alloc Z (.cells #[.slice A5 t.l.length c5, .slice A7 t.r.length c7] 106)
              have ho4 := ownsRow_ext ho eA
              have hNL := (TCells.snoc htc olZ orZ).ext eA
              have bT4 := bTZ.ext eA
              have hx4 := hxZ.trans eA
              have hsV : gv ≤ Z.heap.size := by have := hxZ.size; rw [HGV.out] at this; exact this
              go_wp2_with (at_builtin; refine wpList_append_own_at _ rfl _ _ 28 rfl gv 106 i0 (.agg #[.slice none 0 0, .slice none 0 0]) 2 48 Tryz.underlying28 hi0 hz0 hz1 hz2 rfl (by decide) _ _ cl rfl ho4 ⟨Z.heap.size, 0, none⟩ 1 1 [.slice A5 t.l.length c5, .slice A7 t.r.length c7] rfl rfl (World.news_of_block (heap_alloc_new Z _)) ?c2 ?c3 ?c4 ?c5 ?_)
              case c2 => first | exact ⟨rfl, rfl⟩ | (intro u hu; simp at hu; rcases hu with rfl | rfl <;> rfl)
              case c3 => unfold maxLen; omega
              case c4 => omega
              case c5 => first | omega | (simp; omega)
              intro v' w9 hown9 hg9 _ _
              obtain ⟨A9, c9, rfl, _, _, _⟩ := (ownsRow_row hown9).form
              have HS : OwnT gv w9 (.slice A9 (ts.length + 1) c9) (ts ++ [t]) := by
                refine ⟨_, ?_, hNL.same fun q cs hq => hg9.block q hq.lt (blk_ne_row hq ho4 (by decide))⟩
                rw [List.length_append, List.length_singleton]
                exact hown9
              have bT9 := Blk.apart bT4 ho4 (by decide) hg9
              have hx9 : Ext V w9 := hx4.grown hg9 (fun q hq => by rw [HGV.out]; exact (ho4.lt q hq).1)
              have q9 := bT9.cell 1
              have qf := bT9.frozen 1
              simp only [List.getElem?_toArray, List.getElem?_cons_zero, List.getElem?_cons_succ] at q9
              have HS9 := Lib.hid (HS.far bT9 (by decide) (by decide) 1 (.slice A9 (ts.length + 1) c9))
              have HX9 := Lib.hid (hx9.setCell (p := ⟨gv + 1, 1, none⟩) (by show V.heap.size ≤ gv + 1; rw [HGV.out]; omega) (.slice A9 (ts.length + 1) c9))
              have HC9 := Lib.hid (bT9.set_ 1 (.slice A9 (ts.length + 1) c9))
              clear ho4 hNL bT4 hx4 hown9 hg9 HS bT9 hx9 eA ho htc olZ orZ z0 z1 t1 bTZ hss
              go_wp2_with fail
              go_roundw
              case rel => exact ⟨k + 1, _, _, by omega, by go_num, HG.out, HS9.out, HX9.out, HC9.out⟩
              case measure => simp [intOf]; omega
          · go_simp
            refine hK (Ext Y) _ _ (fun _ h => h) (Ext.alloc _ _) ?_
            clear hK K
            try simp only [Act.put, List.setIfInBounds_toArray, List.set_cons_zero, List.set_cons_succ]
            refine wpOrdT_keep (by rfl) (fun K hK => ?_)
            go_simp
            go_at_call 54
            have hgY0 : gv ≤ Y.heap.size := by have := hxY.size; rw [HGV.out] at this; exact this
            have bz0 : Blk (Y.alloc (.cells #[.slice none 0 0, .slice none 0 0] 106)) Y.heap.size 106 #[.slice none 0 0, .slice none 0 0] := Blk.new _ _ _ _ rfl
            refine (RT2 _ (Ext.alloc _ _)).mono ?_
            rintro e w5 ⟨hres, hx5⟩
            have bz5 := bz0.ext hx5
            have zf := bz5.frozen
            have zc := bz5.cell
            have hszY : Y.heap.size ≤ (Y.alloc (.cells #[.slice none 0 0, .slice none 0 0] 106)).heap.size := (Ext.alloc _ _).size
            obtain ⟨gz, hgz⟩ : ∃ gz, Y.heap.size = gz := ⟨_, rfl⟩
            rw [hgz] at bz5 zf zc
            rcases hres with ⟨hnn, rfl⟩ | ⟨t, lv, rv', hss, rfl, ol, or⟩
            · obtain ⟨Z, hZ⟩ : ∃ Z, Z = (w5.setCell ⟨gz, 0, none⟩ (.slice none 0 0)).setCell ⟨gz, 1, none⟩ (.slice none 0 0) := ⟨_, rfl⟩
              have hgz2 : Y.heap.size ≤ gz := by omega
              have hYZ : Ext Y Z := by rw [hZ]; exact ((((Ext.alloc _ _).trans hx5).setCell (p := ⟨gz, 0, none⟩) hgz2 _).setCell (p := ⟨gz, 1, none⟩) hgz2 _)
              try rw [hgz]
              clear hgz
              refine hK _ _ ((Ext.alloc _ _).trans hx5) ?_
              clear hK K
              try simp only [Act.put, List.setIfInBounds_toArray, List.set_cons_zero, List.set_cons_succ]
              iterate 3 (refine wpOrdT_read (v := ?_) (by rfl) (Or.inl ⟨by rfl, fun x hx => ?_⟩) ?_; rotate_left; (· go_simp; try with_reducible rfl); try simp only [Act.put, List.setIfInBounds_toArray, List.set_cons_zero, List.set_cons_succ])
              refine wpOrdT_keep (by rfl) (fun K hK => ?_)
              go_simp
              try rw [← hZ]
              refine hK _ _ hYZ ?_
              clear hK K hZ
              try simp only [Act.put, List.setIfInBounds_toArray, List.set_cons_zero, List.set_cons_succ]
              refine wpOrdT_done ?_
              try simp only [List.drop_succ_cons, List.drop_zero]
              have HE9 : Hid (R = (⟨0, []⟩, 9)) := Lib.hid (HFA.out hnn)
              have bO6 := bOY.ext hYZ
              have ob := bO6.cell
              have of_ := bO6.frozen
              have hXf : Ext w Z := HXV.out.trans (hxY.trans hYZ)
              clear hnn
              go_wp2_with fail
              rw [HE9.out]
              exact bodyPost_ret (v := .tuple #[.agg #[.int .i64 0, .slice none 0 0], .int .i64 9]) (by simp [results, Tryz.results24, go_sem, ob]) rfl (DecResS.fail hwg hXf _ _)
            · obtain ⟨A5, c5, rfl, _, _⟩ := ol.ints.form
              obtain ⟨A7, c7, rfl, _, _⟩ := or.ints.form
              have hgY : gv ≤ Y.heap.size := by have := hxY.size; rw [HGV.out] at this; exact this
              have hs5 : gv ≤ (Y.alloc (.cells #[.slice none 0 0, .slice none 0 0] 106)).heap.size := Nat.le_trans hgY0 hszY
              obtain ⟨Z, hZ⟩ : ∃ Z, Z = (w5.setCell ⟨gz, 0, none⟩ (.slice A5 t.l.length c5)).setCell ⟨gz, 1, none⟩ (.slice A7 t.r.length c7) := ⟨_, rfl⟩
              have hgz2 : Y.heap.size ≤ gz := by omega
              have hYZ : Ext Y Z := by rw [hZ]; exact ((((Ext.alloc _ _).trans hx5).setCell (p := ⟨gz, 0, none⟩) hgz2 _).setCell (p := ⟨gz, 1, none⟩) hgz2 _)
              have bZ : Blk Z gz 106 #[.slice A5 t.l.length c5, .slice A7 t.r.length c7] := by rw [hZ]; exact (bz5.set_ 0 _).set_ 1 _
              have olZ : OwnInts gv Z (.slice A5 t.l.length c5) t.l := by rw [hZ]; exact own_setM (bz5.set_ 0 _) (by decide) (own_setM bz5 (by decide) (ownsRow_base ol hs5) 0 _) 1 _
              have orZ : OwnInts gv Z (.slice A7 t.r.length c7) t.r := by rw [hZ]; exact own_setM (bz5.set_ 0 _) (by decide) (own_setM bz5 (by decide) (ownsRow_base or hs5) 0 _) 1 _
              try rw [hgz]
              clear hgz
              refine hK _ _ ((Ext.alloc _ _).trans hx5) ?_
              clear hK K
              try simp only [Act.put, List.setIfInBounds_toArray, List.set_cons_zero, List.set_cons_succ]
              iterate 3 (refine wpOrdT_read (v := ?_) (by rfl) (Or.inl ⟨by rfl, fun x hx => ?_⟩) ?_; rotate_left; (· go_simp; try with_reducible rfl); try simp only [Act.put, List.setIfInBounds_toArray, List.set_cons_zero, List.set_cons_succ])
              refine wpOrdT_keep (by rfl) (fun K hK => ?_)
              go_simp
              try rw [← hZ]
              refine hK _ _ hYZ ?_
              clear hK K hZ
              try simp only [Act.put, List.setIfInBounds_toArray, List.set_cons_zero, List.set_cons_succ]
              refine wpOrdT_done ?_
              try simp only [List.drop_succ_cons, List.drop_zero]
              have HG := Lib.hid (HGO.out _ hss)
              have hxZ := hxY.trans hYZ
              have bTZ := bTY.ext hYZ
              have stZ := stY.ext hYZ
              have z0 := bZ.cell 0
              have z1 := bZ.cell 1
              have t1 := bTZ.cell 1
              simp only [List.getElem?_toArray, List.getElem?_cons_zero, List.getElem?_cons_succ] at z0 z1 t1
              obtain ⟨cl, ho, htc⟩ := stZ
              have eA := Ext.alloc Z (.cells #[.slice A5 t.l.length c5, .slice A7 t.r.length c7] 106)
              have ho4 := ownsRow_ext ho eA
              have hNL := (TCells.snoc htc olZ orZ).ext eA
              have bT4 := bTZ.ext eA
              have hx4 := hxZ.trans eA
              have hsV : gv ≤ Z.heap.size := by have := hxZ.size; rw [HGV.out] at this; exact this
              go_wp2_with (at_builtin; refine wpList_append_own_at _ rfl _ _ 28 rfl gv 106 i0 (.agg #[.slice none 0 0, .slice none 0 0]) 2 48 Tryz.underlying28 hi0 hz0 hz1 hz2 rfl (by decide) _ _ cl rfl ho4 ⟨Z.heap.size, 0, none⟩ 1 1 [.slice A5 t.l.length c5, .slice A7 t.r.length c7] rfl rfl (World.news_of_block (heap_alloc_new Z _)) ?c2 ?c3 ?c4 ?c5 ?_)
              case c2 => first | exact ⟨rfl, rfl⟩ | (intro u hu; simp at hu; rcases hu with rfl | rfl <;> rfl)
              case c3 => unfold maxLen; omega
              case c4 => omega
              case c5 => first | omega | (simp; omega)
              intro v' w9 hown9 hg9 _ _
              obtain ⟨A9, c9, rfl, _, _, _⟩ := (ownsRow_row hown9).form
              have HS : OwnT gv w9 (.slice A9 (ts.length + 1) c9) (ts ++ [t]) := by
                refine ⟨_, ?_, hNL.same fun q cs hq => hg9.block q hq.lt (blk_ne_row hq ho4 (by decide))⟩
                rw [List.length_append, List.length_singleton]
                exact hown9
              have bT9 := Blk.apart bT4 ho4 (by decide) hg9
              have hx9 : Ext V w9 := hx4.grown hg9 (fun q hq => by rw [HGV.out]; exact (ho4.lt q hq).1)
              have q9 := bT9.cell 1
              have qf := bT9.frozen 1
              simp only [List.getElem?_toArray, List.getElem?_cons_zero, List.getElem?_cons_succ] at q9
              have HS9 := Lib.hid (HS.far bT9 (by decide) (by decide) 1 (.slice A9 (ts.length + 1) c9))
              have HX9 := Lib.hid (hx9.setCell (p := ⟨gv + 1, 1, none⟩) (by show V.heap.size ≤ gv + 1; rw [HGV.out]; omega) (.slice A9 (ts.length + 1) c9))
              have HC9 := Lib.hid (bT9.set_ 1 (.slice A9 (ts.length + 1) c9))
              clear ho4 hNL bT4 hx4 hown9 hg9 HS bT9 hx9 eA ho htc olZ orZ z0 z1 t1 bTZ hss
              go_wp2_with fail
              go_roundw
              case rel => exact ⟨k + 1, _, _, by omega, by go_num, HG.out, HS9.out, HX9.out, HC9.out⟩
              case measure => simp [intOf]; omega
        · have hkt : (k : Int) = m.tp := by omega
          have hkn : m.tp.toNat = k := by omega
          have HE9 : Hid (R = (⟨pa, ts⟩, 0)) := Lib.hid (by rw [HK.out, hkn, hdt])
          have ob := bO3.cell
          have of_ := bO3.frozen
          have t0' := bT.cell 0
          have t1' := bT.cell 1
          simp only [List.getElem?_toArray, List.getElem?_cons_zero, List.getElem?_cons_succ] at t0' t1'
          have hge : ¬ (k : Int) < m.tp := by omega
          have ST := Lib.hid st
          have hgvw : w.heap.size ≤ gv := by have := HXV.out.size; rw [HGV.out] at this; exact this
          clear hkt hkn hdt st bT hlt hk
          go_wp2
          rw [HE9.out]
          exact bodyPost_ret (v := .tuple #[.agg #[.int .i64 pa, .slice Av ts.length cv], .int .i64 0]) (by simp [results, Tryz.results24, go_sem, ob]) rfl (DecResS.done hwg hXwr ST.out hgvw bO3 _ _)
    · have HN : Hid (R = (⟨0, []⟩, 6)) := Lib.hid (by rw [HE.out]; unfold decOne; simp only; rw [if_neg hk])
      have ob := bO2.cell
      have of_ := bO2.frozen
      have hn0i : (0 : Int) < (n : Int) := by omega
      go_wp2
      rw [HN.out]
      exact bodyPost_ret (v := .tuple #[.agg #[.int .i64 0, .slice none 0 0], .int .i64 6]) (by simp [results, Tryz.results24, go_sem, ob]) rfl (DecResS.fail hwg hX2 _ _)
end Go.Proofs.YtfghojbbofobeaaGreat
end
section
set_option linter.unusedSimpArgs false
set_option linter.unusedVariables false
namespace Go.Proofs.YtfghojbbofobeaaGreat
open Go Go.RowKit Go.Proofs Go.Maps
set_option maxHeartbeats 400000
theorem DecResS.over {w w0 w1 : World} {r : MConfD × Int} {v : Value} {b : Nat} {cs : Array Value} (hb : w.heap.size ≤ b) (hX0 : Ext w w0) (hX : Ext w0 w1) (h : OwnT w0.heap.size w1 v r.1.tapes) (hB : Blk w1 b 30 cs) (x y : Value) :
    DecResS w r (.returned (.tuple #[.agg #[.int .i64 r.1.q, v], .int .i64 r.2])) ((w1.setCell ⟨b, 0, none⟩ x).setCell ⟨b, 1, none⟩ y) :=
  DecResS.done (q := r.1.q) (k := r.2) hb (hX0.trans hX) h hX0.size hB x y
end Go.Proofs.YtfghojbbofobeaaGreat
end
section
set_option linter.unusedSimpArgs false
set_option linter.unusedVariables false
namespace Go.Proofs.YtfghojbbofobeaaGreat
open Go Go.RowKit Go.Proofs Go.Maps
set_option maxHeartbeats 400000
/-- What the reference's run gives. -/
def RunTR (w : World) (R : ROut) (e : Ending) (w' : World) : Prop :=
  ∃ v, e = .returned (.tuple #[.agg #[.int .i64 R.c.q, v], .int .i64 R.n, .bool R.h, .int .i64 R.k]) ∧ OwnT w.heap.size w' v R.c.tapes ∧ Ext w w'
def RunOutT (w : World) (m : MultiD) (ws : List (List Int)) (b : Int) (e : Ending) (w' : World) : Prop := ∃ R, RunOT m ws b R ∧ RunTR w R e w'
theorem RunTR.fail {w w1 : World} {k : Int} {b : Nat} (hb : w.heap.size ≤ b) (hX : Ext w w1) (x y : Value) :
    RunTR w (rNo k) (.returned (.tuple #[.agg #[.int .i64 0, .slice none 0 0], .int .i64 0, .bool false, .int .i64 k])) ((w1.setCell ⟨b, 0, none⟩ x).setCell ⟨b, 1, none⟩ y) :=
  ⟨_, rfl, OwnT.void _ _, (hX.setCell hb _).setCell hb _⟩
theorem RunTR.done {w w0 w1 : World} {c : MConfD} {n : Int} {h : Bool} {v : Value} {b : Nat} {cs : Array Value} (hb : w.heap.size ≤ b) (hX0 : Ext w w0) (hX : Ext w0 w1) (hC : OwnT w0.heap.size w1 v c.tapes) (hB : Blk w1 b 30 cs) (x y : Value) :
    RunTR w ⟨c, n, h, 0⟩ (.returned (.tuple #[.agg #[.int .i64 c.q, v], .int .i64 n, .bool h, .int .i64 0])) ((w1.setCell ⟨b, 0, none⟩ x).setCell ⟨b, 1, none⟩ y) :=
  ⟨_, rfl, ((hC.base hX0.size).far hB (by decide) (by decide) 0 x).far (hB.set_ 0 x) (by decide) (by decide) 1 y, ((hX0.trans hX).setCell hb _).setCell hb _⟩
/-- What the values of a run are. -/
def RelS (M : MachD) (x : ConfD) (N : Nat) (w : World) (q : Int) (lv rv : Value) (t : Int) (h k : Bool) : Prop :=
  (k = true ∧ ∃ T : Nat, EndAt M x N T ∧ t = T ∧ h = decide (lookI M (cfgI M x T) = noR) ∧ q = (cfgI M x T).q ∧ ∃ bl br, OwnInts bl w lv (cfgI M x T).l ∧ OwnInts br w rv (cfgI M x T).r) ∨ (k = false ∧ ∃ T, FullAt M x N T)
theorem RelS.ext {M : MachD} {x : ConfD} {N : Nat} {w w' : World} {q : Int} {lv rv : Value} {t : Int} {h k : Bool} (hh : RelS M x N w q lv rv t h k) (he : Ext w w') : RelS M x N w' q lv rv t h k := by
  rcases hh with ⟨a, T, b, c, d, e, bl, br, o1, o2⟩ | hh
  · exact .inl ⟨a, T, b, c, d, e, bl, br, o1.ext he, o2.ext he⟩
  · exact .inr hh
theorem RelS.far {M : MachD} {x : ConfD} {N : Nat} {w : World} {q : Int} {lv rv : Value} {t : Int} {h k : Bool} (hh : RelS M x N w q lv rv t h k) {g : Nat} {cs : Array Value} (hb : Blk w g 54 cs) (i : Nat) (u : Value) : RelS M x N (w.setCell ⟨g, i, none⟩ u) q lv rv t h k := by
  rcases hh with ⟨a, T, b, c, d, e, bl, br, o1, o2⟩ | hh
  · exact .inl ⟨a, T, b, c, d, e, bl, br, ownsRow_far o1 (own_far_blk o1 hb (by decide)) _, ownsRow_far o2 (own_far_blk o2 hb (by decide)) _⟩
  · exact .inr hh
theorem RunSO.one {w w' : World} {M : MachD} {x : ConfD} {N : Nat} {e : Ending} (h : RunSO w M x N e w') :
    ∃ q A1 n1 c1 A2 n2 c2 t hb k, e = .returned (.tuple #[.agg #[.int .i64 q, .slice A1 n1 c1, .slice A2 n2 c2], .int .i64 t, .bool hb, .bool k]) ∧ Hid (RelS M x N w' q (.slice A1 n1 c1) (.slice A2 n2 c2) t hb k) ∧ Ext w w' := by
  obtain ⟨h | h, hx⟩ := h
  · obtain ⟨T, v, hE, rfl, lv, rv, bl, br, rfl, o1, o2⟩ := h
    obtain ⟨A1, c1, rfl, _, _⟩ := id o1.ints.form
    obtain ⟨A2, c2, rfl, _, _⟩ := id o2.ints.form
    exact ⟨_, _, _, _, _, _, _, _, _, _, rfl, .inl ⟨rfl, T, hE, rfl, rfl, rfl, bl, br, o1, o2⟩, hx⟩
  · obtain ⟨hF, rfl⟩ := h
    exact ⟨_, _, _, _, _, _, _, _, _, _, rfl, .inr ⟨rfl, hF⟩, hx⟩
/-- The values of a run, the configuration in a block that has been made. -/
def CutRS (w0 : World) (M : MachD) (x : ConfD) (N : Nat) (s0 s1 s2 s3 : Value) (w : World) : Prop :=
  ∃ g q lv rv t h k, s0 = .pointer (some ⟨g, 0, none⟩) ∧ s1 = .int .i64 t ∧ s2 = .bool h ∧ s3 = .bool k ∧ Blk w g 54 #[.int .i64 q, lv, rv] ∧ RelS M x N w q lv rv t h k ∧ Ext w0 w
abbrev zeroCS : Obj := .cells #[.int .i64 0, .slice none 0 0, .slice none 0 0] 54
theorem CutRS.late {w0 wC : World} {M : MachD} {x : ConfD} {N : Nat} {q : Int} {lv rv : Value} {t : Int} {h k : Bool} (hx : Ext w0 wC) (hr : RelS M x N wC q lv rv t h k) :
    CutRS w0 M x N (.pointer (some ⟨wC.heap.size, 0, none⟩)) (.int .i64 t) (.bool h) (.bool k) (wC.alloc (.cells #[.int .i64 q, lv, rv] 54)) :=
  ⟨_, q, lv, rv, t, h, k, rfl, rfl, rfl, rfl, Blk.new _ _ _ _ rfl, hr.ext (Ext.alloc _ _), hx.trans (Ext.alloc _ _)⟩
theorem CutRS.early {w0 wC : World} {M : MachD} {x : ConfD} {N : Nat} {q : Int} {lv rv : Value} {t : Int} {h k : Bool} {g : Nat} (hx : Ext w0 wC) (hr : RelS M x N wC q lv rv t h k) (hb : Blk wC g 54 #[.int .i64 0, .slice none 0 0, .slice none 0 0]) (hg : w0.heap.size ≤ g) :
    CutRS w0 M x N (.pointer (some ⟨g, 0, none⟩)) (.int .i64 t) (.bool h) (.bool k) (((wC.setCell ⟨g, 0, none⟩ (.int .i64 q)).setCell ⟨g, 1, none⟩ lv).setCell ⟨g, 2, none⟩ rv) :=
  ⟨g, q, lv, rv, t, h, k, rfl, rfl, rfl, rfl, ((hb.set_ 0 _).set_ 1 _).set_ 2 _, ((hr.far hb 0 _).far (hb.set_ 0 _) 1 _).far ((hb.set_ 0 _).set_ 1 _) 2 _, ((hx.setCell hg _).setCell hg _).setCell hg _⟩
theorem MkM.machO {base : Nat} {w : World} {bk b : Nat} {m : MultiD} {sy st : Int} {rs : List RuleD} {ps : List MP} {rv pv : Value} {vs : List Value} (h : MkM base w bk b m sy st rs ps rv pv vs) : MachO w bk ⟨sy, st, rs⟩ := by
  have x4 := h.blk.cell 4
  have x5 := h.blk.cell 5
  have x6 := h.blk.cell 6
  simp only [List.getElem?_toArray, List.getElem?_cons_zero, List.getElem?_cons_succ] at x4 x5 x6
  exact ⟨rv, x4, x5, x6, h.rules.rules⟩
set_option maxRecDepth 20000 in
set_option maxHeartbeats 4000000 in
theorem specRunOneTape_c (m : MultiD) (mv wv : Value) (ws : List (List Int)) (vs : List Value) (bud : Int) (w : World) (hM : Mult w mv m) (hW : Row w 1 wv ws.length vs) (hI : ∀ i, (h : i < ws.length) → ∃ u, vs[i]? = some u ∧ Ints w u ws[i] ∧ ws[i].length ≤ 1048576) :
    Calls Tryz.prog 6 #[mv, wv, .int .i64 bud] w (RunOutT w m ws bud) := by
  obtain ⟨rv, rfl, hR⟩ := id hM
  obtain ⟨A, cA, rfl, _, _⟩ := hR.form
  obtain ⟨B, cB, rfl, hB1, hB2, hvl⟩ := id hW.form
  obtain ⟨g, hg⟩ : ∃ g, w.heap.size = g := ⟨_, rfl⟩
  obtain ⟨V, hV⟩ : ∃ V, V = (w.alloc (.cells #[.int .i64 m.tp, .int .i64 m.sy, .int .i64 m.st, .slice A m.rules.length cA] 35)).alloc (.cells #[.int .i64 0, .slice none 0 0] 30) := ⟨_, rfl⟩
  have hX : Ext w V := by rw [hV]; exact (Ext.alloc _ _).trans (Ext.alloc _ _)
  have bM : Blk V g 35 #[.int .i64 m.tp, .int .i64 m.sy, .int .i64 m.st, .slice A m.rules.length cA] := by rw [hV]; exact (Blk.new _ _ _ _ hg).alloc _
  have bO : Blk V (g + 1) 30 #[.int .i64 0, .slice none 0 0] := by rw [hV]; exact Blk.new _ _ _ _ (by simp [hg])
  have hgb : w.heap.size ≤ g + 1 := by omega
  have IS := l06Is_c g m _ V bM (hR.ext hX)
  go_enter Tryz.func6, Tryz.ntmps6
  go_wp2_with fail
  try rw [← hV]
  try rw [hg]
  clear hV
  refine IS.mono ?_
  rintro e w1 ⟨rfl, hx1⟩
  clear IS
  have hX1 := hX.trans hx1
  have bO1 := bO.ext hx1
  have ob := bO1.cell
  have of_ := bO1.frozen
  cases hm : multiOk m with
  | false =>
    have HRO := Lib.hid (RunOT.bad (ws := ws) (b := bud) hm)
    clear hm
    go_wp2
    exact bodyPost_ret (v := .tuple #[.agg #[.int .i64 0, .slice none 0 0], .int .i64 0, .bool false, .int .i64 1]) (by simp [results, Tryz.results6, go_sem, ob]) rfl ⟨_, HRO.out, RunTR.fail hgb hX1 _ _⟩
  | true =>
    have HM := Lib.hid hm
    have BU := l05Budget_c bud w1
    cases hbu : inB bud 1 20000 with
    | false =>
      have HRO := Lib.hid (RunOT.budget (ws := ws) hm hbu)
      rw [hbu] at BU
      clear hm hbu
      go_wp2_with fail
      refine BU.mono ?_
      rintro e _ ⟨rfl, rfl⟩
      clear BU
      go_wp2
      exact bodyPost_ret (v := .tuple #[.agg #[.int .i64 0, .slice none 0 0], .int .i64 0, .bool false, .int .i64 2]) (by simp [results, Tryz.results6, go_sem, ob]) rfl ⟨_, HRO.out, RunTR.fail hgb hX1 _ _⟩
    | true =>
      rw [hbu] at BU
      have hb' := inB_iff.1 hbu
      obtain ⟨N, rfl⟩ : ∃ N : Nat, bud = N := ⟨bud.toNat, by omega⟩
      have hN : N ≤ 100000 := by omega
      have HBU := Lib.hid hbu
      have bM1 := bM.ext hx1
      have MS := l13MakeSeveral_c g m w1 ⟨A, cA, bM1, hR.ext hX1⟩ hm
      clear hm hbu hb'
      go_wp2_with fail
      refine BU.mono ?_
      rintro e _ ⟨rfl, rfl⟩
      clear BU
      go_wp2_with fail
      refine MS.mono ?_
      rintro e w2 ⟨hres, hx2⟩
      clear MS ob of_
      have hX2 := hX1.trans hx2
      have bO2 := bO1.ext hx2
      have bM2 := bM1.ext hx2
      have ob := bO2.cell
      have of_ := bO2.frozen
      rcases hres with ⟨hn, bk, rfl⟩ | ⟨s, bk, rvx, pvx, vsx, hs, rfl, hst, hok, l1, l2⟩
      · have HRO := Lib.hid (RunOT.big (ws := ws) HM.out HBU.out hn)
        clear hn
        go_wp2
        exact bodyPost_ret (v := .tuple #[.agg #[.int .i64 0, .slice none 0 0], .int .i64 0, .bool false, .int .i64 5]) (by simp [results, Tryz.results6, go_sem, ob]) rfl ⟨_, HRO.out, RunTR.fail hgb hX2 _ _⟩
      · have HS := Lib.hid hs
        have HOK := Lib.hid hok
        have m0 := bM2.cell 0
        have m1 := bM2.cell 1
        have m2 := bM2.cell 2
        have m3 := bM2.cell 3
        simp only [List.getElem?_toArray, List.getElem?_cons_zero, List.getElem?_cons_succ] at m0 m1 m2 m3
        have SO := specStartOneTape_c m (.agg #[.int .i64 m.tp, .int .i64 m.sy, .int .i64 m.st, .slice A m.rules.length cA]) (.slice B ws.length cB) ws vs w2 ⟨_, rfl, hR.ext hX2⟩ (hW.ext hX2) (fun i hi => by
          obtain ⟨u, e, iu, hf⟩ := hI i hi
          exact ⟨u, e, iu.ext hX2, hf⟩)
        clear hs hok
        go_wp2_with fail
        refine SO.mono ?_
        rintro e w3 ⟨lvs, rvs, rfl, ol3, or3, hx3⟩
        clear SO
        obtain ⟨Al, cl, rfl, _, _⟩ := id ol3.ints.form
        obtain ⟨Ar, cr, rfl, _, _⟩ := id or3.ints.form
        have hX3 := hX2.trans hx3
        by_cases hk : (startOC m ws).2 = 0
        · obtain ⟨hwok, hlen, hsc⟩ := startOC_ok HM.out hk
          have hcf := startO_conf HM.out HS.out hwok hlen
          have HK := Lib.hid hk
          rw [hsc] at ol3 or3 ⊢
          simp only at ol3 or3 ⊢
          have HMO := Lib.hid (one_ok HM.out HS.out).1
          obtain ⟨x0, hx0⟩ : ∃ q, startO m ws = q := ⟨_, rfl⟩
          rw [hx0] at hcf ol3 or3 ⊢
          have HX0 := Lib.hid hx0
          have HCF := Lib.hid hcf
          obtain ⟨W4, hW4⟩ : ∃ W, W = w3.alloc (.cells #[.int .i64 x0.q, .slice Al x0.l.length cl, .slice Ar x0.r.length cr] 54) := ⟨_, rfl⟩
          have hX4 : Ext w3 W4 := by rw [hW4]; exact Ext.alloc _ _
          have bC4 : Blk W4 w3.heap.size 54 #[.int .i64 x0.q, .slice Al x0.l.length cl, .slice Ar x0.r.length cr] := by rw [hW4]; exact Blk.new _ _ _ _ rfl
          obtain ⟨gc, hgc⟩ : ∃ k, w3.heap.size = k := ⟨_, rfl⟩
          rw [hgc] at bC4
          have hx34 := hx3.trans hX4
          have hE4 := hX2.trans hx34
          have c0 := bC4.cell 0
          have c1 := bC4.cell 1
          have c2 := bC4.cell 2
          simp only [List.getElem?_toArray, List.getElem?_cons_zero, List.getElem?_cons_succ] at c0 c1 c2
          have st4 := hst.ext hx34
          have bO4 := bO2.ext hx34
          have LR : ∀ X, Ext W4 X → Calls Tryz.prog 23 #[.pointer (some ⟨bk, 4, none⟩), .agg #[.int .i64 x0.q, .slice Al x0.l.length cl, .slice Ar x0.r.length cr], .int .i64 N] X (RunSO X (oneM m s) x0 N) := fun X hx =>
            l05RunO_c bk (oneM m s) x0 _ _ N X ((st4.ext hx).machO) HMO.out HCF.out (ol3.ext (hX4.trans hx)).ints (or3.ext (hX4.trans hx)).ints hN
          clear hk hwok hlen hsc hx0 hcf ob of_ m0 m1 m2 m3 hst
          go_upto_region 11 with fail
          try rw [← hW4]
          try rw [hgc]
          clear hW4
          go_cut [14, 15, 16, 17] (fun s0 s1 s2 s3 wx => CutRS W4 (oneM m s) x0 N s0 s1 s2 s3 wx)
          case first =>
            go_region_held3 (fun w' => w'.cell? ⟨gc, 0, none⟩ = some (.int .i64 x0.q) ∧ w'.cell? ⟨gc, 1, none⟩ = some (.slice Al x0.l.length cl) ∧ w'.cell? ⟨gc, 2, none⟩ = some (.slice Ar x0.r.length cr))
              (first | go_keep | exact ⟨(hS _ _ _).cell c0, (hS _ _ _).cell c1, (hS _ _ _).cell c2⟩ | exact ⟨hD.cell c0, hD.cell c1, hD.cell c2⟩ | exact ⟨hC.cell c0, hC.cell c1, hC.cell c2⟩)
              (first
                | (go_at_call 23; ((with_reducible refine (LR W4.drew (Ext.drew _)).mono ?_)); intro e wC hres; obtain ⟨q5, A5, n5, k5, A6, n6, k6, t5, h5, f5, rfl, hrel5, hxC⟩ := hres.one; have hC := (Ext.drew W4).trans hxC; have hD := hC.trans (Ext.alloc wC (.cells #[.int .i64 q5, .slice A5 n5 k5, .slice A6 n6 k6] 54)))
                | (go_at_call 23; ((with_reducible refine (LR (W4.alloc zeroCS).drew ((Ext.alloc _ _).trans (Ext.drew _))).mono ?_)); intro e wC hres; obtain ⟨q5, A5, n5, k5, A6, n6, k6, t5, h5, f5, rfl, hrel5, hxC⟩ := hres.one; have hC := ((Ext.alloc W4 zeroCS).trans (Ext.drew _)).trans hxC; have bZC := (Blk.drew (Blk.new W4 W4.heap.size _ _ rfl)).ext hxC; have hgz : W4.heap.size ≤ W4.heap.size := Nat.le_refl _; have hS := fun x y z => (((hC.setCell (p := ⟨W4.heap.size, 0, none⟩) hgz x).setCell (p := ⟨W4.heap.size, 1, none⟩) hgz y).setCell (p := ⟨W4.heap.size, 2, none⟩) hgz z); have vc := bZC.cell; have vf := bZC.frozen))
            all_goals
              go_wp2_with fail
              go_meet
              first
                | exact CutRS.early hC hrel5.out bZC hgz
                | exact CutRS.late hC hrel5.out
          case rest =>
            rename World => w5
            obtain ⟨g5, q5, lv5, rv5, t5, h5, f5, rfl, rfl, rfl, rfl, b5, hrel, hx5⟩ := hcut
            have hE5 := hE4.trans hx5
            have bO5 := bO4.ext hx5
            have st5 := st4.ext hx5
            have bM5 := (bM2.ext hx34).ext hx5
            clear c0 c1 c2 LR
            rcases hrel with ⟨rfl, T, hE, rfl, hh5, rfl, bl, br, o1, o2⟩ | ⟨rfl, T, hFull⟩
            · have HEND : Hid (RunOT m ws (N : Int) (endRO m s x0 T)) := Lib.hid (by
                have a := HX0.out
                rw [← a] at hE ⊢
                exact RunOT.ends HM.out HBU.out HS.out HK.out hE)
              have hcy := run_confM HMO.out HCF.out hE.runs
              have HHB := Lib.hid hh5
              obtain ⟨y, hy⟩ : ∃ y, cfgI (oneM m s) x0 T = y := ⟨_, rfl⟩
              rw [hy] at hcy o1 o2 b5
              have HY := Lib.hid hy
              obtain ⟨⟨q0, q1⟩, ⟨b1, b2⟩, ⟨b3, b4⟩⟩ := conf_allM (sy := 2 * m.sy) (st := (s.1.length : Int)) (rs := s.2) hcy
              obtain ⟨i, hi⟩ : ∃ i : Nat, y.q = i := ⟨y.q.toNat, by omega⟩
              have hil : i < s.1.length := by omega
              obtain ⟨p, hp⟩ : ∃ p, s.1[i]? = some p := ⟨_, List.getElem?_eq_getElem hil⟩
              have HEQ := Lib.hid (endRO_at (m := m) hy hi hp)
              have hCP : ConfP w5 g5 y := ⟨_, _, b5.cell 0, b5.cell 1, b5.cell 2, o1.ints, o2.ints⟩
              have DO := l13Decode_c w1.heap.size w5 bk g g5 m s.2 s.1 rvx pvx vsx y st5 HOK.out l1 l2 ⟨A, cA, bM5, hR.ext hE5⟩ HM.out hCP
              rw [if_pos (show confB ⟨2 * m.sy, s.1.length, s.2⟩ y = true from hcy)] at DO
              have hpd : decOne m (s.1.getD y.q.toNat mp0) y = decOne m p y := by
                rw [hi, Int.toNat_natCast, List.getD_eq_getElem?_getD, hp]
                rfl
              rw [hpd] at DO
              obtain ⟨⟨⟨uq, uts⟩, uk⟩, hdec⟩ : ∃ q, decOne m p y = q := ⟨_, rfl⟩
              rw [hdec] at DO HEQ
              clear hcy hE hy hi hp b2 b4 hdec hpd HOK hh5 q0 q1 hCP
              go_upto_region 14 with fail
              go_wp2_with fail
              refine DO.mono ?_
              rintro e w6 ⟨v6, rfl, o6, hx6⟩
              clear DO
              simp only at o6 ⊢
              obtain ⟨A7, c7, rfl, _, _⟩ := id o6.form
              have hXa := Ext.alloc w6 (.cells #[.int .i64 uq, .slice A7 uts.length c7] 30)
              have b7 := Blk.new w6 w6.heap.size 30 #[.int .i64 uq, .slice A7 uts.length c7] rfl
              have hx7 := hx6.trans hXa
              have hE7 := hE5.trans hx7
              have bO7 := bO5.ext hx7
              have o7 := o6.ext hXa
              by_cases hk7 : uk = 0
              · have HR7 : Hid (RunOT m ws (N : Int) ⟨⟨uq, uts⟩, T, h5, 0⟩) := Lib.hid (by
                  have a := HEND.out
                  have e1 := HEQ.out
                  have e2 := HHB.out
                  rw [HY.out] at e2
                  rw [e1] at a
                  try simp only at a
                  rw [if_pos hk7, ← e2] at a
                  exact a)
                subst hk7
                have z0 := b7.cell 0
                have z1 := b7.cell 1
                simp only [List.getElem?_toArray, List.getElem?_cons_zero, List.getElem?_cons_succ] at z0 z1
                have ob := bO7.cell
                have of_ := bO7.frozen
                go_wp2
                exact bodyPost_ret (v := .tuple #[.agg #[.int .i64 uq, .slice A7 uts.length c7], .int .i64 T, .bool h5, .int .i64 0]) (by simp [results, Tryz.results6, go_sem, ob]) rfl ⟨_, HR7.out, RunTR.done (c := ⟨uq, uts⟩) hgb hE5 hx7 o7 bO7 _ _⟩
              · have HR7 : Hid (RunOT m ws (N : Int) (rNo uk)) := Lib.hid (by
                  have a := HEND.out
                  rw [HEQ.out] at a
                  try simp only at a
                  rw [if_neg hk7] at a
                  exact a)
                have hne : (uk != 0) = true := by simpa using hk7
                have ob := bO7.cell
                have of_ := bO7.frozen
                clear hk7
                go_wp2
                exact bodyPost_ret (v := .tuple #[.agg #[.int .i64 0, .slice none 0 0], .int .i64 0, .bool false, .int .i64 uk]) (by simp [results, Tryz.results6, go_sem, ob]) rfl ⟨_, HR7.out, RunTR.fail hgb hE7 _ _⟩
            · have HRO : Hid (RunOT m ws (N : Int) (rNo 5)) := Lib.hid (by
                rw [← HX0.out] at hFull
                exact RunOT.full HM.out HBU.out HS.out HK.out hFull)
              have ob := bO5.cell
              have of_ := bO5.frozen
              clear hFull
              go_wp2
              exact bodyPost_ret (v := .tuple #[.agg #[.int .i64 0, .slice none 0 0], .int .i64 0, .bool false, .int .i64 5]) (by simp [results, Tryz.results6, go_sem, ob]) rfl ⟨_, HRO.out, RunTR.fail hgb hE5 _ _⟩
        · have HRO := Lib.hid (RunOT.start HM.out HBU.out HS.out hk)
          obtain ⟨⟨⟨sq, sl, sr⟩, sk⟩, hsc⟩ : ∃ q, startOC m ws = q := ⟨_, rfl⟩
          rw [hsc] at HRO hk ol3 or3 ⊢
          simp only at HRO hk ol3 or3 ⊢
          have hne : (sk != 0) = true := by simpa using hk
          have hX4 := Ext.alloc w3 (.cells #[.int .i64 sq, .slice Al sl.length cl, .slice Ar sr.length cr] 54)
          have bO4 := (bO2.ext hx3).ext hX4
          have hXX := hX3.trans hX4
          clear hk hsc ob of_
          have ob := bO4.cell
          have of_ := bO4.frozen
          go_wp2
          exact bodyPost_ret (v := .tuple #[.agg #[.int .i64 0, .slice none 0 0], .int .i64 0, .bool false, .int .i64 sk]) (by simp [results, Tryz.results6, go_sem, ob]) rfl ⟨_, HRO.out, RunTR.fail hgb hXX _ _⟩
end Go.Proofs.YtfghojbbofobeaaGreat
end
