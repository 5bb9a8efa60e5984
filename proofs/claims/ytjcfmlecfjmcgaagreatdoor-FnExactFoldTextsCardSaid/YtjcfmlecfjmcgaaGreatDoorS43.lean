/- Contract of the reference's DecodeFold.
Contract: the reference's beginning of the run on one half of the tape. The machine is valid and the configuration is one of its. -/
import Derived.Test.YtjcfmlecfjmcgaaGreatDoorS42
import Derived.Test.YtjcfmlecfjmcgaaGreatDoorS19
import Derived.Laws.AppendOwnNone
import Derived.Test.YtjcfmlecfjmcgaaGreatDoorS09
import Derived.Test.YtjcfmlecfjmcgaaGreatDoorS40
import Derived.Deep.DeepCutAuto
section
set_option linter.unusedSimpArgs false
set_option linter.unusedVariables false
namespace Go.Proofs.YtjcfmlecfjmcgaaGreatDoor
open Go Go.RowKit Go.Proofs
set_option maxHeartbeats 400000
def FlatS (v : Value) : Prop := v = .slice none 0 0 ∨ ∃ b off n c, v = .slice (some ⟨b, off, none⟩) n c
theorem OwnInts.flatS {base : Nat} {w : World} {v : Value} {zs : List Int} (h : OwnInts base w v zs) : FlatS v := by
  rcases h.2 with ⟨rfl, _⟩ | ⟨g, cap, cur, rfl, _⟩
  · exact .inl rfl
  · exact .inr ⟨g, 0, _, cap, rfl⟩
theorem run_append_ints (w : World) (base : Nat) (v u : Value) (xs news : List Int) (hown : OwnInts base w v xs) (hu : Ints w u news) (hf : FlatS u) (hl : xs.length + news.length ≤ 4194304) (hbase : base ≤ w.heap.size) :
    ∃ v' w', (Builtin.append_ #[25, 25] 25 #[v, u]).run Tryz.prog w = .ok v' w' ∧ OwnInts base w' v' (xs ++ news) ∧ w.grownBy w' v.ownBlock := by
  obtain ⟨i0, hi, hz0, hz1, hz2⟩ := info_parts intInfo
  obtain ⟨A, c, rfl, _, _⟩ := id hu.form
  rcases hf with hf | ⟨b, off, n, c', hf⟩
  · injection hf with e1 e2 e3
    subst e1 e3
    have hz : news = [] := List.length_eq_zero_iff.1 e2
    subst hz
    exact ⟨v, w, run_append_owned_none (P := Tryz.prog) (w := w) base 25 25 2 i0 1 Tryz.underlying25 hi v xs.length (ivs xs) hown, by simpa using hown, ⟨rfl, rfl, rfl, Nat.le_refl _, fun _ _ _ => rfl⟩⟩
  · injection hf with e1 e2 e3
    subst e1 e3
    have hc : ∀ j y, (ivs news)[j]? = some y → w.cell? ((⟨b, off, none⟩ : Addr).add j) = some y := by
      intro j y hj
      obtain ⟨hl, _⟩ := List.getElem?_eq_some_iff.1 hj
      rw [ivs_length] at hl
      obtain ⟨b', off', e', hc⟩ := hu.at hl
      cases e'
      have := hc j hl
      have e : y = .int .i64 news[j] := by
        have := ivs_get news j hl
        rw [hj] at this
        injection this
      by_cases hj0 : j = 0
      · subst hj0
        rw [e]
        first | (simp [Addr.add]; done) | (simpa [Addr.add] using hc 0 hl)
      · rw [e]
        first | (simp [Addr.add, hj0]; done) | (simpa [Addr.add, hj0] using this)
    have h1 : ∀ u ∈ ivs news, u.oneCell' = true := by
      intro u hu
      obtain ⟨z, _, rfl⟩ := List.mem_map.1 hu
      rfl
    obtain ⟨v', w', hr, h2, h3, _, _⟩ := run_append_own_at (P := Tryz.prog) w base 25 25 2 i0 (.int .i64 0) 1 8 Tryz.underlying25 hi hz0 hz1 hz2 rfl (by decide) v xs.length (ivs xs) hown ⟨b, off, none⟩ news.length c (ivs news) (by simp) hc h1 (by unfold maxLen; omega) (by omega) hbase
    exact ⟨v', w', hr, by unfold OwnInts; rw [ivs_append, List.length_append]; exact h2, h3⟩
/-- An append in a region that draws, by its run. -/
theorem step_append_by {P : Program} {w w' : World} {ops : Array Oper} {o : Oper} {a : Act} {K : Act → World → Prop} {Q : Exit → Act → World → Prop} {E : Prop} (hgd : o.guard = none) (s x : Operand) (t : TypeId)
    (ho : o.op = .call { callee := .builtin .append, args := #[s, x], argTypes := #[t, t] }) (v u r : Value) (hs : a.eval s = v) (hx : a.eval x = u)
    (hr : (Builtin.append_ #[t, t] o.type #[v, u]).run P w = .ok r w') (h : K (a.put o.dst r) w') :
    if Region.wanted o (yielded ops a.tmps) = true then Oper.wp P o a w K Q else E := by
  have hw : Region.wanted o (yielded ops a.tmps) = true := by simp [Region.wanted, hgd]
  rw [if_pos hw]
  unfold Oper.wp execOp
  simp only [ho, resolve, invoke, builtin, Sem.run_bind, Sem.run_pure, Result.andThen_ok, List.map_toArray, List.map_cons, List.map_nil, hs, hx, hr]
  exact h
/-- A configuration and a code, as the reference's functions give them. -/
def SpecRes (w : World) (r : ConfD × Int) (e : Ending) (w' : World) : Prop :=
  (∃ lv rv base, e = .returned (.tuple #[.agg #[.int .i64 r.1.q, lv, rv], .int .i64 r.2]) ∧ OwnInts base w' lv r.1.l ∧ OwnInts base w' rv r.1.r) ∧ Ext w w'
theorem ints_nilS (w : World) : Ints w (.slice none 0 0) [] := ⟨none, 0, rfl, by simp, by omega, rfl, fun h => by simp at h⟩
theorem ints_far {base : Nat} {w : World} {v : Value} {zs : List Int} (h : OwnInts base w v zs) {p : Addr} (hp : ∀ k, v.ownBlock = some k → k ≠ p.block) (u : Value) : OwnInts base (w.setCell p u) v zs := ownsRow_far h hp u
theorem SpecRes.done {w w1 : World} {r : ConfD × Int} {b base : Nat} {lv rv : Value} (hb : w.heap.size ≤ b) (hX : Ext w w1)
    (hl : OwnInts base w1 lv r.1.l) (hr : OwnInts base w1 rv r.1.r) (n1 : ∀ g, lv.ownBlock = some g → g ≠ b) (n2 : ∀ g, rv.ownBlock = some g → g ≠ b) (x y z : Value) :
    SpecRes w r (.returned (.tuple #[.agg #[.int .i64 r.1.q, lv, rv], .int .i64 r.2])) (((w1.setCell ⟨b, 0, none⟩ x).setCell ⟨b, 1, none⟩ y).setCell ⟨b, 2, none⟩ z) :=
  ⟨⟨_, _, base, rfl, ints_far (ints_far (ints_far hl n1 _) n1 _) n1 _, ints_far (ints_far (ints_far hr n2 _) n2 _) n2 _⟩, ((hX.setCell hb _).setCell hb _).setCell hb _⟩
theorem SpecRes.none {w w1 : World} {k : Int} {b : Nat} (hb : w.heap.size ≤ b) (hX : Ext w w1) (x y z : Value) :
    SpecRes w (blankC, k) (.returned (.tuple #[.agg #[.int .i64 0, .slice none 0 0, .slice none 0 0], .int .i64 k])) (((w1.setCell ⟨b, 0, none⟩ x).setCell ⟨b, 1, none⟩ y).setCell ⟨b, 2, none⟩ z) :=
  SpecRes.done (r := (blankC, k)) (base := 0) hb hX (World.ownsRow_nil ..) (World.ownsRow_nil ..) (fun g hg => by simp [Value.ownBlock] at hg) (fun g hg => by simp [Value.ownBlock] at hg) x y z
set_option maxRecDepth 20000 in
set_option maxHeartbeats 4000000 in
theorem specDecodeFold_c (rvm : Value) (m : MachD) (c : ConfD) (lv qv : Value) (w : World) (hr : Rules w rvm m.rules) (hl : Ints w lv c.l) (hq : Ints w qv c.r) (fr : FlatS qv) :
    Calls Tryz.prog 23 #[.agg #[.int .i64 m.sy, .int .i64 m.st, rvm], .agg #[.int .i64 c.q, lv, qv]] w (SpecRes w (decAll m c)) := by
  obtain ⟨Am, cm, rfl, _, _⟩ := hr.form
  obtain ⟨Al, cl, rfl, hcl, _⟩ := hl.form
  obtain ⟨Ar, cr, rfl, _, _⟩ := hq.form
  obtain ⟨W, hW⟩ : ∃ W, W = ((w.alloc (.cells #[.int .i64 m.sy, .int .i64 m.st, .slice Am m.rules.length cm] 35)).alloc (.cells #[.int .i64 c.q, .slice Al c.l.length cl, .slice Ar c.r.length cr] 37)).alloc (.cells #[.int .i64 0, .slice none 0 0, .slice none 0 0] 37) := ⟨_, rfl⟩
  have hXW : Ext w W := by rw [hW]; exact ((Ext.alloc _ _).trans (Ext.alloc _ _)).trans (Ext.alloc _ _)
  have bM : Blk W w.heap.size 35 #[.int .i64 m.sy, .int .i64 m.st, .slice Am m.rules.length cm] := by rw [hW]; exact ((Blk.new _ _ _ _ rfl).alloc _).alloc _
  have bC : Blk W (w.heap.size + 1) 37 #[.int .i64 c.q, .slice Al c.l.length cl, .slice Ar c.r.length cr] := by rw [hW]; exact (Blk.new _ _ _ _ (by simp)).alloc _
  have bO : Blk W (w.heap.size + 1 + 1) 37 #[.int .i64 0, .slice none 0 0, .slice none 0 0] := by rw [hW]; exact Blk.new _ _ _ _ (by simp)
  obtain ⟨R, hR⟩ : ∃ R, R = decAll m c := ⟨_, rfl⟩
  rw [← hR]
  have HR := Lib.hid hR
  clear hR
  have hb2 : w.heap.size ≤ w.heap.size + 1 + 1 := by omega
  have m0 := bM.cell 0
  have m1 := bM.cell 1
  have m2 := bM.cell 2
  have c0 := bC.cell 0
  have c1 := bC.cell 1
  have c2 := bC.cell 2
  simp only [List.getElem?_toArray, List.getElem?_cons_zero, List.getElem?_cons_succ] at m0 m1 m2 c0 c1 c2
  have hMW : MachAt W w.heap.size m := ⟨_, m0, m1, m2, hr.ext hXW⟩
  have hCW : ConfP W (w.heap.size + 1) c := ⟨_, _, c0, c1, c2, hl.ext hXW, hq.ext hXW⟩
  go_enter Tryz.func23, Tryz.ntmps23
  clear m0 m1 m2 c0 c1 c2
  go_wp2_with fail
  rw [← hW]
  clear hW
  refine (l05Is_c _ m _ hMW).mono ?_
  rintro e w1 ⟨rfl, hx1⟩
  have hX1 := hXW.trans hx1
  have ob := (bO.ext hx1).cell
  have of_ := (bO.ext hx1).frozen
  cases hm : machOk m with
  | false =>
    have HE : Hid (R = (blankC, 1)) := by unfold Hid; rw [HR.out]; unfold decAll; rw [hm]; rfl
    clear hm
    go_wp2
    rw [HE.out]
    exact bodyPost_ret (v := .tuple #[.agg #[.int .i64 0, .slice none 0 0, .slice none 0 0], .int .i64 1]) (by simp [results, Tryz.results23, go_sem, ob]) rfl (SpecRes.none hb2 hX1 _ _ _)
  | true =>
    obtain ⟨s1, s2, s3, s4, hrl⟩ := machOk_all hm
    have HE : Hid (R = match foldOf m with | none => (blankC, 5) | some s => if confB ⟨m.sy + 1, s.1.length, s.2⟩ c then decP m.sy (s.1.getD c.q.toNat ⟨0, 0, 0⟩) c else (blankC, 2)) := by unfold Hid; rw [HR.out]; unfold decAll; rw [hm]; rfl
    have HM := Lib.hid hm
    clear hm hrl
    go_wp2_with fail
    refine (l13MakeFold_c _ m w1 (hMW.ext hx1) HM.out).mono ?_
    rintro e w2 ⟨hres, hx2⟩
    have hX2 := hX1.trans hx2
    have hE2 := hx1.trans hx2
    have bO2 := bO.ext hE2
    clear ob of_
    have ob := bO2.cell
    have of_ := bO2.frozen
    rcases hres with ⟨hn, bk, rfl⟩ | ⟨s, bk, rv, pv, vs, hs, rfl, hst, hok, l1, l2⟩
    · have HE2 : Hid (R = (blankC, 5)) := by unfold Hid; rw [HE.out, hn]
      clear hn
      go_wp2
      rw [HE2.out]
      exact bodyPost_ret (v := .tuple #[.agg #[.int .i64 0, .slice none 0 0, .slice none 0 0], .int .i64 5]) (by simp [results, Tryz.results23, go_sem, ob]) rfl (SpecRes.none hb2 hX2 _ _ _)
    · have HE2 : Hid (R = if confB ⟨m.sy + 1, s.1.length, s.2⟩ c then decP m.sy (s.1.getD c.q.toNat ⟨0, 0, 0⟩) c else (blankC, 2)) := by unfold Hid; rw [HE.out, hs]
      clear hs
      have k3 := hst.blk.cell 3
      have k4 := hst.blk.cell 4
      have k5 := hst.blk.cell 5
      simp only [List.getElem?_toArray, List.getElem?_cons_zero, List.getElem?_cons_succ] at k3 k4 k5
      have hC2 := hCW.ext hE2
      have GC := l05Good_c bk 4 (w.heap.size + 1) ⟨m.sy + 1, s.1.length, s.2⟩ c _ k4 k5 hC2 (by show (1 : Int) ≤ m.sy + 1; omega) (by show m.sy + 1 ≤ 1000000; omega) (by show (1 : Int) ≤ (s.1.length : Int); omega) (by show (s.1.length : Int) ≤ 1000; omega)
      cases hc : confB ⟨m.sy + 1, s.1.length, s.2⟩ c with
      | false =>
        have HE3 : Hid (R = (blankC, 2)) := by unfold Hid; rw [HE2.out, hc]; rfl
        simp only [hc] at GC
        clear hc k3 k4 k5
        go_wp2_with fail
        refine GC.mono ?_
        rintro e w3 ⟨rfl, hx3⟩
        clear ob of_
        have ob := (bO2.ext hx3).cell
        have of_ := (bO2.ext hx3).frozen
        go_wp2
        rw [HE3.out]
        exact bodyPost_ret (v := .tuple #[.agg #[.int .i64 0, .slice none 0 0, .slice none 0 0], .int .i64 2]) (by simp [results, Tryz.results23, go_sem, ob]) rfl (SpecRes.none hb2 (hX2.trans hx3) _ _ _)
      | true =>
        obtain ⟨⟨q0, q1⟩, ⟨b1, b2⟩, ⟨b3, b4⟩⟩ := conf_all hc
        obtain ⟨i, hi⟩ : ∃ i : Nat, c.q = i := ⟨c.q.toNat, by omega⟩
        have hil : i < s.1.length := by omega
        have HE3 : Hid (R = decP m.sy s.1[i] c) := by
          unfold Hid
          rw [HE2.out, hc, hi, Int.toNat_natCast, List.getD_eq_getElem?_getD, List.getElem?_eq_getElem hil]
          rfl
        simp only [hc] at GC
        clear hc
        have HI := Lib.hid hi
        clear hi
        have HB2 : Hid (∀ z ∈ c.l, 0 ≤ z ∧ z ≤ m.sy) := fun z hz => by have := b2 z hz; omega
        have HB4 : Hid (∀ z ∈ c.r, 0 ≤ z ∧ z ≤ m.sy) := fun z hz => by have := b4 z hz; omega
        clear b2 b4
        have hpk := hok s.1[i] (List.getElem_mem hil)
        obtain ⟨u, hu, huo⟩ := hst.rows i s.1[i] (List.getElem?_eq_getElem hil)
        obtain ⟨Ap, cp, rfl, hp1, hp2, _⟩ := (ownsRow_row hst.places).form
        obtain ⟨gp, rfl, hg1, hg2⟩ := own_at hst.places (by omega)
        obtain ⟨b', off', e', hcp⟩ := Row.at (ownsRow_row hst.places) hil
        injection e' with e'
        injection e' with e1 e2
        subst e1 e2
        have p0 : w2.cell? ⟨gp, i, none⟩ = some u := by have := hcp i (by omega); rw [Nat.zero_add] at this; rw [this, hu]
        generalize s.1[i] = p at *
        clear hcp hu
        go_wp2_with fail
        refine GC.mono ?_
        rintro e w3 ⟨rfl, hx3⟩
        clear GC ob of_
        have hX3 := hX2.trans hx3
        have hE3 := hE2.trans hx3
        have bO3 := bO2.ext hx3
        have P0 := cellR (hx3.cell p0)
        have K3 := cellR (hx3.cell k3)
        have c0 := (bC.ext hE3).cell 0
        have c1 := (bC.ext hE3).cell 1
        have c2 := (bC.ext hE3).cell 2
        simp only [List.getElem?_toArray, List.getElem?_cons_zero, List.getElem?_cons_succ] at c0 c1 c2
        rw [HI.out] at c0
        have C0 := cellR c0
        have i1 : (0 : Int) ≤ (i : Int) := by omega
        have i2 : (i : Int) < (s.1.length : Int) := by omega
        clear k3 k4 k5 p0
        obtain ⟨ul, uo, hlen⟩ : ∃ A cu, u = .slice A (encL p).length cu := by obtain ⟨A, cu, e, _⟩ := huo.ints.form; exact ⟨A, cu, e⟩
        subst hlen
        go_wp2_with fail
        refine wp_region_ext (by kernel_rfl) (by kernel_rfl) ?_
        repeat (go_big_quiet_step (fail))
        refine wpQuiet_nil ?_
        intro w4 hx4
        -- BEHIND THE ROW
        obtain ⟨pk, pq, ph⟩ := p
        have hX4 := hX3.trans hx4
        have HPQ : Hid (inB pq 0 (m.st - 1) = true) := by have a0 : 0 ≤ pq := hpk.q0; have a1 : pq < m.st := hpk.q1; unfold Hid; simp [inB]; omega
        have hu4 := (huo.ints.ext hx3).ext hx4
        have hkk := hpk.kinds
        simp only at hkk
        obtain ⟨bu, ou, rfl, hcu⟩ := hu4.at (k := 0) (by simp only [encL]; split <;> simp)
        have uq0 : w4.cell? ⟨bu, ou, none⟩ = some (.int .i64 pk) := by have := hcu 0 (by simp only [encL]; split <;> simp); simp only [encL] at this; split at this <;> simpa using this
        have uq1 : w4.cell? ⟨bu, ou + 1, none⟩ = some (.int .i64 pq) := by have := hcu 1 (by simp only [encL]; split <;> simp); simp only [encL] at this; split at this <;> simpa using this
        have HX0 : R = decP m.sy ⟨pk, pq, ph⟩ c := HE3
        rw [decP_alt] at HX0
        have HX := Lib.hid HX0
        clear HX0
        have hne : 2 ≤ (encL ⟨pk, pq, ph⟩).length := by simp only [encL]; split <;> simp
        by_cases h0 : pk = 0
        · have uq2 : w4.cell? ⟨bu, ou + 2, none⟩ = some (.int .i64 ph) := by have := hcu 2 (by simp [encL, h0]); simpa [encL, h0] using this
          have hne3 : 2 < (encL ⟨pk, pq, ph⟩).length := by simp [encL, h0]
          have b0 : (pk == 0) = true := by simp [h0]
          have HE5 : Hid (R = if fmtB m.sy c ph then unfD pq (backD c) c.l.length else (blankC, 9)) := by unfold Hid; rw [HX.out]; simp [stF, h0]
          clear h0 hcu
          generalize (encL ⟨pk, pq, ph⟩).length = ne at *
          have HF := Lib.hid (fmt_iff m.sy c ph)
          have HBI0 := Lib.hid (back_in (half := ph) HB2.out HB4.out)
          have HBL0 := Lib.hid (back_len (c := c))
          have bO4 := (bO3.ext hx4)
          have bM4 := bM.ext (hE3.trans hx4)
          have m0 := bM4.cell 0
          simp only [List.getElem?_toArray, List.getElem?_cons_zero] at m0
          have M0 := cellR m0
          have c1 := hx4.cell c1
          have c2 := hx4.cell c2
          have C1 := cellR c1
          have C2 := cellR c2
          have hlv := hl.ext hX4
          have hrv := hq.ext hX4
          by_cases hn0 : c.l.length = 0
          · have bn0 : ((c.l.length : Int) == 0) = true := by simp [hn0]
            have HE6 : Hid (R = (blankC, 9)) := by unfold Hid; rw [HE5.out, if_neg (fun h => by have := (HF.out.1 h).1; omega)]
            clear hn0
            generalize c.l.length = n at *
            go_wp2_with fail
            refine wp_region_ext (by kernel_rfl) (by kernel_rfl) ?_
            repeat (go_big_quiet_step (fail))
            refine wpQuiet_nil ?_
            intro w5 hx5
            have hX5 := hX4.trans hx5
            have ob := (bO4.ext hx5).cell
            have of_ := (bO4.ext hx5).frozen
            go_wp2
            rw [HE6.out]
            exact bodyPost_ret (v := .tuple #[.agg #[.int .i64 0, .slice none 0 0, .slice none 0 0], .int .i64 9]) (by simp [results, Tryz.results23, go_sem, ob]) rfl (SpecRes.none hb2 hX5 _ _ _)
          · have bn0 : ((c.l.length : Int) == 0) = false := by rw [beq_eq_false_iff_ne]; omega
            have hn1 : 1 ≤ c.l.length := by omega
            have hl1 : c.l.length - 1 < c.l.length := by omega
            have t1 : Ints w4 (.slice Al (c.l.length - 1) cl) c.l.dropLast := by
              rw [List.dropLast_eq_take]
              exact hlv.take (c.l.length - 1) (by omega)
            obtain ⟨bl, ol, rfl, hcl9⟩ := hlv.at hl1
            have LZ := cellR (hcl9 (c.l.length - 1) hl1)
            have hlast : c.l.getLastD 0 = c.l[c.l.length - 1] := lastD_get (by omega)
            rw [hlast] at HF
            have i1 : (0 : Int) ≤ (c.l.length : Int) - 1 := by omega
            have i2 : (c.l.length : Int) - 1 < (c.l.length : Int) := by omega
            have i3 : ((c.l.length : Int) - 1).toNat = c.l.length - 1 := by omega
            have i4 : c.l.length - 1 ≤ cl := by omega
            have i5 : (c.l.length : Int) - 1 ≤ (cl : Int) := by omega
            clear hcl9 hlast
            generalize c.l[c.l.length - 1] = z at *
            clear hl1 hn0
            have hdll : c.l.dropLast.length = c.l.length - 1 := List.length_dropLast
            have HBL : Hid ((backD c).length + 1 = c.l.length + c.r.length) := Lib.hid (HBL0.out hn1)
            have HDLL := Lib.hid hdll
            clear hdll
            have LH1 := fun d os => l00Has_c (.slice (some ⟨bl, ol, none⟩) (c.l.length - 1) cl) c.l.dropLast m.sy _ (t1.ext (below_regrown w4 d os))
            have LH2 := fun d os => l00Has_c (.slice Ar c.r.length cr) c.r m.sy _ (hrv.ext (below_regrown w4 d os))
            generalize c.l.length = n at *
            by_cases hz : z = m.sy
            · have bz : (z != m.sy) = false := by simp [hz]
              cases hd1 : decide (m.sy ∈ c.l.dropLast) with
              | true =>
                simp only [hd1] at LH1
                have HE6 : Hid (R = (blankC, 9)) := by unfold Hid; rw [HE5.out, if_neg (fun h => (HF.out.1 h).2.2.1 (of_decide_eq_true hd1))]
                clear hz hd1
                go_wp2_with fail
                refine wp_region_ext (by kernel_rfl) (by kernel_rfl) ?_
                repeat (go_big_quiet_step ((first | (go_at_call 49; with_reducible exact Calls.sameR (LH1 _ _)) | (go_at_call 49; with_reducible exact Calls.sameR (LH2 _ _)))))
                refine wpQuiet_nil ?_
                intro w5 hx5
                have hX5 := hX4.trans hx5
                have ob := (bO4.ext hx5).cell
                have of_ := (bO4.ext hx5).frozen
                go_wp2
                rw [HE6.out]
                exact bodyPost_ret (v := .tuple #[.agg #[.int .i64 0, .slice none 0 0, .slice none 0 0], .int .i64 9]) (by simp [results, Tryz.results23, go_sem, ob]) rfl (SpecRes.none hb2 hX5 _ _ _)
              | false =>
                simp only [hd1] at LH1
                have hd1' := Lib.hid (of_decide_eq_false hd1)
                clear hd1
                cases hd2 : decide (m.sy ∈ c.r) with
                | true =>
                  simp only [hd2] at LH2
                  have HE6 : Hid (R = (blankC, 9)) := by unfold Hid; rw [HE5.out, if_neg (fun h => (HF.out.1 h).2.2.2.1 (of_decide_eq_true hd2))]
                  clear hz hd2
                  go_wp2_with fail
                  refine wp_region_ext (by kernel_rfl) (by kernel_rfl) ?_
                  repeat (go_big_quiet_step ((first | (go_at_call 49; with_reducible exact Calls.sameR (LH1 _ _)) | (go_at_call 49; with_reducible exact Calls.sameR (LH2 _ _)))))
                  refine wpQuiet_nil ?_
                  intro w5 hx5
                  have hX5 := hX4.trans hx5
                  have ob := (bO4.ext hx5).cell
                  have of_ := (bO4.ext hx5).frozen
                  go_wp2
                  rw [HE6.out]
                  exact bodyPost_ret (v := .tuple #[.agg #[.int .i64 0, .slice none 0 0, .slice none 0 0], .int .i64 9]) (by simp [results, Tryz.results23, go_sem, ob]) rfl (SpecRes.none hb2 hX5 _ _ _)
                | false =>
                  simp only [hd2] at LH2
                  have hd2' := Lib.hid (of_decide_eq_false hd2)
                  clear hd2
                  cases hpar : ((n : Int) % 2 == ph) with
                  | true =>
                    have HE6 : Hid (R = (blankC, 9)) := by unfold Hid; rw [HE5.out, if_neg (fun h => (HF.out.1 h).2.2.2.2 (by simpa using hpar))]
                    clear hz
                    go_wp2_with fail
                    refine wp_region_ext (by kernel_rfl) (by kernel_rfl) ?_
                    repeat (go_big_quiet_step ((first | (go_at_call 49; with_reducible exact Calls.sameR (LH1 _ _)) | (go_at_call 49; with_reducible exact Calls.sameR (LH2 _ _)))))
                    refine wpQuiet_nil ?_
                    intro w5 hx5
                    have hX5 := hX4.trans hx5
                    have ob := (bO4.ext hx5).cell
                    have of_ := (bO4.ext hx5).frozen
                    go_wp2
                    rw [HE6.out]
                    exact bodyPost_ret (v := .tuple #[.agg #[.int .i64 0, .slice none 0 0, .slice none 0 0], .int .i64 9]) (by simp [results, Tryz.results23, go_sem, ob]) rfl (SpecRes.none hb2 hX5 _ _ _)
                  | false =>
                    have hfm : fmtB m.sy c ph = true := HF.out.2 ⟨hn1, hz, hd1'.out, hd2'.out, by simpa using hpar⟩
                    have HE6 : Hid (R = unfD pq (backD c) n) := by unfold Hid; rw [HE5.out, if_pos hfm]
                    have HBI : Hid (∀ x ∈ backD c, inB x 0 (m.sy - 1) = true) := Lib.hid (HBI0.out hfm)
                    clear hz hfm HF HBI0 HBL0
                    have hdl0 := HDLL.out
                    go_wp2_with fail
                    refine wp_region_ext (by kernel_rfl) (by kernel_rfl) ?_
                    repeat (go_big_quiet_step ((first | (go_at_call 49; with_reducible exact Calls.sameR (LH1 _ _)) | (go_at_call 49; with_reducible exact Calls.sameR (LH2 _ _)))))
                    refine wpQuiet_nil ?_
                    intro w6 hx6
                    clear C1 C2 M0 LZ LH1 LH2
                    have hX6 := hX4.trans hx6
                    have d1 := (Ext.drew w6).cell (hx6.cell c1)
                    have d2 := (Ext.drew w6).cell (hx6.cell c2)
                    have t6 := (t1.ext hx6).ext (Ext.drew w6)
                    have r6 := (hrv.ext hx6).ext (Ext.drew w6)
                    have RA := fun w (hx : Ext w6.drew w) (v : Value) (xs : List Int) (ho : OwnInts w6.drew.heap.size w v xs) (hl : xs.length ≤ 200) => run_append_ints w w6.drew.heap.size v _ xs c.r ho (r6.ext hx) fr (by omega) hx.size
                    have hdl : c.l.dropLast.reverse.length ≤ 200 := by rw [List.length_reverse, hdl0]; omega
                    have HBK : Hid (c.l.dropLast.reverse ++ c.r = backD c) := rfl
                    have hdl' : c.l.dropLast.length ≤ 1048576 := by rw [hdl0]; omega
                    have i6 : IntKind.i64.wrap ((n : Int) - 1) = (n : Int) - 1 := IntWalk.i64_in _ (by omega)
                    have i7 : (1 : Int) ≤ (n : Int) := by omega
                    clear hdl0
                    have hbl : (backD c).length ≤ 10000 := by have := HBL.out; omega
                    generalize backD c = D at *
                    go_wp2
                    go_region_law
                      (first
                        | (go_simp; go_at_call 50; ((with_reducible refine (l03Reverse_c _ c.l.dropLast _ t6 hdl').mono ?_)); rintro e w7 ⟨u7, rfl, ho7, hx7⟩; obtain ⟨v8, w8, hr8, ho8, hg8⟩ := RA _ hx7 _ _ ho7 hdl; have d3 := hx7.cell d2)
                        | (refine step_append_by (by rfl) _ _ _ (by rfl) _ _ _ (by first | rfl | simp [Act.eval, Act.put]) (by first | rfl | simp [Act.eval, Act.put]) hr8 ?_))
                    all_goals
                      rw [HBK.out] at ho8
                      have hX8 : Ext w w8 := (((hX6.trans (Ext.drew _)).trans hx7)).grown hg8 (fun g hg => by have := (ho7.lt g hg).1; have := (hX6.trans (Ext.drew w6)).size; omega)
                      have hE8 : Ext w4 w8 := (((hx6.trans (Ext.drew _)).trans hx7)).grown hg8 (fun g hg => by have := (ho7.lt g hg).1; have := (hx6.trans (Ext.drew w6)).size; omega)
                      clear hr8 RA d1 d2 d3 hx7 hg8
                      obtain ⟨A8, c8, rfl, _, _⟩ := ho8.ints.form
                      have q8 := hE8.cell uq1
                      have bM8 := bM4.ext hE8
                      go_wp2_with fail
                      refine (l13Unfold_c _ D n pq w8 ho8.ints hbl hn1 (by have := HBL.out; omega)).mono ?_
                      rintro e w9 ⟨lv9, rv9, rfl, hol, hor, hx9⟩
                      obtain ⟨L9, hL9⟩ : ∃ L, L = unfL D (plZ n) := ⟨_, rfl⟩
                      obtain ⟨R9, hR9⟩ : ∃ L, L = unfR D (plZ n) := ⟨_, rfl⟩
                      rw [← hL9] at hol
                      rw [← hR9] at hor
                      have HU : Hid (R = if confB m ⟨pq, L9, R9⟩ then (⟨pq, L9, R9⟩, 0) else (blankC, 5)) := by
                        unfold Hid
                        rw [HE6.out, unfD_alt (m := m) HPQ.out HBI.out (by omega), hL9, hR9]
                      clear hL9 hR9
                      obtain ⟨A9, k9, rfl, _, _⟩ := hol.ints.form
                      obtain ⟨B9, j9, rfl, _, _⟩ := hor.ints.form
                      obtain ⟨X, hX⟩ : ∃ X, X = w9.alloc (.cells #[.int .i64 pq, .slice A9 L9.length k9, .slice B9 R9.length j9] 37) := ⟨_, rfl⟩
                      have hxX : Ext w9 X := by rw [hX]; exact Ext.alloc _ _
                      have bX : Blk X w9.heap.size 37 #[.int .i64 pq, .slice A9 L9.length k9, .slice B9 R9.length j9] := by rw [hX]; exact Blk.new _ _ _ _ rfl
                      have e0 := bX.cell 0
                      have e1 := bX.cell 1
                      have e2 := bX.cell 2
                      have hEX := (hE8.trans hx9).trans hxX
                      have n0 := (bM4.ext hEX).cell 0
                      have n1 := (bM4.ext hEX).cell 1
                      simp only [List.getElem?_toArray, List.getElem?_cons_zero, List.getElem?_cons_succ] at e0 e1 e2 n0 n1
                      have hcp : ConfP X w9.heap.size ⟨pq, L9, R9⟩ := ⟨_, _, e0, e1, e2, hol.ints.ext hxX, hor.ints.ext hxX⟩
                      have GD := l05Good_c w.heap.size 0 w9.heap.size m ⟨pq, L9, R9⟩ X n0 n1 hcp (by omega) (by omega) (by omega) (by omega)
                      have hXX := (hX8.trans hx9).trans hxX
                      go_wp2_with fail
                      rw [← hX]
                      clear hX e0 e1 e2 n0 n1 q8
                      refine GD.mono ?_
                      rintro e w10 ⟨rfl, hx10⟩
                      have hX5 := hXX.trans hx10
                      have bO10 := (bO4.ext hEX).ext hx10
                      have ob := bO10.cell
                      have of_ := bO10.frozen
                      have o9 := (hol.ext hxX).ext hx10
                      have p9 := (hor.ext hxX).ext hx10
                      have hb8 : w.heap.size + 1 + 1 < w8.heap.size := (bO4.ext hE8).lt
                      have f1 : ∀ g, (Value.slice A9 L9.length k9).ownBlock = some g → g ≠ w.heap.size + 1 + 1 := fun g hg => by have := (o9.lt g hg).1; omega
                      have f2 : ∀ g, (Value.slice B9 R9.length j9).ownBlock = some g → g ≠ w.heap.size + 1 + 1 := fun g hg => by have := (p9.lt g hg).1; omega
                      have e0 := (bX.ext hx10).cell 0
                      have e1 := (bX.ext hx10).cell 1
                      have e2 := (bX.ext hx10).cell 2
                      simp only [List.getElem?_toArray, List.getElem?_cons_zero, List.getElem?_cons_succ] at e0 e1 e2
                      cases hcb : confB m ⟨pq, L9, R9⟩ with
                      | false =>
                        have HV : Hid (R = (blankC, 5)) := by unfold Hid; rw [HU.out, hcb]; rfl
                        clear hcb
                        go_wp2
                        rw [HV.out]
                        exact bodyPost_ret (v := .tuple #[.agg #[.int .i64 0, .slice none 0 0, .slice none 0 0], .int .i64 5]) (by simp [results, Tryz.results23, go_sem, ob]) rfl (SpecRes.none hb2 hX5 _ _ _)
                      | true =>
                        have HV : Hid (R = (⟨pq, L9, R9⟩, 0)) := by unfold Hid; rw [HU.out, hcb]; rfl
                        clear hcb
                        go_wp2
                        rw [HV.out]
                        exact bodyPost_ret (v := .tuple #[.agg #[.int .i64 pq, .slice A9 L9.length k9, .slice B9 R9.length j9], .int .i64 0]) (by simp [results, Tryz.results23, go_sem, ob]) rfl (SpecRes.done (r := (⟨pq, L9, R9⟩, 0)) hb2 hX5 o9 p9 f1 f2 _ _ _)
            · have bz : (z != m.sy) = true := by simp [hz]
              have HE6 : Hid (R = (blankC, 9)) := by unfold Hid; rw [HE5.out, if_neg (fun h => hz (HF.out.1 h).2.1)]
              clear hz
              go_wp2_with fail
              refine wp_region_ext (by kernel_rfl) (by kernel_rfl) ?_
              repeat (go_big_quiet_step ((first | (go_at_call 49; with_reducible exact Calls.sameR (LH1 _ _)) | (go_at_call 49; with_reducible exact Calls.sameR (LH2 _ _)))))
              refine wpQuiet_nil ?_
              intro w5 hx5
              have hX5 := hX4.trans hx5
              have ob := (bO4.ext hx5).cell
              have of_ := (bO4.ext hx5).frozen
              go_wp2
              rw [HE6.out]
              exact bodyPost_ret (v := .tuple #[.agg #[.int .i64 0, .slice none 0 0, .slice none 0 0], .int .i64 9]) (by simp [results, Tryz.results23, go_sem, ob]) rfl (SpecRes.none hb2 hX5 _ _ _)
        · have b0 : (pk == 0) = false := by simp [h0]
          have hcr0 := hq.ext hX4
          obtain ⟨r0, hr0⟩ : ∃ r0, r0 = c.r.getD 0 0 := ⟨_, rfl⟩
          have hCW4 := (hCW.ext hE3).ext hx4
          have hCA : ConfAt w4 (w.heap.size + 1) ⟨c.q, c.l, c.r⟩ := hCW4
          have HD0 := fun d os => l05Head_c (w.heap.size + 1) ⟨c.q, c.l, c.r⟩ _ (hCA.ext (below_regrown w4 d os))
          have ehd : hdR c.r = r0 := by rw [hr0]; rfl
          simp only [ehd] at HD0
          have U0 := cellR uq0
          have m0' := ((bM.ext hE3).ext hx4).cell 0
          simp only [List.getElem?_toArray, List.getElem?_cons_zero] at m0'
          have M0' := cellR m0'
          clear hcu
          generalize hlne : (encL ⟨pk, pq, ph⟩).length = ne at *
          clear hlne
          by_cases h5 : pk = 5
          · have b5 : (pk != 5) = false := by simp [h5]
            by_cases hr : r0 = m.sy
            · have br : (r0 == m.sy) = true := by simp [hr]
              have HE6 : Hid (R = (blankC, 6)) := by
                have hs : stF m.sy ⟨pk, pq, ph⟩ c = (0, 0, false) := by simp only [stF, ← hr0]; rw [if_neg h0, if_neg (fun h => h.2 hr)]
                unfold Hid; rw [HX.out, hs]; rfl
              clear h0 h5 hr hr0 ehd
              go_wp2_with fail
              refine wp_region_ext (by kernel_rfl) (by kernel_rfl) ?_
              repeat (go_big_quiet_step ((go_at_call 48; exact Calls.sameR (HD0 _ _))))
              refine wpQuiet_nil ?_
              intro w5 hx5
              have hX5 := hX4.trans hx5
              have ob := ((bO3.ext hx4).ext hx5).cell
              have of_ := ((bO3.ext hx4).ext hx5).frozen
              go_wp2
              rw [HE6.out]
              exact bodyPost_ret (v := .tuple #[.agg #[.int .i64 0, .slice none 0 0, .slice none 0 0], .int .i64 6]) (by simp [results, Tryz.results23, go_sem, ob]) rfl (SpecRes.none hb2 hX5 _ _ _)
            · have br : (r0 == m.sy) = false := by simp [hr]
              have HE5 : Hid (R = if fmtB m.sy c 1 then unfD pq (backD c) c.l.length else (blankC, 9)) := by
                have hs : stF m.sy ⟨pk, pq, ph⟩ c = (pq, 1, true) := by simp only [stF, ← hr0]; rw [if_neg h0, if_pos ⟨h5, hr⟩]
                unfold Hid; rw [HX.out, hs]; rfl
              clear h0 h5 hr hr0 ehd
              go_wp2_with fail
              refine wp_region_ext (by kernel_rfl) (by kernel_rfl) ?_
              repeat (go_big_quiet_step ((go_at_call 48; exact Calls.sameR (HD0 _ _))))
              refine wpQuiet_nil ?_
              intro wh hxh
              have hXh := hX4.trans hxh
              clear HD0 U0 M0' m0'
              have uq1 := hxh.cell uq1
              have HF := Lib.hid (fmt_iff m.sy c 1)
              have HBI0 := Lib.hid (back_in (half := 1) HB2.out HB4.out)
              have HBL0 := Lib.hid (back_len (c := c))
              have bO4 := ((bO3.ext hx4).ext hxh)
              have bM4 := bM.ext (hE3.trans (hx4.trans hxh))
              have m0 := bM4.cell 0
              simp only [List.getElem?_toArray, List.getElem?_cons_zero] at m0
              have M0 := cellR m0
              have c1 := (hx4.trans hxh).cell c1
              have c2 := (hx4.trans hxh).cell c2
              have C1 := cellR c1
              have C2 := cellR c2
              have hlv := hl.ext hXh
              have hrv := hq.ext hXh
              by_cases hn0 : c.l.length = 0
              · have bn0 : ((c.l.length : Int) == 0) = true := by simp [hn0]
                have HE6 : Hid (R = (blankC, 9)) := by unfold Hid; rw [HE5.out, if_neg (fun h => by have := (HF.out.1 h).1; omega)]
                clear hn0
                generalize c.l.length = n at *
                go_wp2_with fail
                refine wp_region_ext (by kernel_rfl) (by kernel_rfl) ?_
                repeat (go_big_quiet_step (fail))
                refine wpQuiet_nil ?_
                intro w5 hx5
                have hX5 := hXh.trans hx5
                have ob := (bO4.ext hx5).cell
                have of_ := (bO4.ext hx5).frozen
                go_wp2
                rw [HE6.out]
                exact bodyPost_ret (v := .tuple #[.agg #[.int .i64 0, .slice none 0 0, .slice none 0 0], .int .i64 9]) (by simp [results, Tryz.results23, go_sem, ob]) rfl (SpecRes.none hb2 hX5 _ _ _)
              · have bn0 : ((c.l.length : Int) == 0) = false := by rw [beq_eq_false_iff_ne]; omega
                have hn1 : 1 ≤ c.l.length := by omega
                have hl1 : c.l.length - 1 < c.l.length := by omega
                have t1 : Ints wh (.slice Al (c.l.length - 1) cl) c.l.dropLast := by
                  rw [List.dropLast_eq_take]
                  exact hlv.take (c.l.length - 1) (by omega)
                obtain ⟨bl, ol, rfl, hcl9⟩ := hlv.at hl1
                have LZ := cellR (hcl9 (c.l.length - 1) hl1)
                have hlast : c.l.getLastD 0 = c.l[c.l.length - 1] := lastD_get (by omega)
                rw [hlast] at HF
                have i1 : (0 : Int) ≤ (c.l.length : Int) - 1 := by omega
                have i2 : (c.l.length : Int) - 1 < (c.l.length : Int) := by omega
                have i3 : ((c.l.length : Int) - 1).toNat = c.l.length - 1 := by omega
                have i4 : c.l.length - 1 ≤ cl := by omega
                have i5 : (c.l.length : Int) - 1 ≤ (cl : Int) := by omega
                clear hcl9 hlast
                generalize c.l[c.l.length - 1] = z at *
                clear hl1 hn0
                have hdll : c.l.dropLast.length = c.l.length - 1 := List.length_dropLast
                have HBL : Hid ((backD c).length + 1 = c.l.length + c.r.length) := Lib.hid (HBL0.out hn1)
                have HDLL := Lib.hid hdll
                clear hdll
                have LH1 := fun d os => l00Has_c (.slice (some ⟨bl, ol, none⟩) (c.l.length - 1) cl) c.l.dropLast m.sy _ (t1.ext (below_regrown wh d os))
                have LH2 := fun d os => l00Has_c (.slice Ar c.r.length cr) c.r m.sy _ (hrv.ext (below_regrown wh d os))
                generalize c.l.length = n at *
                by_cases hz : z = m.sy
                · have bz : (z != m.sy) = false := by simp [hz]
                  cases hd1 : decide (m.sy ∈ c.l.dropLast) with
                  | true =>
                    simp only [hd1] at LH1
                    have HE6 : Hid (R = (blankC, 9)) := by unfold Hid; rw [HE5.out, if_neg (fun h => (HF.out.1 h).2.2.1 (of_decide_eq_true hd1))]
                    clear hz hd1
                    go_wp2_with fail
                    refine wp_region_ext (by kernel_rfl) (by kernel_rfl) ?_
                    repeat (go_big_quiet_step ((first | (go_at_call 49; with_reducible exact Calls.sameR (LH1 _ _)) | (go_at_call 49; with_reducible exact Calls.sameR (LH2 _ _)))))
                    refine wpQuiet_nil ?_
                    intro w5 hx5
                    have hX5 := hXh.trans hx5
                    have ob := (bO4.ext hx5).cell
                    have of_ := (bO4.ext hx5).frozen
                    go_wp2
                    rw [HE6.out]
                    exact bodyPost_ret (v := .tuple #[.agg #[.int .i64 0, .slice none 0 0, .slice none 0 0], .int .i64 9]) (by simp [results, Tryz.results23, go_sem, ob]) rfl (SpecRes.none hb2 hX5 _ _ _)
                  | false =>
                    simp only [hd1] at LH1
                    have hd1' := Lib.hid (of_decide_eq_false hd1)
                    clear hd1
                    cases hd2 : decide (m.sy ∈ c.r) with
                    | true =>
                      simp only [hd2] at LH2
                      have HE6 : Hid (R = (blankC, 9)) := by unfold Hid; rw [HE5.out, if_neg (fun h => (HF.out.1 h).2.2.2.1 (of_decide_eq_true hd2))]
                      clear hz hd2
                      go_wp2_with fail
                      refine wp_region_ext (by kernel_rfl) (by kernel_rfl) ?_
                      repeat (go_big_quiet_step ((first | (go_at_call 49; with_reducible exact Calls.sameR (LH1 _ _)) | (go_at_call 49; with_reducible exact Calls.sameR (LH2 _ _)))))
                      refine wpQuiet_nil ?_
                      intro w5 hx5
                      have hX5 := hXh.trans hx5
                      have ob := (bO4.ext hx5).cell
                      have of_ := (bO4.ext hx5).frozen
                      go_wp2
                      rw [HE6.out]
                      exact bodyPost_ret (v := .tuple #[.agg #[.int .i64 0, .slice none 0 0, .slice none 0 0], .int .i64 9]) (by simp [results, Tryz.results23, go_sem, ob]) rfl (SpecRes.none hb2 hX5 _ _ _)
                    | false =>
                      simp only [hd2] at LH2
                      have hd2' := Lib.hid (of_decide_eq_false hd2)
                      clear hd2
                      cases hpar : ((n : Int) % 2 == 1) with
                      | true =>
                        have HE6 : Hid (R = (blankC, 9)) := by unfold Hid; rw [HE5.out, if_neg (fun h => (HF.out.1 h).2.2.2.2 (by simpa using hpar))]
                        clear hz
                        go_wp2_with fail
                        refine wp_region_ext (by kernel_rfl) (by kernel_rfl) ?_
                        repeat (go_big_quiet_step ((first | (go_at_call 49; with_reducible exact Calls.sameR (LH1 _ _)) | (go_at_call 49; with_reducible exact Calls.sameR (LH2 _ _)))))
                        refine wpQuiet_nil ?_
                        intro w5 hx5
                        have hX5 := hXh.trans hx5
                        have ob := (bO4.ext hx5).cell
                        have of_ := (bO4.ext hx5).frozen
                        go_wp2
                        rw [HE6.out]
                        exact bodyPost_ret (v := .tuple #[.agg #[.int .i64 0, .slice none 0 0, .slice none 0 0], .int .i64 9]) (by simp [results, Tryz.results23, go_sem, ob]) rfl (SpecRes.none hb2 hX5 _ _ _)
                      | false =>
                        have hfm : fmtB m.sy c 1 = true := HF.out.2 ⟨hn1, hz, hd1'.out, hd2'.out, by simpa using hpar⟩
                        have HE6 : Hid (R = unfD pq (backD c) n) := by unfold Hid; rw [HE5.out, if_pos hfm]
                        have HBI : Hid (∀ x ∈ backD c, inB x 0 (m.sy - 1) = true) := Lib.hid (HBI0.out hfm)
                        clear hz hfm HF HBI0 HBL0
                        have hdl0 := HDLL.out
                        go_wp2_with fail
                        refine wp_region_ext (by kernel_rfl) (by kernel_rfl) ?_
                        repeat (go_big_quiet_step ((first | (go_at_call 49; with_reducible exact Calls.sameR (LH1 _ _)) | (go_at_call 49; with_reducible exact Calls.sameR (LH2 _ _)))))
                        refine wpQuiet_nil ?_
                        intro w6 hx6
                        clear C1 C2 M0 LZ LH1 LH2
                        have hX6 := hXh.trans hx6
                        have d1 := (Ext.drew w6).cell (hx6.cell c1)
                        have d2 := (Ext.drew w6).cell (hx6.cell c2)
                        have t6 := (t1.ext hx6).ext (Ext.drew w6)
                        have r6 := (hrv.ext hx6).ext (Ext.drew w6)
                        have RA := fun w (hx : Ext w6.drew w) (v : Value) (xs : List Int) (ho : OwnInts w6.drew.heap.size w v xs) (hl : xs.length ≤ 200) => run_append_ints w w6.drew.heap.size v _ xs c.r ho (r6.ext hx) fr (by omega) hx.size
                        have hdl : c.l.dropLast.reverse.length ≤ 200 := by rw [List.length_reverse, hdl0]; omega
                        have HBK : Hid (c.l.dropLast.reverse ++ c.r = backD c) := rfl
                        have hdl' : c.l.dropLast.length ≤ 1048576 := by rw [hdl0]; omega
                        have i6 : IntKind.i64.wrap ((n : Int) - 1) = (n : Int) - 1 := IntWalk.i64_in _ (by omega)
                        have i7 : (1 : Int) ≤ (n : Int) := by omega
                        clear hdl0
                        have hbl : (backD c).length ≤ 10000 := by have := HBL.out; omega
                        generalize backD c = D at *
                        go_wp2
                        go_region_law
                          (first
                            | (go_simp; go_at_call 50; ((with_reducible refine (l03Reverse_c _ c.l.dropLast _ t6 hdl').mono ?_)); rintro e w7 ⟨u7, rfl, ho7, hx7⟩; obtain ⟨v8, w8, hr8, ho8, hg8⟩ := RA _ hx7 _ _ ho7 hdl; have d3 := hx7.cell d2)
                            | (refine step_append_by (by rfl) _ _ _ (by rfl) _ _ _ (by first | rfl | simp [Act.eval, Act.put]) (by first | rfl | simp [Act.eval, Act.put]) hr8 ?_))
                        all_goals
                          rw [HBK.out] at ho8
                          have hX8 : Ext w w8 := (((hX6.trans (Ext.drew _)).trans hx7)).grown hg8 (fun g hg => by have := (ho7.lt g hg).1; have := (hX6.trans (Ext.drew w6)).size; omega)
                          have hE8 : Ext wh w8 := (((hx6.trans (Ext.drew _)).trans hx7)).grown hg8 (fun g hg => by have := (ho7.lt g hg).1; have := (hx6.trans (Ext.drew w6)).size; omega)
                          clear hr8 RA d1 d2 d3 hx7 hg8
                          obtain ⟨A8, c8, rfl, _, _⟩ := ho8.ints.form
                          have q8 := hE8.cell uq1
                          have bM8 := bM4.ext hE8
                          go_wp2_with fail
                          refine (l13Unfold_c _ D n pq w8 ho8.ints hbl hn1 (by have := HBL.out; omega)).mono ?_
                          rintro e w9 ⟨lv9, rv9, rfl, hol, hor, hx9⟩
                          obtain ⟨L9, hL9⟩ : ∃ L, L = unfL D (plZ n) := ⟨_, rfl⟩
                          obtain ⟨R9, hR9⟩ : ∃ L, L = unfR D (plZ n) := ⟨_, rfl⟩
                          rw [← hL9] at hol
                          rw [← hR9] at hor
                          have HU : Hid (R = if confB m ⟨pq, L9, R9⟩ then (⟨pq, L9, R9⟩, 0) else (blankC, 5)) := by
                            unfold Hid
                            rw [HE6.out, unfD_alt (m := m) HPQ.out HBI.out (by omega), hL9, hR9]
                          clear hL9 hR9
                          obtain ⟨A9, k9, rfl, _, _⟩ := hol.ints.form
                          obtain ⟨B9, j9, rfl, _, _⟩ := hor.ints.form
                          obtain ⟨X, hX⟩ : ∃ X, X = w9.alloc (.cells #[.int .i64 pq, .slice A9 L9.length k9, .slice B9 R9.length j9] 37) := ⟨_, rfl⟩
                          have hxX : Ext w9 X := by rw [hX]; exact Ext.alloc _ _
                          have bX : Blk X w9.heap.size 37 #[.int .i64 pq, .slice A9 L9.length k9, .slice B9 R9.length j9] := by rw [hX]; exact Blk.new _ _ _ _ rfl
                          have e0 := bX.cell 0
                          have e1 := bX.cell 1
                          have e2 := bX.cell 2
                          have hEX := (hE8.trans hx9).trans hxX
                          have n0 := (bM4.ext hEX).cell 0
                          have n1 := (bM4.ext hEX).cell 1
                          simp only [List.getElem?_toArray, List.getElem?_cons_zero, List.getElem?_cons_succ] at e0 e1 e2 n0 n1
                          have hcp : ConfP X w9.heap.size ⟨pq, L9, R9⟩ := ⟨_, _, e0, e1, e2, hol.ints.ext hxX, hor.ints.ext hxX⟩
                          have GD := l05Good_c w.heap.size 0 w9.heap.size m ⟨pq, L9, R9⟩ X n0 n1 hcp (by omega) (by omega) (by omega) (by omega)
                          have hXX := (hX8.trans hx9).trans hxX
                          go_wp2_with fail
                          rw [← hX]
                          clear hX e0 e1 e2 n0 n1 q8
                          refine GD.mono ?_
                          rintro e w10 ⟨rfl, hx10⟩
                          have hX5 := hXX.trans hx10
                          have bO10 := (bO4.ext hEX).ext hx10
                          have ob := bO10.cell
                          have of_ := bO10.frozen
                          have o9 := (hol.ext hxX).ext hx10
                          have p9 := (hor.ext hxX).ext hx10
                          have hb8 : w.heap.size + 1 + 1 < w8.heap.size := (bO4.ext hE8).lt
                          have f1 : ∀ g, (Value.slice A9 L9.length k9).ownBlock = some g → g ≠ w.heap.size + 1 + 1 := fun g hg => by have := (o9.lt g hg).1; omega
                          have f2 : ∀ g, (Value.slice B9 R9.length j9).ownBlock = some g → g ≠ w.heap.size + 1 + 1 := fun g hg => by have := (p9.lt g hg).1; omega
                          have e0 := (bX.ext hx10).cell 0
                          have e1 := (bX.ext hx10).cell 1
                          have e2 := (bX.ext hx10).cell 2
                          simp only [List.getElem?_toArray, List.getElem?_cons_zero, List.getElem?_cons_succ] at e0 e1 e2
                          cases hcb : confB m ⟨pq, L9, R9⟩ with
                          | false =>
                            have HV : Hid (R = (blankC, 5)) := by unfold Hid; rw [HU.out, hcb]; rfl
                            clear hcb
                            go_wp2
                            rw [HV.out]
                            exact bodyPost_ret (v := .tuple #[.agg #[.int .i64 0, .slice none 0 0, .slice none 0 0], .int .i64 5]) (by simp [results, Tryz.results23, go_sem, ob]) rfl (SpecRes.none hb2 hX5 _ _ _)
                          | true =>
                            have HV : Hid (R = (⟨pq, L9, R9⟩, 0)) := by unfold Hid; rw [HU.out, hcb]; rfl
                            clear hcb
                            go_wp2
                            rw [HV.out]
                            exact bodyPost_ret (v := .tuple #[.agg #[.int .i64 pq, .slice A9 L9.length k9, .slice B9 R9.length j9], .int .i64 0]) (by simp [results, Tryz.results23, go_sem, ob]) rfl (SpecRes.done (r := (⟨pq, L9, R9⟩, 0)) hb2 hX5 o9 p9 f1 f2 _ _ _)
                · have bz : (z != m.sy) = true := by simp [hz]
                  have HE6 : Hid (R = (blankC, 9)) := by unfold Hid; rw [HE5.out, if_neg (fun h => hz (HF.out.1 h).2.1)]
                  clear hz
                  go_wp2_with fail
                  refine wp_region_ext (by kernel_rfl) (by kernel_rfl) ?_
                  repeat (go_big_quiet_step ((first | (go_at_call 49; with_reducible exact Calls.sameR (LH1 _ _)) | (go_at_call 49; with_reducible exact Calls.sameR (LH2 _ _)))))
                  refine wpQuiet_nil ?_
                  intro w5 hx5
                  have hX5 := hXh.trans hx5
                  have ob := (bO4.ext hx5).cell
                  have of_ := (bO4.ext hx5).frozen
                  go_wp2
                  rw [HE6.out]
                  exact bodyPost_ret (v := .tuple #[.agg #[.int .i64 0, .slice none 0 0, .slice none 0 0], .int .i64 9]) (by simp [results, Tryz.results23, go_sem, ob]) rfl (SpecRes.none hb2 hX5 _ _ _)
          · have b5 : (pk != 5) = true := by simp [h5]
            have HE6 : Hid (R = (blankC, 6)) := by
              have hs : stF m.sy ⟨pk, pq, ph⟩ c = (0, 0, false) := by simp only [stF]; rw [if_neg h0, if_neg (fun h => h5 h.1)]
              unfold Hid; rw [HX.out, hs]; rfl
            clear h0 h5 hr0 ehd
            go_wp2_with fail
            refine wp_region_ext (by kernel_rfl) (by kernel_rfl) ?_
            repeat (go_big_quiet_step ((go_at_call 48; exact Calls.sameR (HD0 _ _))))
            refine wpQuiet_nil ?_
            intro w5 hx5
            have hX5 := hX4.trans hx5
            have ob := ((bO3.ext hx4).ext hx5).cell
            have of_ := ((bO3.ext hx4).ext hx5).frozen
            go_wp2
            rw [HE6.out]
            exact bodyPost_ret (v := .tuple #[.agg #[.int .i64 0, .slice none 0 0, .slice none 0 0], .int .i64 6]) (by simp [results, Tryz.results23, go_sem, ob]) rfl (SpecRes.none hb2 hX5 _ _ _)
end Go.Proofs.YtjcfmlecfjmcgaaGreatDoor
end
section
set_option linter.unusedSimpArgs false
set_option linter.unusedVariables false
namespace Go.Proofs.YtjcfmlecfjmcgaaGreatDoor
open Go Go.RowKit Go.Proofs
set_option maxHeartbeats 400000
theorem encL_start (q : Int) : encL ⟨0, q, 0⟩ = [0, q, 0] := rfl
/-- A configuration in a block that has been made: its state and its sides. -/
def CutK (w0 : World) (q : Int) (l r : List Int) (s : Value) (w : World) : Prop := ∃ g lv rv bl br, s = .pointer (some ⟨g, 0, none⟩) ∧ Blk w g 37 #[.int .i64 q, lv, rv] ∧ Ext w0 w ∧ w0.heap.size ≤ g ∧ OwnInts bl w lv l ∧ OwnInts br w rv r ∧ w0.heap.size ≤ bl ∧ w0.heap.size ≤ br
theorem CutK.late {w0 wC : World} {q : Int} {l r : List Int} {lv rv : Value} {bl br : Nat} (hx : Ext w0 wC) (h1 : OwnInts bl wC lv l) (h2 : OwnInts br wC rv r) (b1 : w0.heap.size ≤ bl) (b2 : w0.heap.size ≤ br) :
    CutK w0 q l r (.pointer (some ⟨wC.heap.size, 0, none⟩)) (wC.alloc (.cells #[.int .i64 q, lv, rv] 37)) :=
  ⟨_, lv, rv, bl, br, rfl, Blk.new _ _ _ _ rfl, hx.trans (Ext.alloc _ _), hx.size, h1.ext (Ext.alloc _ _), h2.ext (Ext.alloc _ _), b1, b2⟩
theorem CutK.early {w0 wC : World} {q : Int} {l r : List Int} {lv rv : Value} {bl br g : Nat} (hx : Ext w0 wC) (h1 : OwnInts bl wC lv l) (h2 : OwnInts br wC rv r) (b1 : w0.heap.size ≤ bl) (b2 : w0.heap.size ≤ br) (hb : Blk wC g 37 #[.int .i64 0, .slice none 0 0, .slice none 0 0]) (hg : w0.heap.size ≤ g) :
    CutK w0 q l r (.pointer (some ⟨g, 0, none⟩)) (((wC.setCell ⟨g, 0, none⟩ (.int .i64 q)).setCell ⟨g, 1, none⟩ lv).setCell ⟨g, 2, none⟩ rv) := by
  have n1 : ∀ k, lv.ownBlock = some k → k ≠ g := fun k hk e => by
    subst e
    exact blk_ne_row hb h1 (by decide) hk.symm
  have n2 : ∀ k, rv.ownBlock = some k → k ≠ g := fun k hk e => by
    subst e
    exact blk_ne_row hb h2 (by decide) hk.symm
  exact ⟨g, lv, rv, bl, br, rfl, ((hb.set_ 0 _).set_ 1 _).set_ 2 _, ((hx.setCell hg _).setCell hg _).setCell hg _, hg, ints_far (ints_far (ints_far h1 n1 _) n1 _) n1 _, ints_far (ints_far (ints_far h2 n2 _) n2 _) n2 _, b1, b2⟩
theorem CutK.mid {w0 wC : World} {q : Int} {r : List Int} {z : Int} {rv : Value} {br : Nat} (hx : Ext w0 wC) (h2 : OwnInts br wC rv r) (b2 : w0.heap.size ≤ br) :
    CutK w0 q [z] r (.pointer (some ⟨wC.heap.size, 0, none⟩)) ((wC.alloc (.cells #[.int .i64 q, .slice (some ⟨wC.heap.size + 1, 0, none⟩) 1 1, rv] 37)).alloc (.cells #[.int .i64 z] 2)) := by
  have hs := hx.size
  refine ⟨_, _, rv, w0.heap.size, br, rfl, (Blk.new _ _ _ _ rfl).alloc _, (hx.trans (Ext.alloc _ _)).trans (Ext.alloc _ _), hs, ?_, (h2.ext (Ext.alloc _ _)).ext (Ext.alloc _ _), Nat.le_refl _, b2⟩
  exact own_of_blk (zs := [z]) (Blk.new _ _ _ _ (by simp)) (by omega) (by simp)
set_option maxRecDepth 20000 in
set_option maxHeartbeats 4000000 in
theorem specFoldConfig_c (m : MachD) (c : ConfD) (mv lv rv : Value) (w : World) (hm : machOk m = true) (hc : confB m c = true) (hr : Rules w mv m.rules) (hl : Ints w lv c.l) (hq : Ints w rv c.r) :
    Calls Tryz.prog 20 #[.agg #[.int .i64 m.sy, .int .i64 m.st, mv], .agg #[.int .i64 c.q, lv, rv]] w (SpecRes w (startF m c)) := by
  obtain ⟨i0, hi, hz0, hz1, hz2⟩ := info_parts intInfo
  obtain ⟨s1, s2, s3, s4, hrl⟩ := machOk_all hm
  obtain ⟨⟨q0, q1⟩, ⟨b1, b2⟩, ⟨b3, b4⟩⟩ := conf_all hc
  clear b2 b4 hrl
  obtain ⟨Am, cm, rfl, _, _⟩ := hr.form
  obtain ⟨Al, cl, rfl, _, _⟩ := hl.form
  obtain ⟨Aq, cq, rfl, _, _⟩ := hq.form
  obtain ⟨k, hk⟩ : ∃ k, w.heap.size = k := ⟨_, rfl⟩
  obtain ⟨W, hW⟩ : ∃ W, ((w.alloc (.cells #[.int .i64 m.sy, .int .i64 m.st, .slice Am m.rules.length cm] 35)).alloc (.cells #[.int .i64 c.q, .slice Al c.l.length cl, .slice Aq c.r.length cq] 37)).alloc (.cells #[.int .i64 0, .slice none 0 0, .slice none 0 0] 37) = W := ⟨_, rfl⟩
  have hX : Ext w W := by rw [← hW]; exact ((Ext.alloc _ _).trans (Ext.alloc _ _)).trans (Ext.alloc _ _)
  have bM : Blk W k 35 #[.int .i64 m.sy, .int .i64 m.st, .slice Am m.rules.length cm] := by rw [← hW]; exact ((Blk.new _ _ _ _ hk).alloc _).alloc _
  have bC : Blk W (k + 1) 37 #[.int .i64 c.q, .slice Al c.l.length cl, .slice Aq c.r.length cq] := by rw [← hW]; exact (Blk.new _ _ _ _ (by simp [hk])).alloc _
  have bO : Blk W (k + 1 + 1) 37 #[.int .i64 0, .slice none 0 0, .slice none 0 0] := by rw [← hW]; exact Blk.new _ _ _ _ (by simp [hk])
  have m0 := bM.cell 0
  have m1 := bM.cell 1
  have m2 := bM.cell 2
  have c0 := bC.cell 0
  have c1 := bC.cell 1
  have c2 := bC.cell 2
  simp only [List.getElem?_toArray, List.getElem?_cons_zero, List.getElem?_cons_succ] at m0 m1 m2 c0 c1 c2
  have hMW : MachAt W k m := ⟨_, m0, m1, m2, hr.ext hX⟩
  have hCW : ConfP W (k + 1) c := ⟨_, _, c0, c1, c2, hl.ext hX, hq.ext hX⟩
  have HM := Lib.hid hm
  have HC := Lib.hid hc
  have HST := Lib.hid (show startF m c = startF m c from rfl)
  clear hm hc
  go_enter Tryz.func20, Tryz.ntmps20
  go_wp2_with fail
  try rw [hW]
  try rw [hk]
  clear hW
  refine (l05Is_c _ m _ hMW).mono ?_
  rintro e w1 ⟨rfl, hx1⟩
  rw [HM.out]
  have m0 := hx1.cell m0
  have m1 := hx1.cell m1
  go_wp2_with fail
  refine (l05Good_c k 0 (k + 1) m c w1 m0 m1 (hCW.ext hx1) (by omega) (by omega) (by omega) (by omega)).mono ?_
  rintro e w2 ⟨rfl, hx2⟩
  rw [HC.out]
  have hE2 := hx1.trans hx2
  go_wp2_with fail
  refine (l13MakeFold_c _ m w2 (hMW.ext hE2) HM.out).mono ?_
  rintro e w3 ⟨hres, hx3⟩
  have hE3 := hE2.trans hx3
  have hX3 := hX.trans hE3
  have bO3 := bO.ext hE3
  have hb2 : w.heap.size ≤ k + 1 + 1 := by omega
  clear m0 m1 m2 c0 c1 c2
  rcases hres with ⟨hn, bk, rfl⟩ | ⟨s, bk, rvk, pvk, vsk, hs, rfl, hst, hok, l1, l2⟩
  · have HE : Hid (startF m c = (blankC, 5)) := by unfold Hid startF; rw [hn]
    have ob := bO3.cell
    have of_ := bO3.frozen
    clear hn
    go_wp2
    rw [HE.out]
    exact bodyPost_ret (v := .tuple #[.agg #[.int .i64 0, .slice none 0 0, .slice none 0 0], .int .i64 5]) (by simp [results, Tryz.results20, go_sem, ob]) rfl (SpecRes.none hb2 hX3 _ _ _)
  · have hsy : m.sy ≤ 5 := by
      have := hs
      unfold foldOf at this
      split at this
      · cases this
      · omega
    have HE : Hid (startF m c = if (⟨0, c.q, 0⟩ : FP) ∈ s.1 then (if confB (foldM m s) (startX m c s) then (startX m c s, 0) else (blankC, 5)) else (blankC, 6)) := by unfold Hid startF; rw [hs]
    have c0 := (bC.ext hE3).cell 0
    have c1 := (bC.ext hE3).cell 1
    have c2 := (bC.ext hE3).cell 2
    have m0 := (bM.ext hE3).cell 0
    simp only [List.getElem?_toArray, List.getElem?_cons_zero, List.getElem?_cons_succ] at c0 c1 c2 m0
    obtain ⟨V, hV⟩ : ∃ V, w3.alloc (.cells #[.int .i64 0, .int .i64 c.q, .int .i64 0] 2) = V := ⟨_, rfl⟩
    have hXV : Ext w3 V := by rw [← hV]; exact Ext.alloc _ _
    have bL : Blk V w3.heap.size 2 (ivs [0, c.q, 0]).toArray := by rw [← hV]; exact Blk.new _ _ _ _ rfl
    have oL := own_of_blk (base := w3.heap.size) bL (by omega) (by simp)
    have hx0 : POk m.st ⟨0, c.q, 0⟩ := ⟨by show (0 : Int) ≤ 0; omega, by show (0 : Int) ≤ 5; omega, q0, q1, .inl rfl, fun _ => rfl⟩
    have hF := find13_c (hst.ext hXV) hok ⟨0, c.q, 0⟩ hx0 _ oL.ints (by omega)
    have HS := Lib.hid hs
    have HOK := Lib.hid hok
    clear hs hok bL
    go_wp2_with fail
    try rw [hV]
    clear hV
    refine hF.mono ?_
    rintro e w4 ⟨rfl, hx4⟩
    have hx4' := hXV.trans hx4
    have bO4 := bO3.ext hx4'
    have hE4 := hE3.trans hx4'
    have hX4 := hX.trans hE4
    by_cases hin : (⟨0, c.q, 0⟩ : FP) ∈ s.1
    · have hfn : findN s.1 ⟨0, c.q, 0⟩ = ((s.1.idxOf ⟨0, c.q, 0⟩ : Nat) : Int) := if_pos hin
      have HE2 : Hid (startF m c = if confB (foldM m s) (startX m c s) then (startX m c s, 0) else (blankC, 5)) := by unfold Hid; rw [HE.out, if_pos hin]
      have hix : s.1.idxOf ⟨0, c.q, 0⟩ < s.1.length := List.idxOf_lt_length_iff.2 hin
      rw [hfn]
      obtain ⟨ix, hix0⟩ : ∃ ix, s.1.idxOf ⟨0, c.q, 0⟩ = ix := ⟨_, rfl⟩
      have HIX := Lib.hid hix0
      rw [hix0] at hix ⊢
      have hnn : ¬ (ix : Int) < 0 := by omega
      clear hfn hin hix0
      have c0 := hx4'.cell c0
      have c1 := hx4'.cell c1
      have c2 := hx4'.cell c2
      have m0 := hx4'.cell m0
      obtain ⟨h0, hh0⟩ : ∃ h, w4.heap.size = h := ⟨_, rfl⟩
      obtain ⟨W5, hW5⟩ : ∃ W5, w4.alloc (.cells #[] 2) = W5 := ⟨_, rfl⟩
      have hX5 : Ext w4 W5 := by rw [← hW5]; exact Ext.alloc _ _
      have ho5 : OwnInts h0 W5 (.slice (some ⟨h0, 0, none⟩) 0 0) (interN c.r c.l 0) := by
        rw [← hW5, ← hh0]
        exact World.ownsRow_made (base := w4.heap.size) (e := 2) (size := 1) w4 #[] 0 (by simp) (by unfold maxLen; omega) (by simp)
      go_wp2_with fail
      try rw [hh0]
      try rw [hW5]
      clear hW5
      obtain ⟨N, hN⟩ : ∃ N : Nat, max c.l.length c.r.length = N := ⟨_, rfl⟩
      have hN2 : N ≤ 200 := by omega
      go_loopw [9, 10] (fun tv iv wr => ∃ i : Nat, i ≤ N ∧ iv = .int .i64 (i : Int) ∧ OwnInts h0 wr tv (interN c.r c.l i) ∧ Ext w4 wr) (fun _ iv _ => N - (intOf iv).toNat)
      case atStart => exact ⟨0, Nat.zero_le _, rfl, ho5, hX5⟩
      case round =>
        clear ho5 hX5
        obtain ⟨i, hiN, rfl, ho, hXr⟩ := hrel
        have hX5r := hX4.trans hXr
        have hh0r : h0 ≤ wr.heap.size := by have := hXr.size; omega
        obtain ⟨At, ct, rfl, _, _⟩ := ho.ints.form
        have HLEN := Lib.hid (interN_length c.r c.l i)
        have e1 := hXr.cell c1
        have e2 := hXr.cell c2
        by_cases hlt : i < N
        · have hor : (i : Int) < (c.l.length : Int) ∨ (¬ (i : Int) < (c.l.length : Int) ∧ (i : Int) < (c.r.length : Int)) := by omega
          have d1 := (Ext.drew wr).cell e1
          have d2 := (Ext.drew wr).cell e2
          have SR := fun W' (h : Ext wr W') => l13Cell_c (.slice Aq c.r.length cq) c.r i W' ((hq.ext hX5r).ext h)
          have SL := fun W' (h : Ext wr W') => l13Cell_c (.slice Al c.l.length cl) c.l i W' ((hl.ext hX5r).ext h)
          obtain ⟨x, hx0'⟩ : ∃ x, c.r.getD i 0 = x := ⟨_, rfl⟩
          obtain ⟨y, hy0⟩ : ∃ y, c.l.getD i 0 = y := ⟨_, rfl⟩
          rw [hx0'] at SR
          rw [hy0] at SL
          have HNX : Hid (interN c.r c.l (i + 1) = interN c.r c.l i ++ [x, y]) := by unfold Hid; rw [interN_succ, hx0', hy0]
          clear hx0' hy0
          generalize interN c.r c.l i = ys at *
          have hXd := Ext.drew wr
          rcases hor with hA | ⟨hA, hB⟩
          all_goals
            go_wp2_with fail
            refine wp_region_ordT 10 (readsT [0, 1, 2, 3, 5, 6, 7] (.stir 4 (.stir 8 (.stir 9 .done)))) (by kernel_rfl) (by kernel_rfl) (fun _ _ _ _ _ h => h) ?_
            simp only [readsT]
            generalize wr.drew = X at *
            iterate 7 (refine wpOrdT_read (v := ?_) (by rfl) (Or.inl ⟨by rfl, fun x hx => ?_⟩) ?_; rotate_left; (· have a1 := hx.cell d1; have a2 := hx.cell d2; go_simp; try with_reducible rfl); try simp only [Act.put, List.setIfInBounds_toArray, List.set_cons_zero, List.set_cons_succ])
            refine wpOrdT_keep (by rfl) (fun K hK => ?_)
            go_simp
            go_at_call 44
            refine (SR X hXd).mono ?_
            rintro e w' ⟨rfl, rfl⟩
            refine hK _ _ (Ext.refl _) ?_
            clear hK K
            refine wpOrdT_keep (by rfl) (fun K hK => ?_)
            go_simp
            go_at_call 44
            refine (SL X hXd).mono ?_
            rintro e w' ⟨rfl, rfl⟩
            refine hK _ _ (Ext.refl _) ?_
            clear hK K
            refine wpOrdT_keep (by rfl) (fun K hK => ?_)
            go_simp
            refine hK _ _ (Ext.alloc _ _) ?_
            clear hK K
            refine wpOrdT_done ?_
            try simp only [List.drop_succ_cons, List.drop_zero]
            have ho' := ownsRow_ext (ho.ext hXd) (Ext.alloc X (.cells #[.int .i64 x, .int .i64 y] 2))
            have hXs := hXd.size
            have hyl : ys.length ≤ 400 := by have := HLEN.out; omega
            clear SR SL d1 d2 hA
            go_wp2_with (at_builtin; refine wpList_append_own_at _ rfl _ _ 25 rfl h0 2 i0 (.int .i64 0) 1 8 Tryz.underlying25 hi hz0 hz1 hz2 rfl (by decide) _ _ _ rfl ho' ⟨X.heap.size, 0, none⟩ 2 2 [.int .i64 x, .int .i64 y] rfl rfl ?c1 ?c2 ?c3 ?c4 ?c5 ?_)
            case c1 =>
              intro j u hj
              match j, hj with
              | 0, hj => simp at hj; subst hj; simp [Addr.add]
              | 1, hj => simp at hj; subst hj; simp [Addr.add]
            case c2 => intro u hu; simp at hu; rcases hu with rfl | rfl <;> rfl
            case c3 => unfold maxLen; omega
            case c4 => omega
            case c5 => simp; omega
            intro v' w5 hown' hgrow _ _
            have HO : Hid (OwnInts h0 w5 v' (interN c.r c.l (i + 1))) := by
              unfold Hid OwnInts
              rw [HNX.out, ivs_append, List.length_append]
              exact hown'
            have HX5 : Hid (Ext w4 w5) := Lib.hid (((hXr.trans hXd).trans (Ext.alloc X _)).grown hgrow (fun b hb => by have := (ho'.lt b hb).1; omega))
            clear hown' hgrow ho'
            go_wp2
            go_roundw
            case rel => exact ⟨i + 1, by omega, by go_num, HO.out, HX5.out⟩
            case measure => simp [intOf]; omega
        · have d1 : ¬ (i : Int) < (c.l.length : Int) := by omega
          have d2 : ¬ (i : Int) < (c.r.length : Int) := by omega
          obtain rfl : i = N := by omega
          have m0r := hXr.cell m0
          obtain ⟨ys, hys⟩ : ∃ ys, interN c.r c.l i = ys := ⟨_, rfl⟩
          have HYS : Hid (startX m c s = ⟨(ix : Int), [m.sy], trim ys⟩) := by
            unfold Hid startX
            rw [hN, hys, HIX.out]
          rw [hys] at ho HLEN ⊢
          have hyl : ys.length ≤ 1048576 := by have := HLEN.out; omega
          clear hys
          have hIY := ho.ints
          have TR : ∀ W', Ext wr W' → Calls Tryz.prog 45 #[.slice At ys.length ct] W' fun e w' => ∃ A c, e = .returned (.slice A (trim ys).length c) ∧ OwnInts wr.heap.size w' (.slice A (trim ys).length c) (trim ys) ∧ Ext W' w' ∧ Ext wr w' ∧ w'.cell? ⟨k, 0, none⟩ = some (.int .i64 m.sy) := fun W' h => (l05Trim_c _ ys W' (hIY.ext h) hyl).mono (fun e w' hh => by
            obtain ⟨u, rfl, ho', hx'⟩ := hh
            obtain ⟨A, c, rfl, _, _⟩ := ho'.ints.form
            exact ⟨A, c, rfl, ownsRow_base ho' h.size, hx', h.trans hx', (h.trans hx').cell m0r⟩)
          go_upto_region 14 with fail
          go_cut [11] (fun s11 wx => CutK wr (ix : Int) [m.sy] (trim ys) s11 wx)
          case first =>
            clear e1 e2 HIX HYS HE HE2 HLEN ho
            have q1 := (Ext.drew wr).cell m0r
            obtain ⟨OZ, hOZ⟩ : ∃ o, o = Obj.cells #[.int .i64 0, .slice none 0 0, .slice none 0 0] 37 := ⟨_, rfl⟩
            obtain ⟨OS, hOS⟩ : ∃ o, o = Obj.cells #[.int .i64 m.sy] 2 := ⟨_, rfl⟩
            have E0 : Ext wr wr.drew := Ext.drew _
            have EZ : Ext wr (wr.alloc OZ).drew := (Ext.alloc _ _).trans (Ext.drew _)
            have ES : Ext wr (wr.alloc OS).drew := (Ext.alloc _ _).trans (Ext.drew _)
            have EZS : Ext wr ((wr.alloc OZ).alloc OS).drew := ((Ext.alloc _ _).trans (Ext.alloc _ _)).trans (Ext.drew _)
            have ESZ : Ext wr ((wr.alloc OS).alloc OZ).drew := ((Ext.alloc _ _).trans (Ext.alloc _ _)).trans (Ext.drew _)
            have q2 := EZ.cell m0r
            have bZ : Blk (wr.alloc OZ).drew wr.heap.size 37 #[.int .i64 0, .slice none 0 0, .slice none 0 0] := by rw [hOZ]; exact Blk.new _ _ _ _ rfl
            have bZS : Blk ((wr.alloc OZ).alloc OS).drew wr.heap.size 37 #[.int .i64 0, .slice none 0 0, .slice none 0 0] := by rw [hOZ]; exact (Blk.new _ _ _ _ rfl).alloc _
            have bSZ : Blk ((wr.alloc OS).alloc OZ).drew (wr.heap.size + 1) 37 #[.int .i64 0, .slice none 0 0, .slice none 0 0] := by rw [hOZ]; exact Blk.new _ _ _ _ (by simp)
            have oS : ∀ x, Ext (wr.alloc OS).drew x → OwnInts wr.heap.size x (.slice (some ⟨wr.heap.size, 0, none⟩) 1 1) [m.sy] := fun x h => own_of_blk (zs := [m.sy]) ((by rw [hOS]; exact Blk.new _ _ _ _ rfl : Blk (wr.alloc OS).drew wr.heap.size 2 (ivs [m.sy]).toArray).ext h) (Nat.le_refl _) (by simp)
            have oZS : ∀ x, Ext ((wr.alloc OZ).alloc OS).drew x → OwnInts wr.heap.size x (.slice (some ⟨wr.heap.size + 1, 0, none⟩) 1 1) [m.sy] := fun x h => own_of_blk (zs := [m.sy]) ((by rw [hOS]; exact Blk.new _ _ _ _ (by simp) : Blk ((wr.alloc OZ).alloc OS).drew (wr.heap.size + 1) 2 (ivs [m.sy]).toArray).ext h) (by omega) (by simp)
            have oSZ : ∀ x, Ext ((wr.alloc OS).alloc OZ).drew x → OwnInts wr.heap.size x (.slice (some ⟨wr.heap.size, 0, none⟩) 1 1) [m.sy] := fun x h => own_of_blk (zs := [m.sy]) ((by rw [hOS]; exact (Blk.new _ _ _ _ rfl).alloc _ : Blk ((wr.alloc OS).alloc OZ).drew wr.heap.size 2 (ivs [m.sy]).toArray).ext h) (Nat.le_refl _) (by simp)
            have oN : ∀ x, Ext wr x → OwnInts wr.heap.size (x.alloc (.cells #[.int .i64 m.sy] 2)) (.slice (some ⟨x.heap.size, 0, none⟩) 1 1) [m.sy] := fun x h => own_of_blk (zs := [m.sy]) (Blk.new _ _ _ _ rfl) h.size (by simp)
            subst hOZ hOS
            go_region_law
              (first
                | (go_simp; go_at_call 45; ((with_reducible refine (TR _ E0).mono ?_)); rintro e wT ⟨AT, cT, rfl, hoT, hxT, hxrT, tk⟩; have tk2 := (Ext.alloc wT (.cells #[.int .i64 0, .slice none 0 0, .slice none 0 0] 37)).cell tk; have fin := CutK.late (q := (ix : Int)) (hxrT.trans (Ext.alloc _ _)) (oN _ hxrT) (hoT.ext (Ext.alloc _ _)) (Nat.le_refl _) (Nat.le_refl _); rw [World.size_alloc] at fin; have fin2 := CutK.mid (q := (ix : Int)) (z := m.sy) hxrT hoT (Nat.le_refl _))
                | (go_simp; go_at_call 45; ((with_reducible refine (TR _ EZ).mono ?_)); rintro e wT ⟨AT, cT, rfl, hoT, hxT, hxrT, tk⟩; have zb := bZ.ext hxT; have zc := zb.cell; have zf := zb.frozen; have zb2 := zb.alloc (.cells #[.int .i64 m.sy] 2); have zc2 := zb2.cell; have zf2 := zb2.frozen; have zg : wr.heap.size ≤ wr.heap.size := Nat.le_refl _; have fin := CutK.early (q := (ix : Int)) (hxrT.trans (Ext.alloc _ _)) (oN _ hxrT) (hoT.ext (Ext.alloc _ _)) (Nat.le_refl _) (Nat.le_refl _) zb2 zg)
                | (go_simp; go_at_call 45; ((with_reducible refine (TR _ ES).mono ?_)); rintro e wT ⟨AT, cT, rfl, hoT, hxT, hxrT, tk⟩; have fin := CutK.late (q := (ix : Int)) hxrT (oS _ hxT) hoT (Nat.le_refl _) (Nat.le_refl _))
                | (go_simp; go_at_call 45; ((with_reducible refine (TR _ EZS).mono ?_)); rintro e wT ⟨AT, cT, rfl, hoT, hxT, hxrT, tk⟩; have zb := bZS.ext hxT; have zc := zb.cell; have zf := zb.frozen; have zg : wr.heap.size ≤ wr.heap.size := Nat.le_refl _; have fin := CutK.early (q := (ix : Int)) hxrT (oZS _ hxT) hoT (Nat.le_refl _) (Nat.le_refl _) zb zg)
                | (go_simp; go_at_call 45; ((with_reducible refine (TR _ ESZ).mono ?_)); rintro e wT ⟨AT, cT, rfl, hoT, hxT, hxrT, tk⟩; have zb := bSZ.ext hxT; have zc := zb.cell; have zf := zb.frozen; have zg : wr.heap.size ≤ wr.heap.size + 1 := Nat.le_succ _; have fin := CutK.early (q := (ix : Int)) hxrT (oSZ _ hxT) hoT (Nat.le_refl _) (Nat.le_refl _) zb zg))
            all_goals
              go_wp2_with fail
              go_meet
              first
                | with_reducible exact fin
                | with_reducible exact fin2
          case rest =>
            rename World => wS
            obtain ⟨gS, lvS, rvS, bl, br, rfl, bS, hxS, hgS, oL, oR, hbl, hbr⟩ := hcut
            clear TR e1 e2 m0r
            obtain ⟨AS, cS, rfl, _, _⟩ := oL.ints.form
            obtain ⟨BS, eS, rfl, _, _⟩ := oR.ints.form
            have hE5 := (hx4'.trans hXr).trans hxS
            have hstS := hst.ext hE5
            have bOS := bO3.ext hE5
            have hX6 := hX5r.trans hxS
            have k4 := hstS.blk.cell 4
            have k5 := hstS.blk.cell 5
            have g0 := bS.cell 0
            have g1 := bS.cell 1
            have g2 := bS.cell 2
            simp only [List.getElem?_toArray, List.getElem?_cons_zero, List.getElem?_cons_succ] at k4 k5 g0 g1 g2
            have hcp : ConfP wS gS ⟨(ix : Int), [m.sy], trim ys⟩ := ⟨_, _, g0, g1, g2, oL.ints, oR.ints⟩
            have GD := l05Good_c bk 4 gS ⟨m.sy + 1, s.1.length, s.2⟩ ⟨(ix : Int), [m.sy], trim ys⟩ wS k4 k5 hcp (by show 1 ≤ m.sy + 1; omega) (by show m.sy + 1 ≤ 1000000; omega) (by show (1 : Int) ≤ s.1.length; omega) (by show (s.1.length : Int) ≤ 1000; omega)
            have hgb : k + 1 + 1 < wr.heap.size := (bO3.ext (hx4'.trans hXr)).lt
            have HE3 : Hid (startF m c = if confB ⟨m.sy + 1, s.1.length, s.2⟩ ⟨(ix : Int), [m.sy], trim ys⟩ then (⟨(ix : Int), [m.sy], trim ys⟩, 0) else (blankC, 5)) := by
              unfold Hid
              rw [HE2.out, HYS.out]
              rfl
            clear HE HE2 HYS k4 k5 hcp
            obtain ⟨yt, hyt⟩ : ∃ yt, trim ys = yt := ⟨_, rfl⟩
            rw [hyt] at GD HE3 oR bS g2
            clear hyt
            go_wp2_with fail
            refine GD.mono ?_
            rintro e w7 ⟨rfl, hx7⟩
            have hX7 := hX6.trans hx7
            have bO7 := bOS.ext hx7
            have ob := bO7.cell
            have of_ := bO7.frozen
            have g0 := hx7.cell g0
            have g1 := hx7.cell g1
            have g2 := hx7.cell g2
            cases hcb : confB ⟨m.sy + 1, s.1.length, s.2⟩ ⟨(ix : Int), [m.sy], yt⟩ with
            | false =>
              have HE4 : Hid (startF m c = (blankC, 5)) := by unfold Hid; rw [HE3.out, hcb]; rfl
              clear hcb
              go_wp2
              rw [HE4.out]
              exact bodyPost_ret (v := .tuple #[.agg #[.int .i64 0, .slice none 0 0, .slice none 0 0], .int .i64 5]) (by simp [results, Tryz.results20, go_sem, ob]) rfl (SpecRes.none hb2 hX7 _ _ _)
            | true =>
              have HE4 : Hid (startF m c = (⟨(ix : Int), [m.sy], yt⟩, 0)) := by unfold Hid; rw [HE3.out, hcb]; rfl
              clear hcb
              have n1 : ∀ g', (Value.slice AS [m.sy].length cS).ownBlock = some g' → g' ≠ k + 1 + 1 := fun g' h' => by have := (oL.lt g' h').1; omega
              have n2 : ∀ g', (Value.slice BS yt.length eS).ownBlock = some g' → g' ≠ k + 1 + 1 := fun g' h' => by have := (oR.lt g' h').1; omega
              have HDN := Lib.hid (fun x y z => SpecRes.done (r := (⟨(ix : Int), [m.sy], yt⟩, 0)) (base := 0) hb2 hX7 (ownsRow_base (OwnInts.ext oL hx7) (Nat.zero_le _)) (ownsRow_base (OwnInts.ext oR hx7) (Nat.zero_le _)) n1 n2 x y z)
              clear n1 n2
              simp only [List.length_cons, List.length_nil, Nat.zero_add] at g1 HDN
              go_wp2
              rw [HE4.out]
              exact bodyPost_ret (v := .tuple #[.agg #[.int .i64 (ix : Int), .slice AS 1 cS, .slice BS yt.length eS], .int .i64 0]) (by simp [results, Tryz.results20, go_sem, ob]) rfl (HDN.out _ _ _)
    · have hfn : findN s.1 ⟨0, c.q, 0⟩ = -1 := if_neg hin
      have HE2 : Hid (startF m c = (blankC, 6)) := by unfold Hid; rw [HE.out, if_neg hin]
      rw [hfn]
      have ob := bO4.cell
      have of_ := bO4.frozen
      clear hfn hin
      go_wp2
      rw [HE2.out]
      exact bodyPost_ret (v := .tuple #[.agg #[.int .i64 0, .slice none 0 0, .slice none 0 0], .int .i64 6]) (by simp [results, Tryz.results20, go_sem, ob]) rfl (SpecRes.none hb2 hX4 _ _ _)
end Go.Proofs.YtjcfmlecfjmcgaaGreatDoor
end
