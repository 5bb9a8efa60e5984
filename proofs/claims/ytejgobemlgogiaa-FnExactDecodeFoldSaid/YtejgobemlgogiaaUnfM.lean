/- Contract of the reference's DecodeFold. -/
import Derived.Test.YtejgobemlgogiaaUnfS
import Derived.Test.YtejgobemlgogiaaUnfQ
import Derived.Laws.AppendOwnNone
set_option linter.unusedSimpArgs false
set_option linter.unusedVariables false
namespace Go.Proofs.Ytejgobemlgogiaa
open Go Go.RowKit Go.Proofs
set_option maxHeartbeats 400000
def FlatS (v : Value) : Prop := v = .slice none 0 0 ∨ ∃ b off n c, v = .slice (some ⟨b, off, none⟩) n c
theorem OwnInts.flatS {base : Nat} {w : World} {v : Value} {zs : List Int} (h : OwnInts base w v zs) : FlatS v := by
  rcases h.2 with ⟨rfl, _⟩ | ⟨g, cap, cur, rfl, _⟩
  · exact .inl rfl
  · exact .inr ⟨g, 0, _, cap, rfl⟩
theorem run_append_ints (w : World) (base : Nat) (v u : Value) (xs news : List Int) (hown : OwnInts base w v xs) (hu : Ints w u news) (hf : FlatS u) (hl : xs.length + news.length ≤ 4194304) (hbase : base ≤ w.heap.size) :
    ∃ v' w', (Builtin.append_ #[25, 25] 25 #[v, u]).run Try.prog w = .ok v' w' ∧ OwnInts base w' v' (xs ++ news) ∧ w.grownBy w' v.ownBlock := by
  obtain ⟨i0, hi, hz0, hz1, hz2⟩ := info_parts intInfo
  obtain ⟨A, c, rfl, _, _⟩ := id hu.form
  rcases hf with hf | ⟨b, off, n, c', hf⟩
  · injection hf with e1 e2 e3
    subst e1 e3
    have hz : news = [] := List.length_eq_zero_iff.1 e2
    subst hz
    exact ⟨v, w, run_append_owned_none (P := Try.prog) (w := w) base 25 25 2 i0 1 Try.underlying25 hi v xs.length (ivs xs) hown, by simpa using hown, ⟨rfl, rfl, rfl, Nat.le_refl _, fun _ _ _ => rfl⟩⟩
  · injection hf with e1 e2 e3
    subst e1 e3
    have hc : ∀ j y, (ivs news)[j]? = some y → w.cell? ((⟨b, off, none⟩ : Addr).add j) = some y := by
      intro j y hj
      obtain ⟨hl, _⟩ := List.getElem?_eq_some_iff.1 hj
      rw [ivs_length] at hl
      obtain ⟨b', off', e', hc⟩ := hu.at hl
      cases e'
      have := hc j hl
      have e : y = .int .i64 news[j] := by
        have := ivs_get news j hl
        rw [hj] at this
        injection this
      by_cases hj0 : j = 0
      · subst hj0
        rw [e]
        simpa [Addr.add] using hc 0 hl
      · rw [e]
        simpa [Addr.add, hj0] using this
    have h1 : ∀ u ∈ ivs news, u.oneCell' = true := by
      intro u hu
      obtain ⟨z, _, rfl⟩ := List.mem_map.1 hu
      rfl
    obtain ⟨v', w', hr, h2, h3, _, _⟩ := run_append_own_at (P := Try.prog) w base 25 25 2 i0 (.int .i64 0) 1 8 Try.underlying25 hi hz0 hz1 hz2 rfl (by decide) v xs.length (ivs xs) hown ⟨b, off, none⟩ news.length c (ivs news) (by simp) hc h1 (by unfold maxLen; omega) (by omega) hbase
    exact ⟨v', w', hr, by unfold OwnInts; rw [ivs_append, List.length_append]; exact h2, h3⟩
/-- An append in a region that draws, by its run. -/
theorem step_append_by {P : Program} {w w' : World} {ops : Array Oper} {o : Oper} {a : Act} {K : Act → World → Prop} {Q : Exit → Act → World → Prop} {E : Prop} (hgd : o.guard = none) (s x : Operand) (t : TypeId)
    (ho : o.op = .call { callee := .builtin .append, args := #[s, x], argTypes := #[t, t] }) (v u r : Value) (hs : a.eval s = v) (hx : a.eval x = u)
    (hr : (Builtin.append_ #[t, t] o.type #[v, u]).run P w = .ok r w') (h : K (a.put o.dst r) w') :
    if Region.wanted o (yielded ops a.tmps) = true then Oper.wp P o a w K Q else E := by
  have hw : Region.wanted o (yielded ops a.tmps) = true := by simp [Region.wanted, hgd]
  rw [if_pos hw]
  unfold Oper.wp execOp
  simp only [ho, resolve, invoke, builtin, Sem.run_bind, Sem.run_pure, Result.andThen_ok, List.map_toArray, List.map_cons, List.map_nil, hs, hx, hr]
  exact h
/-- A configuration and a code, as the reference's functions give them. -/
def SpecRes (w : World) (r : ConfD × Int) (e : Ending) (w' : World) : Prop :=
  (∃ lv rv base, e = .returned (.tuple #[.agg #[.int .i64 r.1.q, lv, rv], .int .i64 r.2]) ∧ OwnInts base w' lv r.1.l ∧ OwnInts base w' rv r.1.r) ∧ Ext w w'
theorem ints_nilS (w : World) : Ints w (.slice none 0 0) [] := ⟨none, 0, rfl, by simp, by omega, rfl, fun h => by simp at h⟩
theorem ints_far {base : Nat} {w : World} {v : Value} {zs : List Int} (h : OwnInts base w v zs) {p : Addr} (hp : ∀ k, v.ownBlock = some k → k ≠ p.block) (u : Value) : OwnInts base (w.setCell p u) v zs := ownsRow_far h hp u
theorem SpecRes.done {w w1 : World} {r : ConfD × Int} {b base : Nat} {lv rv : Value} (hb : w.heap.size ≤ b) (hX : Ext w w1)
    (hl : OwnInts base w1 lv r.1.l) (hr : OwnInts base w1 rv r.1.r) (n1 : ∀ g, lv.ownBlock = some g → g ≠ b) (n2 : ∀ g, rv.ownBlock = some g → g ≠ b) (x y z : Value) :
    SpecRes w r (.returned (.tuple #[.agg #[.int .i64 r.1.q, lv, rv], .int .i64 r.2])) (((w1.setCell ⟨b, 0, none⟩ x).setCell ⟨b, 1, none⟩ y).setCell ⟨b, 2, none⟩ z) :=
  ⟨⟨_, _, base, rfl, ints_far (ints_far (ints_far hl n1 _) n1 _) n1 _, ints_far (ints_far (ints_far hr n2 _) n2 _) n2 _⟩, ((hX.setCell hb _).setCell hb _).setCell hb _⟩
theorem SpecRes.none {w w1 : World} {k : Int} {b : Nat} (hb : w.heap.size ≤ b) (hX : Ext w w1) (x y z : Value) :
    SpecRes w (blankC, k) (.returned (.tuple #[.agg #[.int .i64 0, .slice none 0 0, .slice none 0 0], .int .i64 k])) (((w1.setCell ⟨b, 0, none⟩ x).setCell ⟨b, 1, none⟩ y).setCell ⟨b, 2, none⟩ z) :=
  SpecRes.done (r := (blankC, k)) (base := 0) hb hX (World.ownsRow_nil ..) (World.ownsRow_nil ..) (fun g hg => by simp [Value.ownBlock] at hg) (fun g hg => by simp [Value.ownBlock] at hg) x y z
set_option maxRecDepth 20000 in
set_option maxHeartbeats 4000000 in
theorem specDecodeFold_c (rvm : Value) (m : MachD) (c : ConfD) (lv qv : Value) (w : World) (hr : Rules w rvm m.rules) (hl : Ints w lv c.l) (hq : Ints w qv c.r) (fr : FlatS qv) :
    Calls Try.prog 6 #[.agg #[.int .i64 m.sy, .int .i64 m.st, rvm], .agg #[.int .i64 c.q, lv, qv]] w (SpecRes w (decAll m c)) := by
  obtain ⟨Am, cm, rfl, _, _⟩ := hr.form
  obtain ⟨Al, cl, rfl, hcl, _⟩ := hl.form
  obtain ⟨Ar, cr, rfl, _, _⟩ := hq.form
  obtain ⟨W, hW⟩ : ∃ W, W = ((w.alloc (.cells #[.int .i64 m.sy, .int .i64 m.st, .slice Am m.rules.length cm] 35)).alloc (.cells #[.int .i64 c.q, .slice Al c.l.length cl, .slice Ar c.r.length cr] 30)).alloc (.cells #[.int .i64 0, .slice none 0 0, .slice none 0 0] 30) := ⟨_, rfl⟩
  have hXW : Ext w W := by rw [hW]; exact ((Ext.alloc _ _).trans (Ext.alloc _ _)).trans (Ext.alloc _ _)
  have bM : Blk W w.heap.size 35 #[.int .i64 m.sy, .int .i64 m.st, .slice Am m.rules.length cm] := by rw [hW]; exact ((Blk.new _ _ _ _ rfl).alloc _).alloc _
  have bC : Blk W (w.heap.size + 1) 30 #[.int .i64 c.q, .slice Al c.l.length cl, .slice Ar c.r.length cr] := by rw [hW]; exact (Blk.new _ _ _ _ (by simp)).alloc _
  have bO : Blk W (w.heap.size + 1 + 1) 30 #[.int .i64 0, .slice none 0 0, .slice none 0 0] := by rw [hW]; exact Blk.new _ _ _ _ (by simp)
  obtain ⟨R, hR⟩ : ∃ R, R = decAll m c := ⟨_, rfl⟩
  rw [← hR]
  have HR := Lib.hid hR
  clear hR
  have hb2 : w.heap.size ≤ w.heap.size + 1 + 1 := by omega
  have m0 := bM.cell 0
  have m1 := bM.cell 1
  have m2 := bM.cell 2
  have c0 := bC.cell 0
  have c1 := bC.cell 1
  have c2 := bC.cell 2
  simp only [List.getElem?_toArray, List.getElem?_cons_zero, List.getElem?_cons_succ] at m0 m1 m2 c0 c1 c2
  have hMW : MachAt W w.heap.size m := ⟨_, m0, m1, m2, hr.ext hXW⟩
  have hCW : ConfP W (w.heap.size + 1) c := ⟨_, _, c0, c1, c2, hl.ext hXW, hq.ext hXW⟩
  go_enter Try.func6, Try.ntmps6
  clear m0 m1 m2 c0 c1 c2
  go_wp2_with fail
  rw [← hW]
  clear hW
  refine (l05Is_c _ m _ hMW).mono ?_
  rintro e w1 ⟨rfl, hx1⟩
  have hX1 := hXW.trans hx1
  have ob := (bO.ext hx1).cell
  have of_ := (bO.ext hx1).frozen
  cases hm : machOk m with
  | false =>
    have HE : Hid (R = (blankC, 1)) := by unfold Hid; rw [HR.out]; unfold decAll; rw [hm]; rfl
    clear hm
    go_wp2
    rw [HE.out]
    exact bodyPost_ret (v := .tuple #[.agg #[.int .i64 0, .slice none 0 0, .slice none 0 0], .int .i64 1]) (by simp [results, Try.results6, go_sem, ob]) rfl (SpecRes.none hb2 hX1 _ _ _)
  | true =>
    obtain ⟨s1, s2, s3, s4, hrl⟩ := machOk_all hm
    have HE : Hid (R = match foldOf m with | none => (blankC, 5) | some s => if confB ⟨m.sy + 1, s.1.length, s.2⟩ c then decP m.sy (s.1.getD c.q.toNat ⟨0, 0, 0⟩) c else (blankC, 2)) := by unfold Hid; rw [HR.out]; unfold decAll; rw [hm]; rfl
    have HM := Lib.hid hm
    clear hm hrl
    go_wp2_with fail
    refine (l13MakeFold_c _ m w1 (hMW.ext hx1) HM.out).mono ?_
    rintro e w2 ⟨hres, hx2⟩
    have hX2 := hX1.trans hx2
    have hE2 := hx1.trans hx2
    have bO2 := bO.ext hE2
    clear ob of_
    have ob := bO2.cell
    have of_ := bO2.frozen
    rcases hres with ⟨hn, bk, rfl⟩ | ⟨s, bk, rv, pv, vs, hs, rfl, hst, hok, l1, l2⟩
    · have HE2 : Hid (R = (blankC, 5)) := by unfold Hid; rw [HE.out, hn]
      clear hn
      go_wp2
      rw [HE2.out]
      exact bodyPost_ret (v := .tuple #[.agg #[.int .i64 0, .slice none 0 0, .slice none 0 0], .int .i64 5]) (by simp [results, Try.results6, go_sem, ob]) rfl (SpecRes.none hb2 hX2 _ _ _)
    · have HE2 : Hid (R = if confB ⟨m.sy + 1, s.1.length, s.2⟩ c then decP m.sy (s.1.getD c.q.toNat ⟨0, 0, 0⟩) c else (blankC, 2)) := by unfold Hid; rw [HE.out, hs]
      clear hs
      have k3 := hst.blk.cell 3
      have k4 := hst.blk.cell 4
      have k5 := hst.blk.cell 5
      simp only [List.getElem?_toArray, List.getElem?_cons_zero, List.getElem?_cons_succ] at k3 k4 k5
      have hC2 := hCW.ext hE2
      have GC := l05Good_c bk 4 (w.heap.size + 1) ⟨m.sy + 1, s.1.length, s.2⟩ c _ k4 k5 hC2 (by show (1 : Int) ≤ m.sy + 1; omega) (by show m.sy + 1 ≤ 1000000; omega) (by show (1 : Int) ≤ (s.1.length : Int); omega) (by show (s.1.length : Int) ≤ 1000; omega)
      cases hc : confB ⟨m.sy + 1, s.1.length, s.2⟩ c with
      | false =>
        have HE3 : Hid (R = (blankC, 2)) := by unfold Hid; rw [HE2.out, hc]; rfl
        simp only [hc] at GC
        clear hc k3 k4 k5
        go_wp2_with fail
        refine GC.mono ?_
        rintro e w3 ⟨rfl, hx3⟩
        clear ob of_
        have ob := (bO2.ext hx3).cell
        have of_ := (bO2.ext hx3).frozen
        go_wp2
        rw [HE3.out]
        exact bodyPost_ret (v := .tuple #[.agg #[.int .i64 0, .slice none 0 0, .slice none 0 0], .int .i64 2]) (by simp [results, Try.results6, go_sem, ob]) rfl (SpecRes.none hb2 (hX2.trans hx3) _ _ _)
      | true =>
        obtain ⟨⟨q0, q1⟩, ⟨b1, b2⟩, ⟨b3, b4⟩⟩ := conf_all hc
        obtain ⟨i, hi⟩ : ∃ i : Nat, c.q = i := ⟨c.q.toNat, by omega⟩
        have hil : i < s.1.length := by omega
        have HE3 : Hid (R = decP m.sy s.1[i] c) := by
          unfold Hid
          rw [HE2.out, hc, hi, Int.toNat_natCast, List.getD_eq_getElem?_getD, List.getElem?_eq_getElem hil]
          rfl
        simp only [hc] at GC
        clear hc
        have HI := Lib.hid hi
        clear hi
        have HB2 : Hid (∀ z ∈ c.l, 0 ≤ z ∧ z ≤ m.sy) := fun z hz => by have := b2 z hz; omega
        have HB4 : Hid (∀ z ∈ c.r, 0 ≤ z ∧ z ≤ m.sy) := fun z hz => by have := b4 z hz; omega
        clear b2 b4
        have hpk := hok s.1[i] (List.getElem_mem hil)
        obtain ⟨u, hu, huo⟩ := hst.rows i s.1[i] (List.getElem?_eq_getElem hil)
        obtain ⟨Ap, cp, rfl, hp1, hp2, _⟩ := (ownsRow_row hst.places).form
        obtain ⟨gp, rfl, hg1, hg2⟩ := own_at hst.places (by omega)
        obtain ⟨b', off', e', hcp⟩ := Row.at (ownsRow_row hst.places) hil
        injection e' with e'
        injection e' with e1 e2
        subst e1 e2
        have p0 : w2.cell? ⟨gp, i, none⟩ = some u := by have := hcp i (by omega); rw [Nat.zero_add] at this; rw [this, hu]
        generalize s.1[i] = p at *
        clear hcp hu
        go_wp2_with fail
        refine GC.mono ?_
        rintro e w3 ⟨rfl, hx3⟩
        clear GC ob of_
        have hX3 := hX2.trans hx3
        have hE3 := hE2.trans hx3
        have bO3 := bO2.ext hx3
        have P0 := cellR (hx3.cell p0)
        have K3 := cellR (hx3.cell k3)
        have c0 := (bC.ext hE3).cell 0
        have c1 := (bC.ext hE3).cell 1
        have c2 := (bC.ext hE3).cell 2
        simp only [List.getElem?_toArray, List.getElem?_cons_zero, List.getElem?_cons_succ] at c0 c1 c2
        rw [HI.out] at c0
        have C0 := cellR c0
        have i1 : (0 : Int) ≤ (i : Int) := by omega
        have i2 : (i : Int) < (s.1.length : Int) := by omega
        clear k3 k4 k5 p0
        obtain ⟨ul, uo, hlen⟩ : ∃ A cu, u = .slice A (encL p).length cu := by obtain ⟨A, cu, e, _⟩ := huo.ints.form; exact ⟨A, cu, e⟩
        subst hlen
        go_wp2_with fail
        refine wp_region_ext (by kernel_rfl) (by kernel_rfl) ?_
        repeat (go_big_quiet_step (fail))
        refine wpQuiet_nil ?_
        intro w4 hx4
        -- BEHIND THE ROW
        obtain ⟨pk, pq, ph⟩ := p
        have hX4 := hX3.trans hx4
        have HPQ : Hid (inB pq 0 (m.st - 1) = true) := by have a0 : 0 ≤ pq := hpk.q0; have a1 : pq < m.st := hpk.q1; unfold Hid; simp [inB]; omega
        have hu4 := (huo.ints.ext hx3).ext hx4
        have hkk := hpk.kinds
        simp only at hkk
        obtain ⟨bu, ou, rfl, hcu⟩ := hu4.at (k := 0) (by simp only [encL]; split <;> simp)
        have uq0 : w4.cell? ⟨bu, ou, none⟩ = some (.int .i64 pk) := by have := hcu 0 (by simp only [encL]; split <;> simp); simp only [encL] at this; split at this <;> simpa using this
        have uq1 : w4.cell? ⟨bu, ou + 1, none⟩ = some (.int .i64 pq) := by have := hcu 1 (by simp only [encL]; split <;> simp); simp only [encL] at this; split at this <;> simpa using this
        have HX0 : R = decP m.sy ⟨pk, pq, ph⟩ c := HE3
        rw [decP_alt] at HX0
        have HX := Lib.hid HX0
        clear HX0
        have hne : 2 ≤ (encL ⟨pk, pq, ph⟩).length := by simp only [encL]; split <;> simp
        by_cases h0 : pk = 0
        · have uq2 : w4.cell? ⟨bu, ou + 2, none⟩ = some (.int .i64 ph) := by have := hcu 2 (by simp [encL, h0]); simpa [encL, h0] using this
          have hne3 : 2 < (encL ⟨pk, pq, ph⟩).length := by simp [encL, h0]
          have b0 : (pk == 0) = true := by simp [h0]
          have HE5 : Hid (R = if fmtB m.sy c ph then unfD pq (backD c) c.l.length else (blankC, 9)) := by unfold Hid; rw [HX.out]; simp [stF, h0]
          clear h0 hcu
          generalize (encL ⟨pk, pq, ph⟩).length = ne at *
          have HF := Lib.hid (fmt_iff m.sy c ph)
          have HBI0 := Lib.hid (back_in (half := ph) HB2.out HB4.out)
          have HBL0 := Lib.hid (back_len (c := c))
          have bO4 := (bO3.ext hx4)
          have bM4 := bM.ext (hE3.trans hx4)
          have m0 := bM4.cell 0
          simp only [List.getElem?_toArray, List.getElem?_cons_zero] at m0
          have M0 := cellR m0
          have c1 := hx4.cell c1
          have c2 := hx4.cell c2
          have C1 := cellR c1
          have C2 := cellR c2
          have hlv := hl.ext hX4
          have hrv := hq.ext hX4
          by_cases hn0 : c.l.length = 0
          · have bn0 : ((c.l.length : Int) == 0) = true := by simp [hn0]
            have HE6 : Hid (R = (blankC, 9)) := by unfold Hid; rw [HE5.out, if_neg (fun h => by have := (HF.out.1 h).1; omega)]
            clear hn0
            generalize c.l.length = n at *
            go_wp2_with fail
            refine wp_region_ext (by kernel_rfl) (by kernel_rfl) ?_
            repeat (go_big_quiet_step (fail))
            refine wpQuiet_nil ?_
            intro w5 hx5
            have hX5 := hX4.trans hx5
            have ob := (bO4.ext hx5).cell
            have of_ := (bO4.ext hx5).frozen
            go_wp2
            rw [HE6.out]
            exact bodyPost_ret (v := .tuple #[.agg #[.int .i64 0, .slice none 0 0, .slice none 0 0], .int .i64 9]) (by simp [results, Try.results6, go_sem, ob]) rfl (SpecRes.none hb2 hX5 _ _ _)
          · have bn0 : ((c.l.length : Int) == 0) = false := by rw [beq_eq_false_iff_ne]; omega
            have hn1 : 1 ≤ c.l.length := by omega
            have hl1 : c.l.length - 1 < c.l.length := by omega
            have t1 : Ints w4 (.slice Al (c.l.length - 1) cl) c.l.dropLast := by
              rw [List.dropLast_eq_take]
              exact hlv.take (c.l.length - 1) (by omega)
            obtain ⟨bl, ol, rfl, hcl9⟩ := hlv.at hl1
            have LZ := cellR (hcl9 (c.l.length - 1) hl1)
            have hlast : c.l.getLastD 0 = c.l[c.l.length - 1] := lastD_get (by omega)
            rw [hlast] at HF
            have i1 : (0 : Int) ≤ (c.l.length : Int) - 1 := by omega
            have i2 : (c.l.length : Int) - 1 < (c.l.length : Int) := by omega
            have i3 : ((c.l.length : Int) - 1).toNat = c.l.length - 1 := by omega
            have i4 : c.l.length - 1 ≤ cl := by omega
            have i5 : (c.l.length : Int) - 1 ≤ (cl : Int) := by omega
            clear hcl9 hlast
            generalize c.l[c.l.length - 1] = z at *
            clear hl1 hn0
            have hdll : c.l.dropLast.length = c.l.length - 1 := List.length_dropLast
            have HBL : Hid ((backD c).length + 1 = c.l.length + c.r.length) := Lib.hid (HBL0.out hn1)
            have HDLL := Lib.hid hdll
            clear hdll
            have LH1 := fun d os => l00Has_c (.slice (some ⟨bl, ol, none⟩) (c.l.length - 1) cl) c.l.dropLast m.sy _ (t1.ext (below_regrown w4 d os))
            have LH2 := fun d os => l00Has_c (.slice Ar c.r.length cr) c.r m.sy _ (hrv.ext (below_regrown w4 d os))
            generalize c.l.length = n at *
            by_cases hz : z = m.sy
            · have bz : (z != m.sy) = false := by simp [hz]
              cases hd1 : decide (m.sy ∈ c.l.dropLast) with
              | true =>
                simp only [hd1] at LH1
                have HE6 : Hid (R = (blankC, 9)) := by unfold Hid; rw [HE5.out, if_neg (fun h => (HF.out.1 h).2.2.1 (of_decide_eq_true hd1))]
                clear hz hd1
                go_wp2_with fail
                refine wp_region_ext (by kernel_rfl) (by kernel_rfl) ?_
                repeat (go_big_quiet_step ((first | (go_at_call 21; with_reducible exact Calls.sameR (LH1 _ _)) | (go_at_call 21; with_reducible exact Calls.sameR (LH2 _ _)))))
                refine wpQuiet_nil ?_
                intro w5 hx5
                have hX5 := hX4.trans hx5
                have ob := (bO4.ext hx5).cell
                have of_ := (bO4.ext hx5).frozen
                go_wp2
                rw [HE6.out]
                exact bodyPost_ret (v := .tuple #[.agg #[.int .i64 0, .slice none 0 0, .slice none 0 0], .int .i64 9]) (by simp [results, Try.results6, go_sem, ob]) rfl (SpecRes.none hb2 hX5 _ _ _)
              | false =>
                simp only [hd1] at LH1
                have hd1' := Lib.hid (of_decide_eq_false hd1)
                clear hd1
                cases hd2 : decide (m.sy ∈ c.r) with
                | true =>
                  simp only [hd2] at LH2
                  have HE6 : Hid (R = (blankC, 9)) := by unfold Hid; rw [HE5.out, if_neg (fun h => (HF.out.1 h).2.2.2.1 (of_decide_eq_true hd2))]
                  clear hz hd2
                  go_wp2_with fail
                  refine wp_region_ext (by kernel_rfl) (by kernel_rfl) ?_
                  repeat (go_big_quiet_step ((first | (go_at_call 21; with_reducible exact Calls.sameR (LH1 _ _)) | (go_at_call 21; with_reducible exact Calls.sameR (LH2 _ _)))))
                  refine wpQuiet_nil ?_
                  intro w5 hx5
                  have hX5 := hX4.trans hx5
                  have ob := (bO4.ext hx5).cell
                  have of_ := (bO4.ext hx5).frozen
                  go_wp2
                  rw [HE6.out]
                  exact bodyPost_ret (v := .tuple #[.agg #[.int .i64 0, .slice none 0 0, .slice none 0 0], .int .i64 9]) (by simp [results, Try.results6, go_sem, ob]) rfl (SpecRes.none hb2 hX5 _ _ _)
                | false =>
                  simp only [hd2] at LH2
                  have hd2' := Lib.hid (of_decide_eq_false hd2)
                  clear hd2
                  cases hpar : ((n : Int) % 2 == ph) with
                  | true =>
                    have HE6 : Hid (R = (blankC, 9)) := by unfold Hid; rw [HE5.out, if_neg (fun h => (HF.out.1 h).2.2.2.2 (by simpa using hpar))]
                    clear hz
                    go_wp2_with fail
                    refine wp_region_ext (by kernel_rfl) (by kernel_rfl) ?_
                    repeat (go_big_quiet_step ((first | (go_at_call 21; with_reducible exact Calls.sameR (LH1 _ _)) | (go_at_call 21; with_reducible exact Calls.sameR (LH2 _ _)))))
                    refine wpQuiet_nil ?_
                    intro w5 hx5
                    have hX5 := hX4.trans hx5
                    have ob := (bO4.ext hx5).cell
                    have of_ := (bO4.ext hx5).frozen
                    go_wp2
                    rw [HE6.out]
                    exact bodyPost_ret (v := .tuple #[.agg #[.int .i64 0, .slice none 0 0, .slice none 0 0], .int .i64 9]) (by simp [results, Try.results6, go_sem, ob]) rfl (SpecRes.none hb2 hX5 _ _ _)
                  | false =>
                    have hfm : fmtB m.sy c ph = true := HF.out.2 ⟨hn1, hz, hd1'.out, hd2'.out, by simpa using hpar⟩
                    have HE6 : Hid (R = unfD pq (backD c) n) := by unfold Hid; rw [HE5.out, if_pos hfm]
                    have HBI : Hid (∀ x ∈ backD c, inB x 0 (m.sy - 1) = true) := Lib.hid (HBI0.out hfm)
                    clear hz hfm HF HBI0 HBL0
                    have hdl0 := HDLL.out
                    go_wp2_with fail
                    refine wp_region_ext (by kernel_rfl) (by kernel_rfl) ?_
                    repeat (go_big_quiet_step ((first | (go_at_call 21; with_reducible exact Calls.sameR (LH1 _ _)) | (go_at_call 21; with_reducible exact Calls.sameR (LH2 _ _)))))
                    refine wpQuiet_nil ?_
                    intro w6 hx6
                    clear C1 C2 M0 LZ LH1 LH2
                    have hX6 := hX4.trans hx6
                    have d1 := (Ext.drew w6).cell (hx6.cell c1)
                    have d2 := (Ext.drew w6).cell (hx6.cell c2)
                    have t6 := (t1.ext hx6).ext (Ext.drew w6)
                    have r6 := (hrv.ext hx6).ext (Ext.drew w6)
                    have RA := fun w (hx : Ext w6.drew w) (v : Value) (xs : List Int) (ho : OwnInts w6.drew.heap.size w v xs) (hl : xs.length ≤ 200) => run_append_ints w w6.drew.heap.size v _ xs c.r ho (r6.ext hx) fr (by omega) hx.size
                    have hdl : c.l.dropLast.reverse.length ≤ 200 := by rw [List.length_reverse, hdl0]; omega
                    have HBK : Hid (c.l.dropLast.reverse ++ c.r = backD c) := rfl
                    have hdl' : c.l.dropLast.length ≤ 1048576 := by rw [hdl0]; omega
                    have i6 : IntKind.i64.wrap ((n : Int) - 1) = (n : Int) - 1 := IntWalk.i64_in _ (by omega)
                    have i7 : (1 : Int) ≤ (n : Int) := by omega
                    clear hdl0
                    have hbl : (backD c).length ≤ 10000 := by have := HBL.out; omega
                    generalize backD c = D at *
                    go_wp2
                    go_region_law
                      (first
                        | (go_simp; go_at_call 22; ((with_reducible refine (l03Reverse_c _ c.l.dropLast _ t6 hdl').mono ?_)); rintro e w7 ⟨u7, rfl, ho7, hx7⟩; obtain ⟨v8, w8, hr8, ho8, hg8⟩ := RA _ hx7 _ _ ho7 hdl; have d3 := hx7.cell d2)
                        | (refine step_append_by (by rfl) _ _ _ (by rfl) _ _ _ (by first | rfl | simp [Act.eval, Act.put]) (by first | rfl | simp [Act.eval, Act.put]) hr8 ?_))
                    all_goals
                      rw [HBK.out] at ho8
                      have hX8 : Ext w w8 := (((hX6.trans (Ext.drew _)).trans hx7)).grown hg8 (fun g hg => by have := (ho7.lt g hg).1; have := (hX6.trans (Ext.drew w6)).size; omega)
                      have hE8 : Ext w4 w8 := (((hx6.trans (Ext.drew _)).trans hx7)).grown hg8 (fun g hg => by have := (ho7.lt g hg).1; have := (hx6.trans (Ext.drew w6)).size; omega)
                      clear hr8 RA d1 d2 d3 hx7 hg8
                      obtain ⟨A8, c8, rfl, _, _⟩ := ho8.ints.form
                      have q8 := hE8.cell uq1
                      have bM8 := bM4.ext hE8
                      go_wp2_with fail
                      refine (l13Unfold_c _ D n pq w8 ho8.ints hbl hn1 (by have := HBL.out; omega)).mono ?_
                      rintro e w9 ⟨lv9, rv9, rfl, hol, hor, hx9⟩
                      obtain ⟨L9, hL9⟩ : ∃ L, L = unfL D (plZ n) := ⟨_, rfl⟩
                      obtain ⟨R9, hR9⟩ : ∃ L, L = unfR D (plZ n) := ⟨_, rfl⟩
                      rw [← hL9] at hol
                      rw [← hR9] at hor
                      have HU : Hid (R = if confB m ⟨pq, L9, R9⟩ then (⟨pq, L9, R9⟩, 0) else (blankC, 5)) := by
                        unfold Hid
                        rw [HE6.out, unfD_alt (m := m) HPQ.out HBI.out (by omega), hL9, hR9]
                      clear hL9 hR9
                      obtain ⟨A9, k9, rfl, _, _⟩ := hol.ints.form
                      obtain ⟨B9, j9, rfl, _, _⟩ := hor.ints.form
                      obtain ⟨X, hX⟩ : ∃ X, X = w9.alloc (.cells #[.int .i64 pq, .slice A9 L9.length k9, .slice B9 R9.length j9] 30) := ⟨_, rfl⟩
                      have hxX : Ext w9 X := by rw [hX]; exact Ext.alloc _ _
                      have bX : Blk X w9.heap.size 30 #[.int .i64 pq, .slice A9 L9.length k9, .slice B9 R9.length j9] := by rw [hX]; exact Blk.new _ _ _ _ rfl
                      have e0 := bX.cell 0
                      have e1 := bX.cell 1
                      have e2 := bX.cell 2
                      have hEX := (hE8.trans hx9).trans hxX
                      have n0 := (bM4.ext hEX).cell 0
                      have n1 := (bM4.ext hEX).cell 1
                      simp only [List.getElem?_toArray, List.getElem?_cons_zero, List.getElem?_cons_succ] at e0 e1 e2 n0 n1
                      have hcp : ConfP X w9.heap.size ⟨pq, L9, R9⟩ := ⟨_, _, e0, e1, e2, hol.ints.ext hxX, hor.ints.ext hxX⟩
                      have GD := l05Good_c w.heap.size 0 w9.heap.size m ⟨pq, L9, R9⟩ X n0 n1 hcp (by omega) (by omega) (by omega) (by omega)
                      have hXX := (hX8.trans hx9).trans hxX
                      go_wp2_with fail
                      rw [← hX]
                      clear hX e0 e1 e2 n0 n1 q8
                      refine GD.mono ?_
                      rintro e w10 ⟨rfl, hx10⟩
                      have hX5 := hXX.trans hx10
                      have bO10 := (bO4.ext hEX).ext hx10
                      have ob := bO10.cell
                      have of_ := bO10.frozen
                      have o9 := (hol.ext hxX).ext hx10
                      have p9 := (hor.ext hxX).ext hx10
                      have hb8 : w.heap.size + 1 + 1 < w8.heap.size := (bO4.ext hE8).lt
                      have f1 : ∀ g, (Value.slice A9 L9.length k9).ownBlock = some g → g ≠ w.heap.size + 1 + 1 := fun g hg => by have := (o9.lt g hg).1; omega
                      have f2 : ∀ g, (Value.slice B9 R9.length j9).ownBlock = some g → g ≠ w.heap.size + 1 + 1 := fun g hg => by have := (p9.lt g hg).1; omega
                      have e0 := (bX.ext hx10).cell 0
                      have e1 := (bX.ext hx10).cell 1
                      have e2 := (bX.ext hx10).cell 2
                      simp only [List.getElem?_toArray, List.getElem?_cons_zero, List.getElem?_cons_succ] at e0 e1 e2
                      cases hcb : confB m ⟨pq, L9, R9⟩ with
                      | false =>
                        have HV : Hid (R = (blankC, 5)) := by unfold Hid; rw [HU.out, hcb]; rfl
                        clear hcb
                        go_wp2
                        rw [HV.out]
                        exact bodyPost_ret (v := .tuple #[.agg #[.int .i64 0, .slice none 0 0, .slice none 0 0], .int .i64 5]) (by simp [results, Try.results6, go_sem, ob]) rfl (SpecRes.none hb2 hX5 _ _ _)
                      | true =>
                        have HV : Hid (R = (⟨pq, L9, R9⟩, 0)) := by unfold Hid; rw [HU.out, hcb]; rfl
                        clear hcb
                        go_wp2
                        rw [HV.out]
                        exact bodyPost_ret (v := .tuple #[.agg #[.int .i64 pq, .slice A9 L9.length k9, .slice B9 R9.length j9], .int .i64 0]) (by simp [results, Try.results6, go_sem, ob]) rfl (SpecRes.done (r := (⟨pq, L9, R9⟩, 0)) hb2 hX5 o9 p9 f1 f2 _ _ _)
            · have bz : (z != m.sy) = true := by simp [hz]
              have HE6 : Hid (R = (blankC, 9)) := by unfold Hid; rw [HE5.out, if_neg (fun h => hz (HF.out.1 h).2.1)]
              clear hz
              go_wp2_with fail
              refine wp_region_ext (by kernel_rfl) (by kernel_rfl) ?_
              repeat (go_big_quiet_step ((first | (go_at_call 21; with_reducible exact Calls.sameR (LH1 _ _)) | (go_at_call 21; with_reducible exact Calls.sameR (LH2 _ _)))))
              refine wpQuiet_nil ?_
              intro w5 hx5
              have hX5 := hX4.trans hx5
              have ob := (bO4.ext hx5).cell
              have of_ := (bO4.ext hx5).frozen
              go_wp2
              rw [HE6.out]
              exact bodyPost_ret (v := .tuple #[.agg #[.int .i64 0, .slice none 0 0, .slice none 0 0], .int .i64 9]) (by simp [results, Try.results6, go_sem, ob]) rfl (SpecRes.none hb2 hX5 _ _ _)
        · have b0 : (pk == 0) = false := by simp [h0]
          have hcr0 := hq.ext hX4
          obtain ⟨r0, hr0⟩ : ∃ r0, r0 = c.r.getD 0 0 := ⟨_, rfl⟩
          have hCW4 := (hCW.ext hE3).ext hx4
          have hCA : ConfAt w4 (w.heap.size + 1) ⟨c.q, c.l, c.r⟩ := hCW4
          have HD0 := fun d os => l05Head_c (w.heap.size + 1) ⟨c.q, c.l, c.r⟩ _ (hCA.ext (below_regrown w4 d os))
          have ehd : hdR c.r = r0 := by rw [hr0]; rfl
          simp only [ehd] at HD0
          have U0 := cellR uq0
          have m0' := ((bM.ext hE3).ext hx4).cell 0
          simp only [List.getElem?_toArray, List.getElem?_cons_zero] at m0'
          have M0' := cellR m0'
          clear hcu
          generalize hlne : (encL ⟨pk, pq, ph⟩).length = ne at *
          clear hlne
          by_cases h5 : pk = 5
          · have b5 : (pk != 5) = false := by simp [h5]
            by_cases hr : r0 = m.sy
            · have br : (r0 == m.sy) = true := by simp [hr]
              have HE6 : Hid (R = (blankC, 6)) := by
                have hs : stF m.sy ⟨pk, pq, ph⟩ c = (0, 0, false) := by simp only [stF, ← hr0]; rw [if_neg h0, if_neg (fun h => h.2 hr)]
                unfold Hid; rw [HX.out, hs]; rfl
              clear h0 h5 hr hr0 ehd
              go_wp2_with fail
              refine wp_region_ext (by kernel_rfl) (by kernel_rfl) ?_
              repeat (go_big_quiet_step ((go_at_call 20; exact Calls.sameR (HD0 _ _))))
              refine wpQuiet_nil ?_
              intro w5 hx5
              have hX5 := hX4.trans hx5
              have ob := ((bO3.ext hx4).ext hx5).cell
              have of_ := ((bO3.ext hx4).ext hx5).frozen
              go_wp2
              rw [HE6.out]
              exact bodyPost_ret (v := .tuple #[.agg #[.int .i64 0, .slice none 0 0, .slice none 0 0], .int .i64 6]) (by simp [results, Try.results6, go_sem, ob]) rfl (SpecRes.none hb2 hX5 _ _ _)
            · have br : (r0 == m.sy) = false := by simp [hr]
              have HE5 : Hid (R = if fmtB m.sy c 1 then unfD pq (backD c) c.l.length else (blankC, 9)) := by
                have hs : stF m.sy ⟨pk, pq, ph⟩ c = (pq, 1, true) := by simp only [stF, ← hr0]; rw [if_neg h0, if_pos ⟨h5, hr⟩]
                unfold Hid; rw [HX.out, hs]; rfl
              clear h0 h5 hr hr0 ehd
              go_wp2_with fail
              refine wp_region_ext (by kernel_rfl) (by kernel_rfl) ?_
              repeat (go_big_quiet_step ((go_at_call 20; exact Calls.sameR (HD0 _ _))))
              refine wpQuiet_nil ?_
              intro wh hxh
              have hXh := hX4.trans hxh
              clear HD0 U0 M0' m0'
              have uq1 := hxh.cell uq1
              have HF := Lib.hid (fmt_iff m.sy c 1)
              have HBI0 := Lib.hid (back_in (half := 1) HB2.out HB4.out)
              have HBL0 := Lib.hid (back_len (c := c))
              have bO4 := ((bO3.ext hx4).ext hxh)
              have bM4 := bM.ext (hE3.trans (hx4.trans hxh))
              have m0 := bM4.cell 0
              simp only [List.getElem?_toArray, List.getElem?_cons_zero] at m0
              have M0 := cellR m0
              have c1 := (hx4.trans hxh).cell c1
              have c2 := (hx4.trans hxh).cell c2
              have C1 := cellR c1
              have C2 := cellR c2
              have hlv := hl.ext hXh
              have hrv := hq.ext hXh
              by_cases hn0 : c.l.length = 0
              · have bn0 : ((c.l.length : Int) == 0) = true := by simp [hn0]
                have HE6 : Hid (R = (blankC, 9)) := by unfold Hid; rw [HE5.out, if_neg (fun h => by have := (HF.out.1 h).1; omega)]
                clear hn0
                generalize c.l.length = n at *
                go_wp2_with fail
                refine wp_region_ext (by kernel_rfl) (by kernel_rfl) ?_
                repeat (go_big_quiet_step (fail))
                refine wpQuiet_nil ?_
                intro w5 hx5
                have hX5 := hXh.trans hx5
                have ob := (bO4.ext hx5).cell
                have of_ := (bO4.ext hx5).frozen
                go_wp2
                rw [HE6.out]
                exact bodyPost_ret (v := .tuple #[.agg #[.int .i64 0, .slice none 0 0, .slice none 0 0], .int .i64 9]) (by simp [results, Try.results6, go_sem, ob]) rfl (SpecRes.none hb2 hX5 _ _ _)
              · have bn0 : ((c.l.length : Int) == 0) = false := by rw [beq_eq_false_iff_ne]; omega
                have hn1 : 1 ≤ c.l.length := by omega
                have hl1 : c.l.length - 1 < c.l.length := by omega
                have t1 : Ints wh (.slice Al (c.l.length - 1) cl) c.l.dropLast := by
                  rw [List.dropLast_eq_take]
                  exact hlv.take (c.l.length - 1) (by omega)
                obtain ⟨bl, ol, rfl, hcl9⟩ := hlv.at hl1
                have LZ := cellR (hcl9 (c.l.length - 1) hl1)
                have hlast : c.l.getLastD 0 = c.l[c.l.length - 1] := lastD_get (by omega)
                rw [hlast] at HF
                have i1 : (0 : Int) ≤ (c.l.length : Int) - 1 := by omega
                have i2 : (c.l.length : Int) - 1 < (c.l.length : Int) := by omega
                have i3 : ((c.l.length : Int) - 1).toNat = c.l.length - 1 := by omega
                have i4 : c.l.length - 1 ≤ cl := by omega
                have i5 : (c.l.length : Int) - 1 ≤ (cl : Int) := by omega
                clear hcl9 hlast
                generalize c.l[c.l.length - 1] = z at *
                clear hl1 hn0
                have hdll : c.l.dropLast.length = c.l.length - 1 := List.length_dropLast
                have HBL : Hid ((backD c).length + 1 = c.l.length + c.r.length) := Lib.hid (HBL0.out hn1)
                have HDLL := Lib.hid hdll
                clear hdll
                have LH1 := fun d os => l00Has_c (.slice (some ⟨bl, ol, none⟩) (c.l.length - 1) cl) c.l.dropLast m.sy _ (t1.ext (below_regrown wh d os))
                have LH2 := fun d os => l00Has_c (.slice Ar c.r.length cr) c.r m.sy _ (hrv.ext (below_regrown wh d os))
                generalize c.l.length = n at *
                by_cases hz : z = m.sy
                · have bz : (z != m.sy) = false := by simp [hz]
                  cases hd1 : decide (m.sy ∈ c.l.dropLast) with
                  | true =>
                    simp only [hd1] at LH1
                    have HE6 : Hid (R = (blankC, 9)) := by unfold Hid; rw [HE5.out, if_neg (fun h => (HF.out.1 h).2.2.1 (of_decide_eq_true hd1))]
                    clear hz hd1
                    go_wp2_with fail
                    refine wp_region_ext (by kernel_rfl) (by kernel_rfl) ?_
                    repeat (go_big_quiet_step ((first | (go_at_call 21; with_reducible exact Calls.sameR (LH1 _ _)) | (go_at_call 21; with_reducible exact Calls.sameR (LH2 _ _)))))
                    refine wpQuiet_nil ?_
                    intro w5 hx5
                    have hX5 := hXh.trans hx5
                    have ob := (bO4.ext hx5).cell
                    have of_ := (bO4.ext hx5).frozen
                    go_wp2
                    rw [HE6.out]
                    exact bodyPost_ret (v := .tuple #[.agg #[.int .i64 0, .slice none 0 0, .slice none 0 0], .int .i64 9]) (by simp [results, Try.results6, go_sem, ob]) rfl (SpecRes.none hb2 hX5 _ _ _)
                  | false =>
                    simp only [hd1] at LH1
                    have hd1' := Lib.hid (of_decide_eq_false hd1)
                    clear hd1
                    cases hd2 : decide (m.sy ∈ c.r) with
                    | true =>
                      simp only [hd2] at LH2
                      have HE6 : Hid (R = (blankC, 9)) := by unfold Hid; rw [HE5.out, if_neg (fun h => (HF.out.1 h).2.2.2.1 (of_decide_eq_true hd2))]
                      clear hz hd2
                      go_wp2_with fail
                      refine wp_region_ext (by kernel_rfl) (by kernel_rfl) ?_
                      repeat (go_big_quiet_step ((first | (go_at_call 21; with_reducible exact Calls.sameR (LH1 _ _)) | (go_at_call 21; with_reducible exact Calls.sameR (LH2 _ _)))))
                      refine wpQuiet_nil ?_
                      intro w5 hx5
                      have hX5 := hXh.trans hx5
                      have ob := (bO4.ext hx5).cell
                      have of_ := (bO4.ext hx5).frozen
                      go_wp2
                      rw [HE6.out]
                      exact bodyPost_ret (v := .tuple #[.agg #[.int .i64 0, .slice none 0 0, .slice none 0 0], .int .i64 9]) (by simp [results, Try.results6, go_sem, ob]) rfl (SpecRes.none hb2 hX5 _ _ _)
                    | false =>
                      simp only [hd2] at LH2
                      have hd2' := Lib.hid (of_decide_eq_false hd2)
                      clear hd2
                      cases hpar : ((n : Int) % 2 == 1) with
                      | true =>
                        have HE6 : Hid (R = (blankC, 9)) := by unfold Hid; rw [HE5.out, if_neg (fun h => (HF.out.1 h).2.2.2.2 (by simpa using hpar))]
                        clear hz
                        go_wp2_with fail
                        refine wp_region_ext (by kernel_rfl) (by kernel_rfl) ?_
                        repeat (go_big_quiet_step ((first | (go_at_call 21; with_reducible exact Calls.sameR (LH1 _ _)) | (go_at_call 21; with_reducible exact Calls.sameR (LH2 _ _)))))
                        refine wpQuiet_nil ?_
                        intro w5 hx5
                        have hX5 := hXh.trans hx5
                        have ob := (bO4.ext hx5).cell
                        have of_ := (bO4.ext hx5).frozen
                        go_wp2
                        rw [HE6.out]
                        exact bodyPost_ret (v := .tuple #[.agg #[.int .i64 0, .slice none 0 0, .slice none 0 0], .int .i64 9]) (by simp [results, Try.results6, go_sem, ob]) rfl (SpecRes.none hb2 hX5 _ _ _)
                      | false =>
                        have hfm : fmtB m.sy c 1 = true := HF.out.2 ⟨hn1, hz, hd1'.out, hd2'.out, by simpa using hpar⟩
                        have HE6 : Hid (R = unfD pq (backD c) n) := by unfold Hid; rw [HE5.out, if_pos hfm]
                        have HBI : Hid (∀ x ∈ backD c, inB x 0 (m.sy - 1) = true) := Lib.hid (HBI0.out hfm)
                        clear hz hfm HF HBI0 HBL0
                        have hdl0 := HDLL.out
                        go_wp2_with fail
                        refine wp_region_ext (by kernel_rfl) (by kernel_rfl) ?_
                        repeat (go_big_quiet_step ((first | (go_at_call 21; with_reducible exact Calls.sameR (LH1 _ _)) | (go_at_call 21; with_reducible exact Calls.sameR (LH2 _ _)))))
                        refine wpQuiet_nil ?_
                        intro w6 hx6
                        clear C1 C2 M0 LZ LH1 LH2
                        have hX6 := hXh.trans hx6
                        have d1 := (Ext.drew w6).cell (hx6.cell c1)
                        have d2 := (Ext.drew w6).cell (hx6.cell c2)
                        have t6 := (t1.ext hx6).ext (Ext.drew w6)
                        have r6 := (hrv.ext hx6).ext (Ext.drew w6)
                        have RA := fun w (hx : Ext w6.drew w) (v : Value) (xs : List Int) (ho : OwnInts w6.drew.heap.size w v xs) (hl : xs.length ≤ 200) => run_append_ints w w6.drew.heap.size v _ xs c.r ho (r6.ext hx) fr (by omega) hx.size
                        have hdl : c.l.dropLast.reverse.length ≤ 200 := by rw [List.length_reverse, hdl0]; omega
                        have HBK : Hid (c.l.dropLast.reverse ++ c.r = backD c) := rfl
                        have hdl' : c.l.dropLast.length ≤ 1048576 := by rw [hdl0]; omega
                        have i6 : IntKind.i64.wrap ((n : Int) - 1) = (n : Int) - 1 := IntWalk.i64_in _ (by omega)
                        have i7 : (1 : Int) ≤ (n : Int) := by omega
                        clear hdl0
                        have hbl : (backD c).length ≤ 10000 := by have := HBL.out; omega
                        generalize backD c = D at *
                        go_wp2
                        go_region_law
                          (first
                            | (go_simp; go_at_call 22; ((with_reducible refine (l03Reverse_c _ c.l.dropLast _ t6 hdl').mono ?_)); rintro e w7 ⟨u7, rfl, ho7, hx7⟩; obtain ⟨v8, w8, hr8, ho8, hg8⟩ := RA _ hx7 _ _ ho7 hdl; have d3 := hx7.cell d2)
                            | (refine step_append_by (by rfl) _ _ _ (by rfl) _ _ _ (by first | rfl | simp [Act.eval, Act.put]) (by first | rfl | simp [Act.eval, Act.put]) hr8 ?_))
                        all_goals
                          rw [HBK.out] at ho8
                          have hX8 : Ext w w8 := (((hX6.trans (Ext.drew _)).trans hx7)).grown hg8 (fun g hg => by have := (ho7.lt g hg).1; have := (hX6.trans (Ext.drew w6)).size; omega)
                          have hE8 : Ext wh w8 := (((hx6.trans (Ext.drew _)).trans hx7)).grown hg8 (fun g hg => by have := (ho7.lt g hg).1; have := (hx6.trans (Ext.drew w6)).size; omega)
                          clear hr8 RA d1 d2 d3 hx7 hg8
                          obtain ⟨A8, c8, rfl, _, _⟩ := ho8.ints.form
                          have q8 := hE8.cell uq1
                          have bM8 := bM4.ext hE8
                          go_wp2_with fail
                          refine (l13Unfold_c _ D n pq w8 ho8.ints hbl hn1 (by have := HBL.out; omega)).mono ?_
                          rintro e w9 ⟨lv9, rv9, rfl, hol, hor, hx9⟩
                          obtain ⟨L9, hL9⟩ : ∃ L, L = unfL D (plZ n) := ⟨_, rfl⟩
                          obtain ⟨R9, hR9⟩ : ∃ L, L = unfR D (plZ n) := ⟨_, rfl⟩
                          rw [← hL9] at hol
                          rw [← hR9] at hor
                          have HU : Hid (R = if confB m ⟨pq, L9, R9⟩ then (⟨pq, L9, R9⟩, 0) else (blankC, 5)) := by
                            unfold Hid
                            rw [HE6.out, unfD_alt (m := m) HPQ.out HBI.out (by omega), hL9, hR9]
                          clear hL9 hR9
                          obtain ⟨A9, k9, rfl, _, _⟩ := hol.ints.form
                          obtain ⟨B9, j9, rfl, _, _⟩ := hor.ints.form
                          obtain ⟨X, hX⟩ : ∃ X, X = w9.alloc (.cells #[.int .i64 pq, .slice A9 L9.length k9, .slice B9 R9.length j9] 30) := ⟨_, rfl⟩
                          have hxX : Ext w9 X := by rw [hX]; exact Ext.alloc _ _
                          have bX : Blk X w9.heap.size 30 #[.int .i64 pq, .slice A9 L9.length k9, .slice B9 R9.length j9] := by rw [hX]; exact Blk.new _ _ _ _ rfl
                          have e0 := bX.cell 0
                          have e1 := bX.cell 1
                          have e2 := bX.cell 2
                          have hEX := (hE8.trans hx9).trans hxX
                          have n0 := (bM4.ext hEX).cell 0
                          have n1 := (bM4.ext hEX).cell 1
                          simp only [List.getElem?_toArray, List.getElem?_cons_zero, List.getElem?_cons_succ] at e0 e1 e2 n0 n1
                          have hcp : ConfP X w9.heap.size ⟨pq, L9, R9⟩ := ⟨_, _, e0, e1, e2, hol.ints.ext hxX, hor.ints.ext hxX⟩
                          have GD := l05Good_c w.heap.size 0 w9.heap.size m ⟨pq, L9, R9⟩ X n0 n1 hcp (by omega) (by omega) (by omega) (by omega)
                          have hXX := (hX8.trans hx9).trans hxX
                          go_wp2_with fail
                          rw [← hX]
                          clear hX e0 e1 e2 n0 n1 q8
                          refine GD.mono ?_
                          rintro e w10 ⟨rfl, hx10⟩
                          have hX5 := hXX.trans hx10
                          have bO10 := (bO4.ext hEX).ext hx10
                          have ob := bO10.cell
                          have of_ := bO10.frozen
                          have o9 := (hol.ext hxX).ext hx10
                          have p9 := (hor.ext hxX).ext hx10
                          have hb8 : w.heap.size + 1 + 1 < w8.heap.size := (bO4.ext hE8).lt
                          have f1 : ∀ g, (Value.slice A9 L9.length k9).ownBlock = some g → g ≠ w.heap.size + 1 + 1 := fun g hg => by have := (o9.lt g hg).1; omega
                          have f2 : ∀ g, (Value.slice B9 R9.length j9).ownBlock = some g → g ≠ w.heap.size + 1 + 1 := fun g hg => by have := (p9.lt g hg).1; omega
                          have e0 := (bX.ext hx10).cell 0
                          have e1 := (bX.ext hx10).cell 1
                          have e2 := (bX.ext hx10).cell 2
                          simp only [List.getElem?_toArray, List.getElem?_cons_zero, List.getElem?_cons_succ] at e0 e1 e2
                          cases hcb : confB m ⟨pq, L9, R9⟩ with
                          | false =>
                            have HV : Hid (R = (blankC, 5)) := by unfold Hid; rw [HU.out, hcb]; rfl
                            clear hcb
                            go_wp2
                            rw [HV.out]
                            exact bodyPost_ret (v := .tuple #[.agg #[.int .i64 0, .slice none 0 0, .slice none 0 0], .int .i64 5]) (by simp [results, Try.results6, go_sem, ob]) rfl (SpecRes.none hb2 hX5 _ _ _)
                          | true =>
                            have HV : Hid (R = (⟨pq, L9, R9⟩, 0)) := by unfold Hid; rw [HU.out, hcb]; rfl
                            clear hcb
                            go_wp2
                            rw [HV.out]
                            exact bodyPost_ret (v := .tuple #[.agg #[.int .i64 pq, .slice A9 L9.length k9, .slice B9 R9.length j9], .int .i64 0]) (by simp [results, Try.results6, go_sem, ob]) rfl (SpecRes.done (r := (⟨pq, L9, R9⟩, 0)) hb2 hX5 o9 p9 f1 f2 _ _ _)
                · have bz : (z != m.sy) = true := by simp [hz]
                  have HE6 : Hid (R = (blankC, 9)) := by unfold Hid; rw [HE5.out, if_neg (fun h => hz (HF.out.1 h).2.1)]
                  clear hz
                  go_wp2_with fail
                  refine wp_region_ext (by kernel_rfl) (by kernel_rfl) ?_
                  repeat (go_big_quiet_step ((first | (go_at_call 21; with_reducible exact Calls.sameR (LH1 _ _)) | (go_at_call 21; with_reducible exact Calls.sameR (LH2 _ _)))))
                  refine wpQuiet_nil ?_
                  intro w5 hx5
                  have hX5 := hXh.trans hx5
                  have ob := (bO4.ext hx5).cell
                  have of_ := (bO4.ext hx5).frozen
                  go_wp2
                  rw [HE6.out]
                  exact bodyPost_ret (v := .tuple #[.agg #[.int .i64 0, .slice none 0 0, .slice none 0 0], .int .i64 9]) (by simp [results, Try.results6, go_sem, ob]) rfl (SpecRes.none hb2 hX5 _ _ _)
          · have b5 : (pk != 5) = true := by simp [h5]
            have HE6 : Hid (R = (blankC, 6)) := by
              have hs : stF m.sy ⟨pk, pq, ph⟩ c = (0, 0, false) := by simp only [stF]; rw [if_neg h0, if_neg (fun h => h5 h.1)]
              unfold Hid; rw [HX.out, hs]; rfl
            clear h0 h5 hr0 ehd
            go_wp2_with fail
            refine wp_region_ext (by kernel_rfl) (by kernel_rfl) ?_
            repeat (go_big_quiet_step ((go_at_call 20; exact Calls.sameR (HD0 _ _))))
            refine wpQuiet_nil ?_
            intro w5 hx5
            have hX5 := hX4.trans hx5
            have ob := ((bO3.ext hx4).ext hx5).cell
            have of_ := ((bO3.ext hx4).ext hx5).frozen
            go_wp2
            rw [HE6.out]
            exact bodyPost_ret (v := .tuple #[.agg #[.int .i64 0, .slice none 0 0, .slice none 0 0], .int .i64 6]) (by simp [results, Try.results6, go_sem, ob]) rfl (SpecRes.none hb2 hX5 _ _ _)
end Go.Proofs.Ytejgobemlgogiaa
