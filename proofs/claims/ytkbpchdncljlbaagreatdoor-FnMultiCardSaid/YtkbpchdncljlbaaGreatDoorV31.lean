/- Contract of the program's copy of a configuration with several tapes.
The copy of a configuration with several tapes, behind a pointer. No program runs here.
Contracts of the parts of the program's judgement of a configuration with several tapes. -/
import Derived.Test.YtkbpchdncljlbaaGreatDoorV30
import Derived.Test.YtkbpchdncljlbaaGreatDoorV24
import Derived.Maps.AppendAt
section
set_option linter.unusedVariables false
set_option linter.unusedSimpArgs false
namespace Go.Proofs.YtkbpchdncljlbaaGreatDoor
open Go Go.RowKit Go.Proofs Go.Maps
set_option maxHeartbeats 400000
/-- Copies of the first k tapes, in rows of their own that are apart. -/
structure CpM (w : World) (ts : List TapeD) (k : Nat) (v : Value) (cl : List Value) (wr : World) : Prop where
  own : wr.ownsRow w.heap.size 50 2 v k cl
  len : cl.length = k * 2
  side : ∀ i, (h : i < ts.length) → i < k → ∃ lv rv, cl[i * 2]? = some lv ∧ cl[i * 2 + 1]? = some rv ∧ OwnInts w.heap.size wr lv ts[i].l ∧ OwnInts w.heap.size wr rv ts[i].r
  ap : ∀ (i j : Nat) (u v : Value) (g : Nat), i ≠ j → cl[i]? = some u → cl[j]? = some v → u.ownBlock = some g → v.ownBlock ≠ some g
section
variable {w wr w' : World} {ts : List TapeD} {k : Nat} {v v' : Value} {cl : List Value}
theorem CpM.same (h : CpM w ts k v cl wr) (hs : ∀ g, g < wr.heap.size → (v.ownBlock = some g ∨ ∃ cs, Blk wr g 2 cs) → w'.heap[g]? = wr.heap[g]?) : CpM w ts k v cl w' := by
  have hi : ∀ {u : Value} {zs : List Int}, OwnInts w.heap.size wr u zs → OwnInts w.heap.size w' u zs := fun {u zs} o => own_same o (fun g hg => hs g (o.lt g hg).2 (.inr (by
    rcases o.2 with ⟨rfl, _⟩ | ⟨g', cap, cur, rfl, _, hh, _⟩
    · simp [Value.ownBlock] at hg
    · simp [Value.ownBlock] at hg
      subst hg
      exact ⟨_, hh⟩)))
  refine ⟨own_same h.own (fun g hg => hs g (h.own.lt g hg).2 (.inl hg)), h.len, fun i hi1 hi2 => ?_, h.ap⟩
  obtain ⟨lv, rv, e1, e2, o1, o2⟩ := h.side i hi1 hi2
  exact ⟨lv, rv, e1, e2, hi o1, hi o2⟩
theorem CpM.ext (h : CpM w ts k v cl wr) (he : Ext wr w') : CpM w ts k v cl w' := h.same fun g hg _ => Below.block he g hg
theorem CpM.set (h : CpM w ts k v cl wr) {g : Nat} {cs : Array Value} (hb : Blk wr g 29 cs) (i : Nat) (u : Value) : CpM w ts k v cl (wr.setCell ⟨g, i, none⟩ u) :=
  h.same fun q hq hr => Below.heap_setCell wr _ u q (fun e => by
    have e : q = g := e
    subst e
    rcases hr with e | ⟨cs', e⟩
    · exact blk_ne_row hb h.own (by decide) e.symm
    · exact blk_ne e hb (by decide) rfl)
theorem CpM.lt (h : CpM w ts k v cl wr) (hk : k ≤ ts.length) {j : Nat} {u : Value} {g : Nat} (hj : cl[j]? = some u) (hg : u.ownBlock = some g) : g < wr.heap.size := by
  have hl := h.len
  have hj2 : j < cl.length := (List.getElem?_eq_some_iff.1 hj).1
  obtain ⟨lv, rv, e1, e2, o1, o2⟩ := h.side (j / 2) (by omega) (by omega)
  by_cases hp : j = j / 2 * 2
  · rw [← hp, hj] at e1
    injection e1 with e1
    subst e1
    exact (o1.lt g hg).2
  · have hp2 : j = j / 2 * 2 + 1 := by omega
    rw [← hp2, hj] at e2
    injection e2 with e2
    subst e2
    exact (o2.lt g hg).2
theorem CpM.push (h : CpM w ts k v cl wr) {lv rv : Value} (hk : k < ts.length) (hg : wr.grownBy w' v.ownBlock) (ho : w'.ownsRow w.heap.size 50 2 v' (k + 1) (cl ++ [lv, rv])) (hl : OwnInts w.heap.size wr lv ts[k].l) (hr : OwnInts w.heap.size wr rv ts[k].r)
    (hap : ∀ g, lv.ownBlock = some g → rv.ownBlock ≠ some g) (hfr : ∀ (j : Nat) (u : Value) (g : Nat), cl[j]? = some u → u.ownBlock = some g → lv.ownBlock ≠ some g ∧ rv.ownBlock ≠ some g) : CpM w ts (k + 1) v' (cl ++ [lv, rv]) w' := by
  have hi : ∀ {u : Value} {zs : List Int}, OwnInts w.heap.size wr u zs → OwnInts w.heap.size w' u zs := fun {u zs} o => own_same o (fun g hgu => hg.block g (o.lt g hgu).2 (fun e => by
    rcases own_ne o h.own (by decide) with e' | e'
    · rw [e'] at hgu; cases hgu
    · exact e' (hgu.trans e)))
  have hlen := h.len
  have key : ∀ (j : Nat) (u : Value), (cl ++ [lv, rv])[j]? = some u → (j < k * 2 ∧ cl[j]? = some u) ∨ (j = k * 2 ∧ u = lv) ∨ (j = k * 2 + 1 ∧ u = rv) := by
    intro j u hj
    by_cases h1 : j < cl.length
    · rw [List.getElem?_append_left h1] at hj
      exact .inl ⟨by omega, hj⟩
    · rw [List.getElem?_append_right (by omega)] at hj
      obtain ⟨d, hd⟩ : ∃ d, j - cl.length = d := ⟨_, rfl⟩
      rw [hd] at hj
      match d, hd with
      | 0, hd => simp at hj; exact .inr (.inl ⟨by omega, hj.symm⟩)
      | 1, hd => simp at hj; exact .inr (.inr ⟨by omega, hj.symm⟩)
      | d + 2, hd => simp at hj
  refine ⟨ho, by simp; omega, fun i hi1 hi2 => ?_, fun i j u u' g hij hu hv hgu hgv => ?_⟩
  · by_cases hik : i < k
    · obtain ⟨l1, r1, e1, e2, o1, o2⟩ := h.side i hi1 hik
      exact ⟨l1, r1, by rw [List.getElem?_append_left (by omega)]; exact e1, by rw [List.getElem?_append_left (by omega)]; exact e2, hi o1, hi o2⟩
    · obtain rfl : i = k := by omega
      exact ⟨lv, rv, by rw [List.getElem?_append_right (by omega)]; simp [hlen], by rw [List.getElem?_append_right (by omega)]; simp [hlen], hi hl, hi hr⟩
  · rcases key i u hu with ⟨a1, a2⟩ | ⟨a1, rfl⟩ | ⟨a1, rfl⟩ <;> rcases key j u' hv with ⟨b1, b2⟩ | ⟨b1, rfl⟩ | ⟨b1, rfl⟩
    · exact h.ap i j u u' g hij a2 b2 hgu hgv
    · exact (hfr i u g a2 hgu).1 hgv
    · exact (hfr i u g a2 hgu).2 hgv
    · exact (hfr j u' g b2 hgv).1 hgu
    · omega
    · exact hap g hgu hgv
    · exact (hfr j u' g b2 hgv).2 hgu
    · exact hap g hgv hgu
    · omega
end
theorem tapeInfo : (Tryz.prog.info? 50).map (fun i => (i.zero, i.size, i.bytes)) = some (some (.agg #[.slice none 0 0, .slice none 0 0]), 2, 48) := by kernel_rfl
set_option maxRecDepth 20000 in
set_option maxHeartbeats 4000000 in
theorem copyMultiConfig_c (w : World) (c : MConfD) (b off cap : Nat) (h1 : c.tapes.length ≤ cap) (h2 : cap ≤ 9223372036854775807) (hn : c.tapes.length ≤ 1000)
    (hT : ∀ i, (h : i < c.tapes.length) → ∃ vl vr, w.cell? ⟨b, off + i * 2, none⟩ = some vl ∧ w.cell? ⟨b, off + i * 2 + 1, none⟩ = some vr ∧ Ints w vl c.tapes[i].l ∧ Ints w vr c.tapes[i].r ∧ Flat vl ∧ Flat vr ∧ c.tapes[i].l.length ≤ 1000 ∧ c.tapes[i].r.length ≤ 1000) :
    Calls Tryz.prog 21 #[.agg #[.int .i64 c.q, .slice (some ⟨b, off, none⟩) c.tapes.length cap]] w fun e w' => ∃ v cl, e = .returned (.agg #[.int .i64 c.q, v]) ∧ CpM w c.tapes c.tapes.length v cl w' ∧ Ext w w' := by
  obtain ⟨n, hnn⟩ : ∃ n, c.tapes.length = n := ⟨_, rfl⟩
  rw [hnn]
  have HN := Lib.hid hnn
  obtain ⟨i0, hi, hz0, hz1, hz2⟩ := info_parts tapeInfo
  obtain ⟨V, hV⟩ : ∃ V, V = ((w.alloc (.cells #[.int .i64 c.q, .slice (some ⟨b, off, none⟩) n cap] 29)).alloc (.cells #[.int .i64 0, .slice none 0 0] 29)).alloc (.cells #[.int .i64 c.q, .slice none 0 0] 29) := ⟨_, rfl⟩
  have hX : Ext w V := by rw [hV]; exact ((Ext.alloc _ _).trans (Ext.alloc _ _)).trans (Ext.alloc _ _)
  obtain ⟨g, hg⟩ : ∃ g, w.heap.size = g := ⟨_, rfl⟩
  have bB : Blk V g 29 #[.int .i64 c.q, .slice (some ⟨b, off, none⟩) n cap] := by rw [hV]; exact ((Blk.new _ _ _ _ hg).alloc _).alloc _
  have bO : Blk V (g + 1) 29 #[.int .i64 0, .slice none 0 0] := by rw [hV]; exact (Blk.new _ _ _ _ (by simp [hg])).alloc _
  have bC : Blk V (g + 1 + 1) 29 #[.int .i64 c.q, .slice none 0 0] := by rw [hV]; exact Blk.new _ _ _ _ (by simp [hg])
  have p0 := bB.cell 0
  have p1 := bB.cell 1
  simp only [List.getElem?_toArray, List.getElem?_cons_zero, List.getElem?_cons_succ] at p0 p1
  have st0 : CpM w c.tapes 0 (.slice none 0 0) [] V := ⟨World.ownsRow_nil .., rfl, fun i _ h => by omega, fun i j u v g _ hu => by simp at hu⟩
  have hgV : g + 1 + 1 < V.heap.size := bC.lt
  go_enter Tryz.func21, Tryz.ntmps21
  go_wp2_with fail
  try rw [← hV]
  try rw [hg]
  clear hV
  go_loopw [12] (fun u wr => ∃ (k : Nat) (v : Value) (cl : List Value), k ≤ n ∧ u = .int .i64 (k : Int) ∧ CpM w c.tapes k v cl wr ∧ Ext w wr ∧ Blk wr (g + 1) 29 #[.int .i64 0, .slice none 0 0] ∧ Blk wr (g + 1 + 1) 29 #[.int .i64 c.q, v]) (fun u _ => n - (intOf u).toNat)
  case atStart => exact ⟨0, _, _, Nat.zero_le _, rfl, st0, hX, bO, bC⟩
  case round =>
    clear st0 hX bO bC bB p0 p1
    obtain ⟨k, v, cl, hk, rfl, st, hx, bO, bC⟩ := hrel
    obtain ⟨Av, cv, rfl, hv1, hv2, _⟩ := (ownsRow_row st.own).form
    by_cases hlt : k < n
    · have hlt' : k < c.tapes.length := by rw [HN.out]; exact hlt
      obtain ⟨vl, vr, c0, c1, i1, i2, f1, f2, l1, l2⟩ := hT k hlt'
      obtain ⟨t, ht⟩ : ∃ t, c.tapes[k] = t := ⟨_, rfl⟩
      rw [ht] at i1 i2 l1 l2
      obtain ⟨A1, k1, rfl, _, _⟩ := i1.form
      obtain ⟨A2, k2, rfl, _, _⟩ := i2.form
      have x0 := hx.cell c0
      have x1 := hx.cell c1
      obtain ⟨X, hXX⟩ : ∃ X, X = wr.alloc (.cells #[.slice A1 t.l.length k1, .slice A2 t.r.length k2] 50) := ⟨_, rfl⟩
      have hX1 : Ext wr X := by rw [hXX]; exact Ext.alloc _ _
      obtain ⟨gx, hgx⟩ : ∃ z, wr.heap.size = z := ⟨_, rfl⟩
      have bX : Blk X gx 50 #[.slice A1 t.l.length k1, .slice A2 t.r.length k2] := by rw [hXX]; exact Blk.new _ _ _ _ hgx
      have y0 := bX.drew.cell 0
      have y1 := bX.drew.cell 1
      have z1 := (bC.ext hX1).drew.cell 1
      simp only [List.getElem?_toArray, List.getElem?_cons_zero, List.getElem?_cons_succ] at y0 y1 z1
      have hxX := hx.trans hX1
      have CT := copyTape_c (.slice A1 t.l.length k1) (.slice A2 t.r.length k2) t X.drew (i1.ext (hxX.trans (Ext.drew _))) (i2.ext (hxX.trans (Ext.drew _))) f1 f2 l1 l2
      clear c0 c1
      go_wp2_with fail
      try rw [← hXX]
      try rw [hgx]
      clear hXX
      refine wp_region_ord 5 [0, 1, 2, 3, 4] (by kernel_rfl) (by kernel_rfl) (fun _ _ _ _ _ h => h) ?_
      simp only [pickO, List.drop_succ_cons, List.drop_zero, List.head?_cons, Option.elim_some]
      repeat (refine wpOrd_read (v := ?_) (by rfl) (Or.inl ⟨by rfl, fun x hx => ?_⟩) ?_; rotate_left; (· have a0 := hx.cell y0; have a1 := hx.cell y1; have a2 := hx.cell z1; go_simp; try with_reducible rfl); simp only [Act.put, List.setIfInBounds_toArray, List.set_cons_zero, List.set_cons_succ])
      refine wpOrd_stir (by rfl) (fun K hK => ?_)
      go_simp
      go_at_call 55
      refine CT.mono ?_
      rintro e w3 ⟨lv, rv, rfl, ol, or, hap, hx3⟩
      obtain ⟨A3, c3, rfl, _, _⟩ := id ol.ints.form
      obtain ⟨A4, c4, rfl, _, _⟩ := id or.ints.form
      refine hK _ _ hx3 ?_
      clear hK K
      try simp only [Act.put, List.setIfInBounds_toArray, List.set_cons_zero, List.set_cons_succ]
      refine wpOrd_stir (by rfl) (fun K hK => ?_)
      go_simp
      refine hK _ _ (Ext.alloc _ _) ?_
      clear hK K
      try simp only [Act.put, List.setIfInBounds_toArray, List.set_cons_zero, List.set_cons_succ]
      refine wpOrd_done ?_
      try simp only [List.drop_succ_cons, List.drop_zero]
      have eA := Ext.alloc w3 (.cells #[.slice A3 t.l.length c3, .slice A4 t.r.length c4] 50)
      have hXr : Ext wr w3 := (hX1.trans (Ext.drew X)).trans hx3
      have st4 := (st.ext hXr).ext eA
      have hs3 : w.heap.size ≤ w3.heap.size := (hx.trans hXr).size
      have hsX : w.heap.size ≤ X.drew.heap.size := hxX.size
      have hsr : wr.heap.size ≤ X.drew.heap.size := hX1.size
      clear CT y0 y1 z1 x0 x1
      go_wp2_with (at_builtin; refine wpList_append_own_at _ rfl _ _ 27 rfl w.heap.size 50 i0 (.agg #[.slice none 0 0, .slice none 0 0]) 2 48 Tryz.underlying27 hi hz0 hz1 hz2 rfl (by decide) _ _ cl rfl st4.own ⟨w3.heap.size, 0, none⟩ 1 1 [.slice A3 t.l.length c3, .slice A4 t.r.length c4] rfl rfl (World.news_of_block (heap_alloc_new w3 _)) ?c2 ?c3 ?c4 ?c5 ?_)
      case c2 => intro u hu; simp at hu; rcases hu with rfl | rfl <;> rfl
      case c3 => unfold maxLen; omega
      case c4 => omega
      case c5 => simp; omega
      intro v' w5 hown5 hg5 _ _
      obtain ⟨A5, c5, rfl, _, _, _⟩ := (ownsRow_row hown5).form
      have hsX3 : X.drew.heap.size ≤ w3.heap.size := hx3.size
      have st5 := st4.push (lv := .slice A3 t.l.length c3) (rv := .slice A4 t.r.length c4) hlt' hg5 (by rw [hg]; exact hown5) (by rw [ht]; exact OwnInts.ext (ownsRow_base ol hsX) eA) (by rw [ht]; exact OwnInts.ext (ownsRow_base or hsX) eA) hap (fun j u q hj hq => by
        have := st.lt (by omega) hj hq
        exact ⟨fun e => by have := (ol.lt q e).1; omega, fun e => by have := (or.lt q e).1; omega⟩)
      have bO5 := Blk.apart ((bO.ext hXr).ext eA) st4.own (by decide) hg5
      have bC5 := Blk.apart ((bC.ext hXr).ext eA) st4.own (by decide) hg5
      have hx5 : Ext w w5 := ((hx.trans hXr).trans eA).grown hg5 (fun q hq => (st4.own.lt q hq).1)
      have q1 := bC5.cell 1
      have qf := bC5.frozen 1
      simp only [List.getElem?_toArray, List.getElem?_cons_zero, List.getElem?_cons_succ] at q1
      have hgne : g + 1 ≠ g + 1 + 1 := by omega
      have HS := Lib.hid (st5.set bC5 1 (.slice A5 (k + 1) c5))
      have HX := Lib.hid (hx5.setCell (p := ⟨g + 1 + 1, 1, none⟩) (by show w.heap.size ≤ g + 1 + 1; omega) (.slice A5 (k + 1) c5))
      have HO := Lib.hid (bO5.far (p := ⟨g + 1 + 1, 1, none⟩) hgne (.slice A5 (k + 1) c5))
      have HC := Lib.hid (bC5.set_ 1 (.slice A5 (k + 1) c5))
      clear st st4 st5 hown5 hg5 bO bC bO5 bC5 hx5 ol or hap eA hXr hT
      go_wp2_with fail
      go_roundw
      case rel => exact ⟨k + 1, _, _, by omega, by go_num, HS.out, HX.out, HO.out, HC.out⟩
      case measure => simp [intOf]; omega
    · obtain rfl : k = n := by omega
      have o0 := bC.cell 0
      have o1 := bC.cell 1
      have of_ := bO.frozen
      have ob := bO.cell
      simp only [List.getElem?_toArray, List.getElem?_cons_zero, List.getElem?_cons_succ] at o0 o1
      have st' := (st.set bO 0 (.int .i64 c.q)).set (bO.set_ 0 _) 1 (.slice Av k cv)
      have HS := Lib.hid st'
      have HX := Lib.hid ((hx.setCell (p := ⟨g + 1, 0, none⟩) (by show w.heap.size ≤ g + 1; omega) (.int .i64 c.q)).setCell (p := ⟨g + 1, 1, none⟩) (by show w.heap.size ≤ g + 1; omega) (.slice Av k cv))
      clear st st' hT
      go_wp2_with fail
      exact bodyPost_ret (v := .agg #[.int .i64 c.q, .slice Av k cv]) (by simp [results, Tryz.results21, go_sem, ob]) rfl ⟨_, cl, rfl, HS.out, HX.out⟩
end Go.Proofs.YtkbpchdncljlbaaGreatDoor
end
section
set_option linter.unusedVariables false
set_option linter.unusedSimpArgs false
namespace Go.Proofs.YtkbpchdncljlbaaGreatDoor
open Go Go.RowKit Go.Proofs Go.Maps
theorem CpM.at {w w1 : World} {c : MConfD} {v : Value} {cl : List Value} (h : CpM w c.tapes c.tapes.length v cl w1) (hx : Ext w w1) (h0 : 0 < c.tapes.length) :
    ∃ gT cap cs, v = .slice (some ⟨gT, 0, none⟩) c.tapes.length cap ∧ MAt w (fun k => k < w.heap.size) (w1.alloc (.cells #[.int .i64 c.q, v] 29)) w1.heap.size gT cap cs c := by
  have hA := Ext.alloc w1 (.cells #[.int .i64 c.q, v] 29)
  have hlen := h.len
  have hlt := fun (j : Nat) (u : Value) (g : Nat) (hj : cl[j]? = some u) (hg : u.ownBlock = some g) => h.lt (Nat.le_refl _) hj hg
  have hlow : ∀ (j : Nat) (u : Value) (g : Nat), cl[j]? = some u → u.ownBlock = some g → w.heap.size ≤ g := by
    intro j u g hj hg
    have hj2 : j < cl.length := (List.getElem?_eq_some_iff.1 hj).1
    obtain ⟨lv, rv, e1, e2, o1, o2⟩ := h.side (j / 2) (by omega) (by omega)
    by_cases hp : j = j / 2 * 2
    · rw [← hp, hj] at e1
      injection e1 with e1
      subst e1
      exact (o1.lt g hg).1
    · have hp2 : j = j / 2 * 2 + 1 := by omega
      rw [← hp2, hj] at e2
      injection e2 with e2
      subst e2
      exact (o2.lt g hg).1
  have hs := hx.size
  rcases h.own.2 with ⟨_, e⟩ | ⟨g, cap, cur, e, hb, hh, hnc, hcm, hcs, htk⟩
  · omega
  · subst e
    have hget : ∀ j, j < c.tapes.length * 2 → cur[j]? = cl[j]? := fun j hj => by
      rw [← htk, List.getElem?_take, if_pos (by omega)]
      simp
    have hB : Blk w1 g 50 cur := hh
    refine ⟨g, cap, cur, rfl, ⟨hx.trans hA, fun k hk => ?_, hs, ?_, hb, ?_, hnc, by unfold maxLen at hcm; omega, Blk.new _ _ _ _ rfl, hB.ext hA, fun i hi => ?_, fun j u q hjn hj hq => ?_, fun j u q hjn hj hq => ?_, fun i j u u' q hin hjn hij hu hv hqu hqv => ?_⟩⟩
    · exact Nat.lt_of_lt_of_le hk (hx.trans hA).size
    · simp; omega
    · simp; omega
    · obtain ⟨lv, rv, e1, e2, o1, o2⟩ := h.side i hi hi
      exact ⟨lv, rv, by rw [hget _ (by omega)]; exact e1, by rw [hget _ (by omega)]; exact e2, Side.ofOwn (o1.ext hA), Side.ofOwn (o2.ext hA)⟩
    · rw [hget j hjn] at hj
      have := hlow j u q hj (ownS_own hq)
      simp; omega
    · rw [hget j hjn] at hj
      have a := hlow j u q hj (ownS_own hq)
      have b := hlt j u q hj (ownS_own hq)
      exact ⟨a, Nat.lt_of_lt_of_le b hA.size⟩
    · rw [hget i hin] at hu
      rw [hget j hjn] at hv
      exact h.ap i j u u' q hij hu hv (ownS_own hqu) (ownS_own hqv)
end Go.Proofs.YtkbpchdncljlbaaGreatDoor
end
section
set_option linter.unusedVariables false
set_option linter.unusedSimpArgs false
namespace Go.Proofs.YtkbpchdncljlbaaGreatDoor
open Go Go.RowKit Go.Proofs Go.Maps
set_option maxHeartbeats 400000
theorem sizeT_c (A : Option Addr) (n c : Nat) (h1 : n ≤ c) (h2 : c ≤ 9223372036854775807) (w : World) : Calls Tryz.prog 51 #[.slice A n c] w fun e w' => e = .returned (.int .i64 (n : Int)) ∧ w = w' := by
  go_enter Tryz.func51, Tryz.ntmps51
  go_wp2
  go_ret
  exact ⟨rfl, rfl⟩
set_option maxRecDepth 20000 in
/-- The closure of ValidMultiConfig: a tape that is none of the machine's. -/
theorem badTape_c (m : MultiD) (mv lv rv : Value) (A : Option Addr) (cA gM : Nat) (t : TapeD) (w : World) (hb : Blk w gM 26 #[.int .i64 m.tp, .int .i64 m.sy, .int .i64 m.st, .slice A m.rules.length cA]) (hR : MRules w (.slice A m.rules.length cA) m.rules) (hm : multiOk m = true) (hl : Ints w lv t.l) (hr : Ints w rv t.r) :
    Calls Tryz.prog 53 #[.agg #[lv, rv], .pointer (some ⟨gM, 0, none⟩)] w fun e w' => e = .returned (.bool (!tapeOk m t)) ∧ Ext w w' := by
  obtain ⟨A1, k1, rfl, _, _⟩ := id hl.form
  obtain ⟨A2, k2, rfl, _, _⟩ := id hr.form
  obtain ⟨V, hV⟩ : ∃ V, V = w.alloc (.cells #[.slice A1 t.l.length k1, .slice A2 t.r.length k2] 50) := ⟨_, rfl⟩
  have hX : Ext w V := by rw [hV]; exact Ext.alloc _ _
  have bM := hb.ext hX
  have bT : Blk V w.heap.size 50 #[.slice A1 t.l.length k1, .slice A2 t.r.length k2] := by rw [hV]; exact Blk.new _ _ _ _ rfl
  have m0 := bM.cell 0
  have m1 := bM.cell 1
  have m2 := bM.cell 2
  have m3 := bM.cell 3
  have w0 := hb.cell 0
  have w1 := hb.cell 1
  have w2 := hb.cell 2
  have w3 := hb.cell 3
  have t0 := bT.cell 0
  have t1 := bT.cell 1
  simp only [List.getElem?_toArray, List.getElem?_cons_zero, List.getElem?_cons_succ] at m0 m1 m2 m3 w0 w1 w2 w3 t0 t1
  have hlt := hb.lt
  have VT := validTape_c m (.agg #[.int .i64 m.tp, .int .i64 m.sy, .int .i64 m.st, .slice A m.rules.length cA]) (.slice A1 t.l.length k1) (.slice A2 t.r.length k2) t V ⟨_, rfl, hR.ext hX⟩ hm (hl.ext hX) (hr.ext hX)
  generalize tapeOk m t = ok at *
  go_enter Tryz.func53, Tryz.ntmps53
  go_wp2_with fail
  try rw [← hV]
  clear hV
  refine VT.mono ?_
  rintro e w' ⟨rfl, hx⟩
  go_wp2_with fail
  go_ret
  exact ⟨rfl, hX.trans hx⟩
/-- The closure as a value. -/
abbrev fnB (gM : Nat) : Value := .func (.func 53) #[] #[.pointer (some ⟨gM, 0, none⟩)]
set_option maxRecDepth 20000 in
set_option maxHeartbeats 1000000 in
theorem indexT_c (m : MultiD) (A : Option Addr) (cA gM : Nat) (v : Value) (ts : List TapeD) (w : World) (hb : Blk w gM 26 #[.int .i64 m.tp, .int .i64 m.sy, .int .i64 m.st, .slice A m.rules.length cA]) (hR : MRules w (.slice A m.rules.length cA) m.rules) (hm : multiOk m = true) (hT : Tapes w v ts) :
    Calls Tryz.prog 83 #[v, fnB gM] w fun e w' => ∃ z : Int, e = .returned (.int .i64 z) ∧ decide (z ≥ 0) = (ts.any fun t => !tapeOk m t) ∧ Ext w w' := by
  obtain ⟨At, ct, rfl, h1, h2⟩ := hT.form
  go_enter Tryz.func83, Tryz.ntmps83
  go_wp2_with fail
  go_loopw [8] (fun u wr => ∃ k : Nat, k ≤ ts.length ∧ u = .int .i64 (k : Int) ∧ Ext w wr ∧ ∀ i, (h : i < ts.length) → i < k → tapeOk m ts[i] = true) (fun u _ => ts.length - (intOf u).toNat)
  case atStart => exact ⟨0, Nat.zero_le _, rfl, Ext.refl _, fun i _ h => by omega⟩
  case round =>
    obtain ⟨k, hk, rfl, hx, hall⟩ := hrel
    by_cases hlt : k < ts.length
    · obtain ⟨b, off, vl, vr, rfl, c0, c1, i1, i2⟩ := (hT.ext hx).at hlt
      obtain ⟨A1, k1, rfl, _, _⟩ := id i1.form
      obtain ⟨A2, k2, rfl, _, _⟩ := id i2.form
      have BT := badTape_c m (.int .i64 0) _ _ A cA gM ts[k] wr (hb.ext hx) (hR.ext hx) hm i1 i2
      have HALL := Lib.hid hall
      have hkt : Hid (∀ b, tapeOk m ts[k] = b → tapeOk m ts[k] = b) := Lib.hid fun _ h => h
      cases hok : tapeOk m ts[k] with
      | true =>
        rw [hok] at BT
        have HNX : Hid (∀ i, (h : i < ts.length) → i < k + 1 → tapeOk m ts[i] = true) := Lib.hid fun i hi1 hi2 => by
          by_cases e : i = k
          · subst e; exact hok
          · exact hall i hi1 (by omega)
        clear hok hall hkt i1 i2 HALL
        generalize ts[k].l.length = n1 at *
        generalize ts[k].r.length = n2 at *
        go_wp2_with fail
        refine BT.mono ?_
        rintro e w3 ⟨rfl, hx3⟩
        have HX := Lib.hid (hx.trans hx3)
        clear BT hx hx3
        go_wp2_with fail
        go_roundw
        case rel => exact ⟨k + 1, by omega, by go_num, HX.out, HNX.out⟩
        case measure => simp [intOf]; omega
      | false =>
        rw [hok] at BT
        have HA : Hid ((ts.any fun t => !tapeOk m t) = true) := Lib.hid (List.any_eq_true.2 ⟨ts[k], List.getElem_mem hlt, by simp [hok]⟩)
        clear hok hall hkt i1 i2 HALL
        generalize ts[k].l.length = n1 at *
        generalize ts[k].r.length = n2 at *
        go_wp2_with fail
        refine BT.mono ?_
        rintro e w3 ⟨rfl, hx3⟩
        have HX := Lib.hid (hx.trans hx3)
        clear BT hx hx3
        go_wp2_with fail
        go_ret
        exact ⟨_, rfl, by rw [HA.out]; simp, HX.out⟩
    · obtain rfl : k = ts.length := by omega
      have HA : Hid ((ts.any fun t => !tapeOk m t) = false) := Lib.hid (by
        rw [List.any_eq_false]
        intro t ht
        obtain ⟨i, hi, rfl⟩ := List.getElem_of_mem ht
        simp [hall i hi hi])
      clear hall
      go_wp2_with fail
      go_ret
      exact ⟨_, rfl, by rw [HA.out]; rfl, hx⟩
theorem containsT_c (m : MultiD) (A : Option Addr) (cA gM : Nat) (v : Value) (ts : List TapeD) (w : World) (hb : Blk w gM 26 #[.int .i64 m.tp, .int .i64 m.sy, .int .i64 m.st, .slice A m.rules.length cA]) (hR : MRules w (.slice A m.rules.length cA) m.rules) (hm : multiOk m = true) (hT : Tapes w v ts) :
    Calls Tryz.prog 52 #[v, fnB gM] w fun e w' => e = .returned (.bool (ts.any fun t => !tapeOk m t)) ∧ Ext w w' := by
  have IT := indexT_c m A cA gM v ts w hb hR hm hT
  obtain ⟨At, ct, rfl, h1, h2⟩ := hT.form
  generalize (ts.any fun t => !tapeOk m t) = ok at *
  go_enter Tryz.func52, Tryz.ntmps52
  go_wp2_with fail
  refine IT.mono ?_
  rintro e w' ⟨z, rfl, hz, hx⟩
  subst hz
  go_wp2_with fail
  go_ret
  exact ⟨rfl, hx⟩
end Go.Proofs.YtkbpchdncljlbaaGreatDoor
end
