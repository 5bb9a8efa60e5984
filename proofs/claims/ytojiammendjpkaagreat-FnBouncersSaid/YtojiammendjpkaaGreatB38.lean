/- Contract: a formula tape that is tried.
The words that the search of a bouncer tries, and what is returned for them.
Contracts: the line of a record. -/
import Derived.Test.YtojiammendjpkaaGreatB37
import Derived.Test.YtojiammendjpkaaGreatB22
import Derived.Test.YtojiammendjpkaaGreatB34
import Derived.Test.YtojiammendjpkaaGreatB11
section
set_option linter.unusedSimpArgs false
set_option linter.unusedVariables false
namespace Go.Proofs.YtojiammendjpkaaGreat
open Go Go.RowKit Go.Proofs
set_option maxHeartbeats 400000
theorem BdAt.more {bm gF gO : Nat} {m : MachD} {mv : Value} {base n n' : Nat} {q : Int} {E O : List (List Int)} {v1 v2 wv rv : Value} {vs us : List Value} {W : World} (h : BdAt bm gF gO m mv base n q E O v1 v2 wv rv vs us W) (hn : n ≤ n') : BdAt bm gF gO m mv base n' q E O v1 v2 wv rv vs us W :=
  ⟨h.dr, by obtain ⟨L, a, b⟩ := h.o1; exact ⟨L, a, by omega⟩, by obtain ⟨L, a, b⟩ := h.o2; exact ⟨L, a, by omega⟩, h.a12, h.a1, h.a2, h.out⟩
theorem FoDr.putH {bm gF base : Nat} {m : MachD} {mv : Value} {f : FoD} {wv rv ov : Value} {vs us : List Value} {W : World} (h : FoDr bm gF m mv base f wv rv ov vs us W) (a : Int) (hmg : bm ≠ gF) :
    FoDr bm gF m mv base ⟨f.q, a, f.at_, f.ws, f.rs, f.os⟩ wv rv ov vs us (W.setCell ⟨gF, 1, none⟩ (.int .i64 a)) :=
  ⟨h.mac.far (p := ⟨gF, 1, none⟩) hmg _, h.blk.set_ 1 _, far_blkF h.ow h.blk (by decide) 1 _, far_blkF h.or h.blk (by decide) 1 _, far_blkF h.oo h.blk (by decide) 1 _,
   fun i hi => by obtain ⟨v, x, y⟩ := h.iw i hi; exact ⟨v, x, far_blkF y h.blk (by decide) 1 _⟩, fun i hi => by obtain ⟨v, x, y⟩ := h.ir i hi; exact ⟨v, x, far_blkF y h.blk (by decide) 1 _⟩, h.pw, h.nr, h.new⟩
/-- The formula tape of words: walls and repeaters in turn, the head on the last wall's last symbol. -/
def bncF (q : Int) (ps : List (List Int)) : FoD := ⟨q, ((evs ps).length : Int) - 1, (((evs ps).getD ((evs ps).length - 1) []).length : Int) - 1, evs ps, ods ps, List.replicate (ods ps).length 0⟩
/-- A formula tape in memory of its own. -/
def OwnFo (base : Nat) (w : World) (v : Value) (f : FoD) : Prop := ∃ wv rv ov, v = .agg #[.int .i64 f.q, .int .i64 f.hd, .int .i64 f.at_, wv, rv, ov] ∧ OwnLists base w wv f.ws ∧ OwnLists base w rv f.rs ∧ OwnInts base w ov f.os
set_option maxRecDepth 20000 in
set_option maxHeartbeats 8000000 in
theorem bounced_c (bm : Nat) (m : MachD) (mv : Value) (q : Int) (bv cv pv : Value) (B C : List Int) (ps : List (List Int)) (w : World) (hM : Blk w bm 26 #[.int .i64 m.sy, .int .i64 m.st, mv]) (hb : Ints w bv B) (hc : Ints w cv C) (hp : Lists w pv ps) (hl : ps.length = 3 ∨ ps.length = 5) (hz : ∀ x ∈ ps, x.length ≤ 100) :
    Calls Tryz.prog 158 #[.int .i64 q, bv, cv, pv] w fun e w' => Ext w w' ∧ ∃ b v, e = .returned (.tuple #[v, .bool b]) ∧ OwnFo w.heap.size w' v (bncF q ps) := by
  obtain ⟨r0i, hri, rz0, rz1, rz2⟩ := info_parts rowInfo
  obtain ⟨i0, hi0, hz0, hz1, hz2⟩ := info_parts intInfo
  obtain ⟨Ab, cb, rfl, _, _⟩ := hb.form
  obtain ⟨Ac, cc0, rfl, _, _⟩ := hc.form
  obtain ⟨Ap, cp, rfl, _, _⟩ := hp.form
  obtain ⟨bp, op, u0, rfl, ca, cb', cd⟩ := Lists.at hp (k := 0) (by omega)
  clear ca cb' cd
  obtain ⟨gO, hgO⟩ : ∃ g, w.heap.size = g := ⟨_, rfl⟩
  obtain ⟨W, hW⟩ : ∃ W, W = ((w.alloc (.cells #[.int .i64 0, .int .i64 0, .int .i64 0, .slice none 0 0, .slice none 0 0, .slice none 0 0] 49)).alloc (.cells #[] 2)).alloc (.cells #[] 2) := ⟨_, rfl⟩
  obtain ⟨W2, hW2⟩ : ∃ W2, W2 = W.alloc (.cells #[.int .i64 q, .int .i64 0, .int .i64 0, .slice none 0 0, .slice none 0 0, .slice none 0 0] 49) := ⟨_, rfl⟩
  have hX1 : Ext w W := by rw [hW]; exact ((Ext.alloc _ _).trans (Ext.alloc _ _)).trans (Ext.alloc _ _)
  have hX : Ext w W2 := by rw [hW2]; exact hX1.trans (Ext.alloc _ _)
  have bO : Blk W gO 49 #[.int .i64 0, .int .i64 0, .int .i64 0, .slice none 0 0, .slice none 0 0, .slice none 0 0] := by rw [hW]; exact ((Blk.new _ _ _ _ hgO).alloc _).alloc _
  have o1 : OwnInts w.heap.size W (.slice (some ⟨gO + 1, 0, none⟩) 0 0) [] := by
    rw [hW]
    refine ownsRow_ext ⟨by simp, .inr ⟨gO + 1, 0, #[], rfl, by omega, ?_, by simp, by unfold maxLen; omega, rfl, by simp [ivs]⟩⟩ (Ext.alloc _ _)
    have := heap_alloc_new (w.alloc (.cells #[.int .i64 0, .int .i64 0, .int .i64 0, .slice none 0 0, .slice none 0 0, .slice none 0 0] 49)) (.cells #[] 2)
    rw [World.size_alloc, hgO] at this
    exact this
  have o2 : OwnInts w.heap.size W (.slice (some ⟨gO + 1 + 1, 0, none⟩) 0 0) [] := by
    rw [hW]
    refine ⟨by simp, .inr ⟨gO + 1 + 1, 0, #[], rfl, by omega, ?_, by simp, by unfold maxLen; omega, rfl, by simp [ivs]⟩⟩
    have := heap_alloc_new ((w.alloc (.cells #[.int .i64 0, .int .i64 0, .int .i64 0, .slice none 0 0, .slice none 0 0, .slice none 0 0] 49)).alloc (.cells #[] 2)) (.cells #[] 2)
    rw [World.size_alloc, World.size_alloc, hgO] at this
    exact this
  have hWs : W.heap.size = gO + 3 := by rw [hW]; simp [hgO]
  have eX : Ext W W2 := by rw [hW2]; exact Ext.alloc _ _
  have bF : Blk W2 (gO + 1 + 1 + 1) 49 #[.int .i64 q, .int .i64 0, .int .i64 0, .slice none 0 0, .slice none 0 0, .slice none 0 0] := by rw [hW2]; exact Blk.new _ _ _ _ hWs
  have hbml : bm < gO := by rw [← hgO]; exact hM.lt
  obtain ⟨gF, hgF⟩ : ∃ g, gO + 1 + 1 + 1 = g := ⟨_, rfl⟩
  rw [hgF] at bF
  have hB0 : BdAt bm gF gO m mv w.heap.size 0 q [] [] (.slice (some ⟨gO + 1, 0, none⟩) 0 0) (.slice (some ⟨gO + 1 + 1, 0, none⟩) 0 0) (.slice none 0 0) (.slice none 0 0) [] [] W2 :=
    ⟨⟨hM.ext hX, bF, World.ownsRow_nil .., World.ownsRow_nil .., World.ownsRow_nil .., fun i hi => by simp at hi, fun i hi => by simp at hi, List.pairwise_singleton _ _, fun g hg => by simp [Value.ownBlock] at hg, by omega⟩,
     ⟨[], ownsRow_ext o1 eX, by simp⟩, ⟨[], ownsRow_ext o2 eX, by simp⟩, fun g h1 h2 => by simp [Value.ownBlock] at h1 h2; omega, fun v hv => by simp at hv, fun v hv => by simp at hv, bO.ext eX⟩
  have HB0 := Lib.hid (And.intro hB0 hX)
  have HNE : Hid (bm ≠ gF ∧ gO ≠ gF ∧ w.heap.size ≤ gF) := Lib.hid (by omega)
  have HG := Lib.hid (And.intro hgO hgF)
  have HIN := Lib.hid (And.intro hb (And.intro hc hp))
  have HL := Lib.hid (And.intro hl hz)
  have hpl : ps.length ≤ 5 := by omega
  clear hX1 hX bO o1 o2 eX bF hbml hB0 hb hc hp hl hz hM
  go_enter Tryz.func158, Tryz.ntmps158
  go_upto_region 2 with fail
  try rw [← hW]
  try rw [hgO]
  try rw [hgF]
  try rw [← hW2]
  clear hW hW2 hgO hgF
  go_wp2_with fail
  go_loopw [11, 12, 21] (fun a b c wr => ∃ k : Nat, k ≤ ps.length ∧ c = .int .i64 (k : Int) ∧ Hid (∃ wv rv vs us, BdAt bm gF gO m mv w.heap.size (300 * k) q (evs (ps.take k)) (ods (ps.take k)) a b wv rv vs us wr ∧ Ext w wr)) (fun _ _ c _ => ps.length - (intOf c).toNat)
  case atStart => exact ⟨0, Nat.zero_le _, rfl, Lib.hid ⟨_, _, _, _, HB0.out.1, HB0.out.2⟩⟩
  case round =>
    clear HB0
    rename_i v1 v2 wr
    obtain ⟨k, hk, rfl, HR⟩ := hrel
    by_cases hlt : k < ps.length
    · have hdl : decide ((k : Int) < (ps.length : Int)) = true := decide_eq_true (by omega)
      obtain ⟨wv, rv, vs, us, hB, hxr⟩ := HR.out
      obtain ⟨E, hE⟩ : ∃ E, evs (ps.take k) = E := ⟨_, rfl⟩
      obtain ⟨O, hO⟩ : ∃ O, ods (ps.take k) = O := ⟨_, rfl⟩
      rw [hE, hO] at hB
      have hel : E.length ≤ 4 ∧ O.length ≤ 4 := by
        rw [← hE, ← hO, evs_len, ods_len, List.length_take]
        omega
      obtain ⟨Aw, cw, rfl, _, _, _⟩ := (ownsRow_row hB.dr.ow).form
      obtain ⟨Ar, cr, rfl, _, _, _⟩ := (ownsRow_row hB.dr.or).form
      obtain ⟨b', o', u, hA, c0, hu, hf⟩ := Lists.at HIN.out.2.2 hlt
      injection hA with hA
      injection hA with e1 e2 e3
      subst e1 e2
      have c0 := hxr.cell c0
      have hul := HL.out.2 _ (List.getElem_mem hlt)
      obtain ⟨Au, cu, rfl, _, _⟩ := hu.form
      have HT := Lib.hid (List.take_succ_eq_append_getElem hlt)
      have hkl : (ps.take k).length = k := by rw [List.length_take]; omega
      have HEO := Lib.hid (And.intro hE (And.intro hO hkl))
      have HEV : Hid (evs (ps.take (k + 1)) = (if k % 2 = 0 then E ++ [ps[k]] else E) ∧ ods (ps.take (k + 1)) = (if k % 2 = 0 then O else O ++ [ps[k]])) := Lib.hid (by
        rw [HT.out, evs_snoc, ods_snoc, HEO.out.1, HEO.out.2.1, HEO.out.2.2]
        exact ⟨rfl, rfl⟩)
      clear hE hO hkl HT HEO
      generalize ps[k] = xk at *
      have HU := Lib.hid (And.intro hu hf)
      have HBR := Lib.hid (And.intro hB hxr)
      obtain ⟨L1, ow1, l1⟩ := hB.o1
      obtain ⟨A1, c1, rfl, _, _⟩ := id ow1.ints.form
      clear hu hf hB hxr
      go_wp2_with (at_builtin; refine wpList_append_intsA rfl _ _ rfl w.heap.size _ _ L1 xk rfl rfl ow1 (HU.out.1.ext HBR.out.2) HU.out.2 (by omega) HBR.out.2.size ?_)
      intro v1b w5 h1 g1 q1
      have hB1 := HBR.out.1.once (n' := 300 * k + 100) ⟨L1, ow1⟩ h1 (by rw [List.length_append]; omega) (by omega) g1 q1
      have hx5 : Ext w w5 := HBR.out.2.grown g1 (fun j hj => (ow1.lt j hj).1)
      have HB1 := Lib.hid (And.intro hB1 hx5)
      obtain ⟨L2, ow2, l2⟩ := hB1.o2
      clear ow1 h1 g1 q1 hB1 hx5 c0
      go_wp2_with (at_builtin; refine wpList_append_intsA rfl _ _ rfl w.heap.size _ _ L2 xk rfl rfl ow2 (HU.out.1.ext HB1.out.2) HU.out.2 (by omega) HB1.out.2.size ?_)
      intro v2b w6 h2 g2 q2
      have hB2 := HB1.out.1.twice (n' := 300 * k + 200) ⟨L2, ow2⟩ h2 (by rw [List.length_append]; omega) (by omega) g2 q2
      have hx6 : Ext w w6 := HB1.out.2.grown g2 (fun j hj => (ow2.lt j hj).1)
      have HB2 := Lib.hid (And.intro hB2 hx6)
      clear ow2 h2 g2 q2 hB2 hx6
      by_cases hp : k % 2 = 0
      · rw [if_pos hp, if_pos hp] at HEV
        have hrm : ((k : Int) % 2 == 0) = true := by rw [show (k : Int) % 2 = 0 by omega]; rfl
        clear hp
        replace HB2 := Lib.hid (And.intro (HB2.out.1.more (n' := 300 * (k + 1)) (by omega)) HB2.out.2)
        have dD := HB2.out.1.ext (Ext.drew w6)
        have x3 : w6.drew.cell? ⟨gF, 3, none⟩ = some (.slice Aw E.length cw) := dD.dr.blk.cell 3
        have CL := CloneF_c _ xk w6.drew ((HU.out.1.ext HB2.out.2).ext (Ext.drew w6)) HU.out.2 (by omega)
        go_wp2_with fail
        refine wp_region_ordT 5 (readsT [0, 1, 2] (.stir 3 (.stir 4 .done))) (by kernel_rfl) (by kernel_rfl) (fun _ _ _ _ _ h => h) ?_
        simp only [readsT]
        iterate 3 (refine wpOrdT_read (v := ?_) (by rfl) (Or.inl ⟨by rfl, fun x hx => ?_⟩) ?_; rotate_left; (· have a1 := Ext.cell hx x3; go_simp; try with_reducible rfl); try simp only [Act.put, List.setIfInBounds_toArray, List.set_cons_zero, List.set_cons_succ])
        refine wpOrdT_stir (by rfl) (fun K hK => ?_)
        go_simp
        go_at_call 92
        refine CL.mono ?_
        rintro e w7 ⟨z, rfl, oz, _, hx7⟩
        refine hK _ _ hx7 ?_
        clear hK K
        try simp only [Act.put, List.setIfInBounds_toArray, List.set_cons_zero, List.set_cons_succ]
        obtain ⟨Az, cz, rfl, _, _⟩ := id oz.ints.form
        refine wpOrdT_stir (by rfl) (fun K hK => ?_)
        go_simp
        have eA := Ext.alloc w7 (.cells #[.slice Az xk.length cz] 27)
        refine hK _ _ eA ?_
        clear hK K
        try simp only [Act.put, List.setIfInBounds_toArray, List.set_cons_zero, List.set_cons_succ]
        refine wpOrdT_done ?_
        try simp only [List.drop_succ_cons, List.drop_zero]
        have d8 := (dD.ext hx7).ext eA
        have hxr := HB2.out.2
        have hq1 : (w7.alloc (.cells #[.slice Az xk.length cz] 27)).ownsRow w.heap.size 27 1 (.slice Aw E.length cw) E.length vs := d8.dr.ow
        have hsz : w.heap.size ≤ w6.heap.size := hxr.size
        have hsz7 : w6.heap.size ≤ w7.heap.size := (show Ext w6 w7 from (Ext.drew w6).trans hx7).size
        have ox8 := ownsRow_ext oz eA
        go_wp2_with (at_builtin; refine wpList_append_own_at _ rfl _ _ 32 rfl w.heap.size 27 r0i (.slice none 0 0) 1 24 Tryz.underlying32 hri rz0 rz1 rz2 rfl (by decide) _ _ _ rfl hq1 ⟨w7.heap.size, 0, none⟩ 1 1 [.slice Az xk.length cz] rfl rfl (cell_one_new _ _ _) ?c2 ?c3 ?c4 ?c5 ?_)
        case c2 => intro u hu; simp at hu; subst hu; rfl
        case c3 => unfold maxLen; omega
        case c4 => omega
        case c5 => simp; omega
        intro v' w9 hown9 hg9 hat9 hloc
        obtain ⟨A9, c9, rfl, _, _, _⟩ := (ownsRow_row hown9).form
        have ff := (Blk.apart d8.dr.blk hq1 (by decide) hg9).frozen 3
        have cc : w9.cell? ⟨gF, 3, none⟩ = some (.slice Aw E.length cw) := (Blk.apart d8.dr.blk hq1 (by decide) hg9).cell 3
        have hn9 := d8.dr.fresh dD.dr oz
        have hAp : AptF (.slice A9 (E.length + 1) c9) (.slice Ar O.length cr) := fun q hq1' hq2 => by
          rcases hloc with e | e
          · exact d8.dr.nr q (by rw [← e]; exact hq1') hq2
          · rw [e] at hq1'
            have h1 := (World.ownsRow.lt d8.dr.or q hq2).2
            simp only [World.size_alloc] at h1
            injection hq1' with e2
            omega
        have n1 : AptF v1b (.slice Az xk.length cz) := fun g h1 h2 => by
          obtain ⟨L, o, _⟩ := dD.o1
          have a := (o.lt g h1).2
          have b := (oz.lt g h2).1
          omega
        have n2 : AptF v2b (.slice Az xk.length cz) := fun g h1 h2 => by
          obtain ⟨L, o, _⟩ := dD.o2
          have a := (o.lt g h1).2
          have b := (oz.lt g h2).1
          omega
        have P9 := d8.putW (ownsRow_base ox8 hsz) hn9 n1 n2 hown9 hg9 hAp HNE.out.1 HNE.out.2.1
        have X9 : Ext w (w9.setCell ⟨gF, 3, none⟩ (.slice A9 (E.length + 1) c9)) := ((((hxr.trans (Ext.drew w6)).trans hx7).trans eA).grown hg9 (fun j hj => (hq1.lt j hj).1)).setCell (p := ⟨gF, 3, none⟩) HNE.out.2.2 _
        have HP9 : Hid (∃ wv rv vs us, BdAt bm gF gO m mv w.heap.size (300 * (k + 1)) q (evs (ps.take (k + 1))) (ods (ps.take (k + 1))) v1b v2b wv rv vs us (w9.setCell ⟨gF, 3, none⟩ (.slice A9 (E.length + 1) c9)) ∧ Ext w (w9.setCell ⟨gF, 3, none⟩ (.slice A9 (E.length + 1) c9))) := Lib.hid (by
          rw [HEV.out.1, HEV.out.2]
          exact ⟨_, _, _, _, P9, X9⟩)
        have hw9 : IntKind.i64.wrap ((k : Int) + 1) = ((k + 1 : Nat) : Int) := by rw [show (k : Int) + 1 = ((k + 1 : Nat) : Int) by omega]; exact IntWalk.i64_in _ (by omega)
        clear P9 X9 hn9 hAp hq1 ox8 oz hg9 hown9 hloc dD x3 d8 hxr n1 n2
        go_wp2
        go_roundw
        case rel => exact ⟨k + 1, by omega, by go_num, HP9⟩
        case measure => simp [intOf]; omega
      · rw [if_neg hp, if_neg hp] at HEV
        have hrm : ((k : Int) % 2 == 0) = false := by rw [show (k : Int) % 2 = 1 by omega]; rfl
        clear hp
        obtain ⟨L3, ow3, l3⟩ := HB2.out.1.o2
        go_wp2_with (at_builtin; refine wpList_append_intsA rfl _ _ rfl w.heap.size _ _ L3 xk rfl rfl ow3 (HU.out.1.ext HB2.out.2) HU.out.2 (by omega) HB2.out.2.size ?_)
        intro v2c w7a h3 g3 q3
        have hB3 := HB2.out.1.twice (n' := 300 * (k + 1)) ⟨L3, ow3⟩ h3 (by rw [List.length_append]; omega) (by omega) g3 q3
        have hx7a : Ext w w7a := HB2.out.2.grown g3 (fun j hj => (ow3.lt j hj).1)
        have HB3 := Lib.hid (And.intro hB3 hx7a)
        clear ow3 h3 g3 q3 hB3 hx7a
        have dD := HB3.out.1.ext (Ext.drew w7a)
        have x3 : w7a.drew.cell? ⟨gF, 4, none⟩ = some (.slice Ar O.length cr) := dD.dr.blk.cell 4
        have CL := CloneF_c _ xk w7a.drew ((HU.out.1.ext HB3.out.2).ext (Ext.drew w7a)) HU.out.2 (by omega)
        go_wp2_with fail
        refine wp_region_ordT 5 (readsT [0, 1, 2] (.stir 3 (.stir 4 .done))) (by kernel_rfl) (by kernel_rfl) (fun _ _ _ _ _ h => h) ?_
        simp only [readsT]
        iterate 3 (refine wpOrdT_read (v := ?_) (by rfl) (Or.inl ⟨by rfl, fun x hx => ?_⟩) ?_; rotate_left; (· have a1 := Ext.cell hx x3; go_simp; try with_reducible rfl); try simp only [Act.put, List.setIfInBounds_toArray, List.set_cons_zero, List.set_cons_succ])
        refine wpOrdT_stir (by rfl) (fun K hK => ?_)
        go_simp
        go_at_call 92
        refine CL.mono ?_
        rintro e w7 ⟨z, rfl, oz, _, hx7⟩
        refine hK _ _ hx7 ?_
        clear hK K
        try simp only [Act.put, List.setIfInBounds_toArray, List.set_cons_zero, List.set_cons_succ]
        obtain ⟨Az, cz, rfl, _, _⟩ := id oz.ints.form
        refine wpOrdT_stir (by rfl) (fun K hK => ?_)
        go_simp
        have eA := Ext.alloc w7 (.cells #[.slice Az xk.length cz] 27)
        refine hK _ _ eA ?_
        clear hK K
        try simp only [Act.put, List.setIfInBounds_toArray, List.set_cons_zero, List.set_cons_succ]
        refine wpOrdT_done ?_
        try simp only [List.drop_succ_cons, List.drop_zero]
        have d8 := (dD.ext hx7).ext eA
        have hxr := HB3.out.2
        have hq1 : (w7.alloc (.cells #[.slice Az xk.length cz] 27)).ownsRow w.heap.size 27 1 (.slice Ar O.length cr) O.length us := d8.dr.or
        have hsz : w.heap.size ≤ w7a.heap.size := hxr.size
        have hsz7 : w7a.heap.size ≤ w7.heap.size := (show Ext w7a w7 from (Ext.drew w7a).trans hx7).size
        have ox8 := ownsRow_ext oz eA
        go_wp2_with (at_builtin; refine wpList_append_own_at _ rfl _ _ 32 rfl w.heap.size 27 r0i (.slice none 0 0) 1 24 Tryz.underlying32 hri rz0 rz1 rz2 rfl (by decide) _ _ _ rfl hq1 ⟨w7.heap.size, 0, none⟩ 1 1 [.slice Az xk.length cz] rfl rfl (cell_one_new _ _ _) ?c2 ?c3 ?c4 ?c5 ?_)
        case c2 => intro u hu; simp at hu; subst hu; rfl
        case c3 => unfold maxLen; omega
        case c4 => omega
        case c5 => simp; omega
        intro v' w9 hown9 hg9 hat9 hloc
        obtain ⟨A9, c9, rfl, _, _, _⟩ := (ownsRow_row hown9).form
        have ff := (Blk.apart d8.dr.blk hq1 (by decide) hg9).frozen 4
        have cc : w9.cell? ⟨gF, 4, none⟩ = some (.slice Ar O.length cr) := (Blk.apart d8.dr.blk hq1 (by decide) hg9).cell 4
        have hn9 := d8.dr.fresh dD.dr oz
        have hAp : AptF (.slice Aw E.length cw) (.slice A9 (O.length + 1) c9) := fun q hq1' hq2 => by
          rcases hloc with e | e
          · exact d8.dr.nr q hq1' (by rw [← e]; exact hq2)
          · rw [e] at hq2
            have h1 := (World.ownsRow.lt d8.dr.ow q hq1').2
            simp only [World.size_alloc] at h1
            injection hq2 with e2
            omega
        have n1 : AptF v1b (.slice Az xk.length cz) := fun g h1 h2 => by
          obtain ⟨L, o, _⟩ := dD.o1
          have a := (o.lt g h1).2
          have b := (oz.lt g h2).1
          omega
        have n2 : AptF v2c (.slice Az xk.length cz) := fun g h1 h2 => by
          obtain ⟨L, o, _⟩ := dD.o2
          have a := (o.lt g h1).2
          have b := (oz.lt g h2).1
          omega
        have P9 := d8.putR (ownsRow_base ox8 hsz) hn9 n1 n2 hown9 hg9 hAp HNE.out.1 HNE.out.2.1
        have X9 : Ext w (w9.setCell ⟨gF, 4, none⟩ (.slice A9 (O.length + 1) c9)) := ((((hxr.trans (Ext.drew w7a)).trans hx7).trans eA).grown hg9 (fun j hj => (hq1.lt j hj).1)).setCell (p := ⟨gF, 4, none⟩) HNE.out.2.2 _
        have HP9 : Hid (∃ wv rv vs us, BdAt bm gF gO m mv w.heap.size (300 * (k + 1)) q (evs (ps.take (k + 1))) (ods (ps.take (k + 1))) v1b v2c wv rv vs us (w9.setCell ⟨gF, 4, none⟩ (.slice A9 (O.length + 1) c9)) ∧ Ext w (w9.setCell ⟨gF, 4, none⟩ (.slice A9 (O.length + 1) c9))) := Lib.hid (by
          rw [HEV.out.1, HEV.out.2]
          exact ⟨_, _, _, _, P9, X9⟩)
        have hw9 : IntKind.i64.wrap ((k : Int) + 1) = ((k + 1 : Nat) : Int) := by rw [show (k : Int) + 1 = ((k + 1 : Nat) : Int) by omega]; exact IntWalk.i64_in _ (by omega)
        clear P9 X9 hn9 hAp hq1 ox8 oz hg9 hown9 hloc dD x3 d8 hxr n1 n2
        go_wp2
        go_roundw
        case rel => exact ⟨k + 1, by omega, by go_num, HP9⟩
        case measure => simp [intOf]; omega
    · have hke : k = ps.length := by omega
      subst hke
      have hdl : decide ((ps.length : Int) < (ps.length : Int)) = false := decide_eq_false (by omega)
      obtain ⟨wv, rv, vs, us, hB, hxr⟩ := HR.out
      rw [List.take_length] at hB
      obtain ⟨E, hE⟩ : ∃ E, evs ps = E := ⟨_, rfl⟩
      obtain ⟨O, hO⟩ : ∃ O, ods ps = O := ⟨_, rfl⟩
      rw [hE, hO] at hB
      have hln := HL.out.1
      obtain ⟨n, hn⟩ : ∃ n, E.length = n + 1 := ⟨E.length - 1, by rw [← hE, evs_len]; omega⟩
      obtain ⟨r, hr⟩ : ∃ r, O.length = r := ⟨_, rfl⟩
      have hnr : n ≤ 2 ∧ r = n := by rw [← hE, evs_len] at hn; rw [← hO, ods_len] at hr; omega
      obtain ⟨gw, cw, rfl⟩ := own_some hB.dr.ow (by show 0 < E.length; omega)
      obtain ⟨A2, c2, rfl, _, _, _⟩ := (ownsRow_row hB.dr.or).form
      have hnE : n < E.length := by omega
      obtain ⟨ul, hul, oul⟩ := hB.dr.iw n hnE
      obtain ⟨xl, hxl⟩ : ∃ y, E[n] = y := ⟨_, rfl⟩
      replace oul : OwnInts w.heap.size wr ul E[n] := oul
      rw [hxl] at oul
      obtain ⟨Al, cl, rfl, _, _⟩ := oul.ints.form
      have hxll : xl.length ≤ 100 := HL.out.2 _ (evs_mem (by rw [hE, ← hxl]; exact List.getElem_mem hnE))
      obtain ⟨L1, ow1, l1⟩ := hB.o1
      obtain ⟨L2, ow2, l2⟩ := hB.o2
      obtain ⟨A1, c1, rfl, _, _⟩ := id ow1.ints.form
      obtain ⟨A3, c3, rfl, _, _⟩ := id ow2.ints.form
      have dD := hB.dr.ext (Ext.drew wr)
      have f0 := dD.blk.cell 0
      have f1 := dD.blk.cell 1
      have f2 := dD.blk.cell 2
      have f3 := dD.blk.cell 3
      have f4 := dD.blk.cell 4
      have f5 := dD.blk.cell 5
      simp only [List.getElem?_toArray, List.getElem?_cons_zero, List.getElem?_cons_succ] at f0 f1 f2 f3 f4 f5
      have fk : wr.drew.cell? ⟨gw, n, none⟩ = some (.slice Al xl.length cl) := by
        have := own_cell dD.ow (i := n) (by show n < E.length; omega)
        rw [hul] at this
        exact this
      have FV : FoV wr.drew (.agg #[.int .i64 q, .int .i64 0, .int .i64 0, .slice (some ⟨gw, 0, none⟩) E.length cw, .slice A2 O.length c2, .slice none 0 0]) ⟨q, 0, 0, E, O, []⟩ (.slice (some ⟨gw, 0, none⟩) E.length cw) (.slice A2 O.length c2) (.slice none 0 0) :=
        ⟨rfl, OwnLists.lists ⟨vs, dD.ow, dD.iw⟩, OwnLists.lists ⟨us, dD.or, dD.ir⟩, dD.oo.ints, dD.oo.flat⟩
      have LC := fun (x : World) (hx : Ext wr.drew x) => last_c _ _ _ _ _ x (FV.ext hx) (by show E.length ≤ 1000; omega)
      have hnn : (E.length : Int) - 1 = (n : Int) := by omega
      simp only [hnn] at LC
      have HB := Lib.hid (And.intro hB (And.intro hxr (And.intro ow1 ow2)))
      have HE := Lib.hid (And.intro hE (And.intro hO (And.intro hn (And.intro hr (And.intro hxl (And.intro hnE hnr))))))
      have hwx : IntKind.i64.wrap ((xl.length : Int) - 1) = (xl.length : Int) - 1 := IntWalk.i64_in _ (by omega)
      clear hn hr hnr hul oul FV dD hB hxr ow1 ow2 hxl hnn hE hO hln HR
      go_wp2_with fail
      refine wp_region_ordU (Ext wr.drew) 12 [11] (readsU [0, 2, 3, 4] (.stir 1 (readsU [10] (.stir 5 (readsU [6, 7] (.stir 8 (.pure 9 (.leave 11 .done)))))))) (by kernel_rfl) (by kernel_rfl) (fun _ _ _ _ _ h => h) (Ext.refl _) ?_
      simp only [readsU]
      iterate 4 (refine wpOrdU_read (v := ?_) (by rfl) (Or.inl ⟨by rfl, fun x hx => ?_⟩) ?_; rotate_left; (· have y0 := Ext.cell hx f0; have y1 := Ext.cell hx f1; have y2 := Ext.cell hx f2; have y3 := Ext.cell hx f3; have y4 := Ext.cell hx f4; have y5 := Ext.cell hx f5; go_simp; try with_reducible rfl); try simp only [Act.put, List.setIfInBounds_toArray, List.set_cons_zero, List.set_cons_succ])
      refine wpOrdU_stir (by rfl) (fun K hK => ?_)
      go_simp
      go_at_call 187
      refine (LC _ (Ext.refl _)).mono ?_
      rintro e w5 ⟨rfl, hx5⟩
      refine hK _ _ hx5 ?_
      clear hK K
      try simp only [Act.put, List.setIfInBounds_toArray, List.set_cons_zero, List.set_cons_succ]
      refine wpOrdU_read (v := ?_) (by rfl) (Or.inl ⟨by rfl, fun x hx => ?_⟩) ?_; rotate_left; (· go_simp; try with_reducible rfl); try simp only [Act.put, List.setIfInBounds_toArray, List.set_cons_zero, List.set_cons_succ]
      refine wpOrdU_stir (by rfl) (fun K hK => ?_)
      go_simp
      go_at_call 187
      refine (LC _ hx5).mono ?_
      rintro e w6 ⟨rfl, hx6⟩
      refine hK _ _ hx6 ?_
      clear hK K
      try simp only [Act.put, List.setIfInBounds_toArray, List.set_cons_zero, List.set_cons_succ]
      replace fk := hx6.cell (hx5.cell fk)
      iterate 2 (refine wpOrdU_read (v := ?_) (by rfl) (Or.inl ⟨by rfl, fun x hx => ?_⟩) ?_; rotate_left; (· have yk := Ext.cell hx fk; go_simp; try first | with_reducible rfl | (rw [if_pos (by omega)]; try with_reducible rfl)); try simp only [Act.put, List.setIfInBounds_toArray, List.set_cons_zero, List.set_cons_succ])
      refine wpOrdU_stir (by rfl) (fun K hK => ?_)
      go_simp
      go_at_call 112
      refine (sizeIN_c _ _ _ _).mono ?_
      rintro e w7 ⟨rfl, hw7⟩
      subst hw7
      refine hK _ _ (Ext.refl _) ?_
      clear hK K
      try simp only [Act.put, List.setIfInBounds_toArray, List.set_cons_zero, List.set_cons_succ]
      refine wpOrdU_pure (v := ?_) (by rfl) (Or.inl ⟨by rfl, fun x hx => ?_⟩) ?_; rotate_left; (· go_simp; try with_reducible rfl); try simp only [Act.put, List.setIfInBounds_toArray, List.set_cons_zero, List.set_cons_succ]
      have hx7 : Ext wr w6 := ((Ext.drew wr).trans hx5).trans hx6
      have d7 := HB.out.1.dr.ext hx7
      have z1 := d7.blk.frozen 1
      have y1 := d7.blk.cell 1
      simp only [List.getElem?_toArray, List.getElem?_cons_zero, List.getElem?_cons_succ] at y1
      refine wpOrdU_leave (by rfl) (fun K hK => ?_)
      go_simp
      refine hK _ _ ?_
      clear hK K
      try simp only [Act.put, List.setIfInBounds_toArray, List.set_cons_zero, List.set_cons_succ]
      refine wpOrdU_done ?_
      try simp only [List.drop_succ_cons, List.drop_zero]
      have d8 := d7.putH (n : Int) HNE.out.1
      have e1 : OwnInts w.heap.size (w6.setCell ⟨gF, 1, none⟩ (.int .i64 (n : Int))) (.slice A1 L1.length c1) L1 := far_blkF (ownsRow_ext HB.out.2.2.1 hx7) d7.blk (by decide) 1 _
      have e2 : OwnInts w.heap.size (w6.setCell ⟨gF, 1, none⟩ (.int .i64 (n : Int))) (.slice A3 L2.length c3) L2 := far_blkF (ownsRow_ext HB.out.2.2.2 hx7) d7.blk (by decide) 1 _
      have bO8 := (HB.out.1.out.ext hx7).far (p := ⟨gF, 1, none⟩) HNE.out.2.1 (.int .i64 (n : Int))
      have x8 : Ext w (w6.setCell ⟨gF, 1, none⟩ (.int .i64 (n : Int))) := (HB.out.2.1.trans hx7).setCell (p := ⟨gF, 1, none⟩) HNE.out.2.2 _
      have z2 := d8.blk.frozen 2
      have y2 := d8.blk.cell 2
      simp only [List.getElem?_toArray, List.getElem?_cons_zero, List.getElem?_cons_succ] at y2
      obtain ⟨WC, hWC⟩ : ∃ W, W = (w6.setCell ⟨gF, 1, none⟩ (.int .i64 (n : Int))).setCell ⟨gF, 2, none⟩ (.int .i64 ((xl.length : Int) - 1)) := ⟨_, rfl⟩
      have d9 := d8.putA ((xl.length : Int) - 1) HNE.out.1
      have e1' : OwnInts w.heap.size WC (.slice A1 L1.length c1) L1 := by rw [hWC]; exact far_blkF e1 d8.blk (by decide) 2 _
      have e2' : OwnInts w.heap.size WC (.slice A3 L2.length c3) L2 := by rw [hWC]; exact far_blkF e2 d8.blk (by decide) 2 _
      have bO9 : Blk WC gO 49 #[.int .i64 0, .int .i64 0, .int .i64 0, .slice none 0 0, .slice none 0 0, .slice none 0 0] := by rw [hWC]; exact bO8.far (p := ⟨gF, 2, none⟩) HNE.out.2.1 _
      have x9 : Ext w WC := by rw [hWC]; exact x8.setCell (p := ⟨gF, 2, none⟩) HNE.out.2.2 _
      rw [← hWC] at d9
      have f4' := d9.blk.cell 4
      simp only [List.getElem?_toArray, List.getElem?_cons_zero, List.getElem?_cons_succ] at f4'
      have HC := Lib.hid (And.intro d9 (And.intro e1' (And.intro e2' (And.intro bO9 x9))))
      clear d7 d8 d9 e1 e2 e1' e2' bO8 bO9 x8 x9 hx5 hx6 hx7 fk f0 f1 f2 f3 f4 f5 LC
      go_upto_region 12 with fail
      try rw [← hWC]
      clear hWC
      go_wp2_with (at_make; refine wpList_make_full _ rfl _ _ 27 rfl w.heap.size 2 i0 _ 1 Tryz.underlying27 hi0 hz0 hz1 .i64 .i64 _ _ O.length rfl rfl ?d1 ?d2 ?c1 ?c2 ?c3 ?_)
      case d1 => rfl
      case d2 => rfl
      case c1 => have := HE.out.2.2.2.1; have := HE.out.2.2.2.2.2.2; try rw [hz2]
                 omega
      case c2 => unfold maxLen; have := HE.out.2.2.2.1; have := HE.out.2.2.2.2.2.2; omega
      case c3 => exact HC.out.2.2.2.2.size
      intro w10 hown hgr
      rw [show (madeCells #[Value.int .i64 0] O.length).toList = ivs (List.replicate O.length 0) by rw [toList_madeCells_one]; simp [ivs]] at hown
      have hoi : OwnInts w.heap.size w10 (.slice (some ⟨WC.heap.size, 0, none⟩) O.length O.length) (List.replicate O.length 0) := by
        show w10.ownsRow _ _ _ _ (List.replicate O.length (0 : Int)).length _
        rw [List.length_replicate]
        exact hown
      have hx10 : Ext WC w10 := (Ext.refl _).grown hgr (by simp)
      have d10 := HC.out.1.ext hx10
      have y5 := d10.blk.cell 5
      have z5 := d10.blk.frozen 5
      simp only [List.getElem?_toArray, List.getElem?_cons_zero, List.getElem?_cons_succ] at y5
      obtain ⟨WE, hWE⟩ : ∃ W, W = w10.setCell ⟨gF, 5, none⟩ (.slice (some ⟨WC.heap.size, 0, none⟩) O.length O.length) := ⟨_, rfl⟩
      have dE := HC.out.1.putO hoi hgr (fun v hv g h1 h2 => by
        have := HC.out.1.ltU v hv g h2
        simp [Value.ownBlock] at h1
        omega) HNE.out.1
      have e1 : OwnInts w.heap.size WE (.slice A1 L1.length c1) L1 := by rw [hWE]; exact far_blkF (ownsRow_ext HC.out.2.1 hx10) d10.blk (by decide) 5 _
      have e2 : OwnInts w.heap.size WE (.slice A3 L2.length c3) L2 := by rw [hWE]; exact far_blkF (ownsRow_ext HC.out.2.2.1 hx10) d10.blk (by decide) 5 _
      have bOE : Blk WE gO 49 #[.int .i64 0, .int .i64 0, .int .i64 0, .slice none 0 0, .slice none 0 0, .slice none 0 0] := by rw [hWE]; exact (HC.out.2.2.2.1.ext hx10).far (p := ⟨gF, 5, none⟩) HNE.out.2.1 _
      have xE : Ext w WE := by rw [hWE]; exact (HC.out.2.2.2.2.trans hx10).setCell (p := ⟨gF, 5, none⟩) HNE.out.2.2 _
      rw [← hWE] at dE
      have HWE := Lib.hid (And.intro dE (And.intro e1 (And.intro e2 (And.intro bOE xE))))
      clear hown hoi hgr hx10 d10 dE e1 e2 bOE xE
      go_upto_region 13 with fail
      try rw [← hWE]
      clear hWE y5 z5
      have dD := HWE.out.1.ext (Ext.drew WE)
      have f0 := dD.blk.cell 0
      have f1 := dD.blk.cell 1
      have f2 := dD.blk.cell 2
      have f3 := dD.blk.cell 3
      have f4 := dD.blk.cell 4
      have f5 := dD.blk.cell 5
      simp only [List.getElem?_toArray, List.getElem?_cons_zero, List.getElem?_cons_succ, List.length_replicate] at f0 f1 f2 f3 f4 f5
      have EQ1 := slicesEqual_c WE.drew _ _ L1 B (HWE.out.2.1.ints.ext (Ext.drew WE)) (HIN.out.1.ext (HWE.out.2.2.2.2.trans (Ext.drew WE)))
      obtain ⟨b1, hb1⟩ : ∃ b, lEq L1 B = b := ⟨_, rfl⟩
      rw [hb1] at EQ1
      obtain ⟨b2, hb2⟩ : ∃ b, lEq L2 C = b := ⟨_, rfl⟩
      have HB2 := Lib.hid hb2
      clear dD hb1 hb2 hdl
      cases b1 with
      | false =>
        go_wp2_with fail
        refine wp_region_ordU (Ext WE.drew) 10 [9] (readsU [0, 1, 2] (.stir 3 (readsU [4, 5, 6] (.stir 7 (.pure 8 (.leave 9 .done)))))) (by kernel_rfl) (by kernel_rfl) (fun _ _ _ _ _ h => h) (Ext.refl _) ?_
        simp only [readsU]
        iterate 3 (refine wpOrdU_read (v := ?_) (by rfl) (Or.inl ⟨by rfl, fun x hx => ?_⟩) ?_; rotate_left; (· have y0 := Ext.cell hx f0; have y1 := Ext.cell hx f1; have y2 := Ext.cell hx f2; have y3 := Ext.cell hx f3; have y4 := Ext.cell hx f4; have y5 := Ext.cell hx f5; go_simp; try with_reducible rfl); try simp only [Act.put, List.setIfInBounds_toArray, List.set_cons_zero, List.set_cons_succ])
        refine wpOrdU_stir (by rfl) (fun K hK => ?_)
        go_simp
        go_at_call 168
        refine EQ1.mono ?_
        rintro e w12 ⟨rfl, hx12⟩
        refine hK _ _ hx12 ?_
        clear hK K EQ1 f0 f1 f2 f3 f4 f5
        try simp only [Act.put, List.setIfInBounds_toArray, List.set_cons_zero, List.set_cons_succ]
        refine wpOrdU_read (v := .bool false) (by rfl) (Or.inl ⟨by rfl, fun x hx => ?_⟩) ?_; (· go_simp)
        try simp only [Act.put, List.setIfInBounds_toArray, List.set_cons_zero, List.set_cons_succ]
        iterate 2 (refine wpOrdU_read (v := undef) (by rfl) (Or.inr ⟨by rfl, by rfl⟩) ?_; try simp only [Act.put, List.setIfInBounds_toArray, List.set_cons_zero, List.set_cons_succ])
        have hx13 : Ext w12 w12 := Ext.refl _
        refine wpOrdU_stir (by rfl) (fun K hK => ?_)
        go_simp
        refine hK _ _ (Ext.refl _) ?_
        clear hK K
        try simp only [Act.put, List.setIfInBounds_toArray, List.set_cons_zero, List.set_cons_succ]
        refine wpOrdU_pure (v := .bool false) (by rfl) (Or.inl ⟨by rfl, fun x hx => ?_⟩) ?_; (· go_simp)
        try simp only [Act.put, List.setIfInBounds_toArray, List.set_cons_zero, List.set_cons_succ]
        have hxE : Ext WE w12 := ((Ext.drew WE).trans hx12).trans hx13
        have bO13 := HWE.out.2.2.2.1.ext hxE
        have q0 := bO13.cell 0
        have q1 := bO13.cell 1
        have q2 := bO13.cell 2
        have q3 := bO13.cell 3
        have q4 := bO13.cell 4
        have q5 := bO13.cell 5
        simp only [List.getElem?_toArray, List.getElem?_cons_zero, List.getElem?_cons_succ] at q0 q1 q2 q3 q4 q5
        have z0 := bO13.frozen 0
        have z1 := bO13.frozen 1
        have z2 := bO13.frozen 2
        have z3 := bO13.frozen 3
        have z4 := bO13.frozen 4
        have z5 := bO13.frozen 5
        have HXE := Lib.hid (And.intro hxE bO13)
        clear hxE bO13 hx12 hx13
        refine wpOrdU_leave (by rfl) (fun K hK => ?_)
        go_simp
        refine hK _ _ ?_
        clear hK K
        try simp only [Act.put, List.setIfInBounds_toArray, List.set_cons_zero, List.set_cons_succ]
        refine wpOrdU_done ?_
        try simp only [List.drop_succ_cons, List.drop_zero]
        go_wp2
        refine bodyPost_ret (v := .tuple #[.agg #[.int .i64 q, .int .i64 (n : Int), .int .i64 ((xl.length : Int) - 1), .slice (some ⟨gw, 0, none⟩) E.length cw, .slice A2 O.length c2, .slice (some ⟨WC.heap.size, 0, none⟩) O.length O.length], .bool false]) (by simp [results, Tryz.results158, go_sem, q0, q1, q2, q3, q4, q5]) rfl ?_
        have dF := HWE.out.1.ext HXE.out.1
        have oW := (show OwnLists w.heap.size w12 _ E from ⟨vs, dF.ow, dF.iw⟩).far6 HXE.out.2 (by decide) (by decide) (.int .i64 q) (.int .i64 (n : Int)) (.int .i64 ((xl.length : Int) - 1)) (.slice (some ⟨gw, 0, none⟩) E.length cw) (.slice A2 O.length c2) (.slice (some ⟨WC.heap.size, 0, none⟩) O.length O.length)
        have oR := (show OwnLists w.heap.size w12 _ O from ⟨us, dF.or, dF.ir⟩).far6 HXE.out.2 (by decide) (by decide) (.int .i64 q) (.int .i64 (n : Int)) (.int .i64 ((xl.length : Int) - 1)) (.slice (some ⟨gw, 0, none⟩) E.length cw) (.slice A2 O.length c2) (.slice (some ⟨WC.heap.size, 0, none⟩) O.length O.length)
        have oO : OwnInts w.heap.size _ _ _ := far_blk6 dF.oo HXE.out.2 (by decide) (.int .i64 q) (.int .i64 (n : Int)) (.int .i64 ((xl.length : Int) - 1)) (.slice (some ⟨gw, 0, none⟩) E.length cw) (.slice A2 O.length c2) (.slice (some ⟨WC.heap.size, 0, none⟩) O.length O.length)
        refine ⟨ext_set6 (HWE.out.2.2.2.2.trans HXE.out.1) (by have := HG.out; omega) _ _ _ _ _ _, _, _, rfl, ?_⟩
        have e : bncF q ps = ⟨q, (n : Int), (xl.length : Int) - 1, E, O, List.replicate O.length 0⟩ := by
          show (⟨q, ((evs ps).length : Int) - 1, (((evs ps).getD ((evs ps).length - 1) []).length : Int) - 1, evs ps, ods ps, List.replicate (ods ps).length 0⟩ : FoD) = _
          rw [HE.out.1, HE.out.2.1]
          have e7 : (E.length : Int) - 1 = (n : Int) := by have := HE.out.2.2.1; omega
          have e8 : E.getD (E.length - 1) [] = xl := by rw [HE.out.2.2.1, Nat.add_sub_cancel, getD_get HE.out.2.2.2.2.2.1, HE.out.2.2.2.2.1]
          rw [e7, e8]
        rw [e]
        exact ⟨_, _, _, rfl, oW, oR, oO⟩
      | true =>
        go_wp2_with fail
        refine wp_region_ordU (Ext WE.drew) 10 [9] (readsU [0, 1, 2] (.stir 3 (readsU [4, 5, 6] (.stir 7 (.pure 8 (.leave 9 .done)))))) (by kernel_rfl) (by kernel_rfl) (fun _ _ _ _ _ h => h) (Ext.refl _) ?_
        simp only [readsU]
        iterate 3 (refine wpOrdU_read (v := ?_) (by rfl) (Or.inl ⟨by rfl, fun x hx => ?_⟩) ?_; rotate_left; (· have y0 := Ext.cell hx f0; have y1 := Ext.cell hx f1; have y2 := Ext.cell hx f2; have y3 := Ext.cell hx f3; have y4 := Ext.cell hx f4; have y5 := Ext.cell hx f5; go_simp; try with_reducible rfl); try simp only [Act.put, List.setIfInBounds_toArray, List.set_cons_zero, List.set_cons_succ])
        refine wpOrdU_stir (by rfl) (fun K hK => ?_)
        go_simp
        go_at_call 168
        refine EQ1.mono ?_
        rintro e w12 ⟨rfl, hx12⟩
        refine hK _ _ hx12 ?_
        clear hK K EQ1 f0 f1 f2 f3 f4 f5
        try simp only [Act.put, List.setIfInBounds_toArray, List.set_cons_zero, List.set_cons_succ]
        refine wpOrdU_read (v := .bool true) (by rfl) (Or.inl ⟨by rfl, fun x hx => ?_⟩) ?_; (· go_simp)
        try simp only [Act.put, List.setIfInBounds_toArray, List.set_cons_zero, List.set_cons_succ]
        iterate 2 (refine wpOrdU_read (v := ?_) (by rfl) (Or.inl ⟨by rfl, fun x hx => ?_⟩) ?_; rotate_left; (· go_simp; try with_reducible rfl); try simp only [Act.put, List.setIfInBounds_toArray, List.set_cons_zero, List.set_cons_succ])
        have EQ2 := slicesEqual_c w12 _ _ L2 C (HWE.out.2.2.1.ints.ext ((Ext.drew WE).trans hx12)) (HIN.out.2.1.ext ((HWE.out.2.2.2.2.trans (Ext.drew WE)).trans hx12))
        rw [HB2.out] at EQ2
        refine wpOrdU_stir (by rfl) (fun K hK => ?_)
        go_simp
        go_at_call 168
        refine EQ2.mono ?_
        rintro e w13 ⟨rfl, hx13⟩
        refine hK _ _ hx13 ?_
        clear hK K EQ2
        try simp only [Act.put, List.setIfInBounds_toArray, List.set_cons_zero, List.set_cons_succ]
        refine wpOrdU_pure (v := .bool b2) (by rfl) (Or.inl ⟨by rfl, fun x hx => ?_⟩) ?_; (· go_simp)
        try simp only [Act.put, List.setIfInBounds_toArray, List.set_cons_zero, List.set_cons_succ]
        have hxE : Ext WE w13 := ((Ext.drew WE).trans hx12).trans hx13
        have bO13 := HWE.out.2.2.2.1.ext hxE
        have q0 := bO13.cell 0
        have q1 := bO13.cell 1
        have q2 := bO13.cell 2
        have q3 := bO13.cell 3
        have q4 := bO13.cell 4
        have q5 := bO13.cell 5
        simp only [List.getElem?_toArray, List.getElem?_cons_zero, List.getElem?_cons_succ] at q0 q1 q2 q3 q4 q5
        have z0 := bO13.frozen 0
        have z1 := bO13.frozen 1
        have z2 := bO13.frozen 2
        have z3 := bO13.frozen 3
        have z4 := bO13.frozen 4
        have z5 := bO13.frozen 5
        have HXE := Lib.hid (And.intro hxE bO13)
        clear hxE bO13 hx12 hx13
        refine wpOrdU_leave (by rfl) (fun K hK => ?_)
        go_simp
        refine hK _ _ ?_
        clear hK K
        try simp only [Act.put, List.setIfInBounds_toArray, List.set_cons_zero, List.set_cons_succ]
        refine wpOrdU_done ?_
        try simp only [List.drop_succ_cons, List.drop_zero]
        go_wp2
        refine bodyPost_ret (v := .tuple #[.agg #[.int .i64 q, .int .i64 (n : Int), .int .i64 ((xl.length : Int) - 1), .slice (some ⟨gw, 0, none⟩) E.length cw, .slice A2 O.length c2, .slice (some ⟨WC.heap.size, 0, none⟩) O.length O.length], .bool b2]) (by simp [results, Tryz.results158, go_sem, q0, q1, q2, q3, q4, q5]) rfl ?_
        have dF := HWE.out.1.ext HXE.out.1
        have oW := (show OwnLists w.heap.size w13 _ E from ⟨vs, dF.ow, dF.iw⟩).far6 HXE.out.2 (by decide) (by decide) (.int .i64 q) (.int .i64 (n : Int)) (.int .i64 ((xl.length : Int) - 1)) (.slice (some ⟨gw, 0, none⟩) E.length cw) (.slice A2 O.length c2) (.slice (some ⟨WC.heap.size, 0, none⟩) O.length O.length)
        have oR := (show OwnLists w.heap.size w13 _ O from ⟨us, dF.or, dF.ir⟩).far6 HXE.out.2 (by decide) (by decide) (.int .i64 q) (.int .i64 (n : Int)) (.int .i64 ((xl.length : Int) - 1)) (.slice (some ⟨gw, 0, none⟩) E.length cw) (.slice A2 O.length c2) (.slice (some ⟨WC.heap.size, 0, none⟩) O.length O.length)
        have oO : OwnInts w.heap.size _ _ _ := far_blk6 dF.oo HXE.out.2 (by decide) (.int .i64 q) (.int .i64 (n : Int)) (.int .i64 ((xl.length : Int) - 1)) (.slice (some ⟨gw, 0, none⟩) E.length cw) (.slice A2 O.length c2) (.slice (some ⟨WC.heap.size, 0, none⟩) O.length O.length)
        refine ⟨ext_set6 (HWE.out.2.2.2.2.trans HXE.out.1) (by have := HG.out; omega) _ _ _ _ _ _, _, _, rfl, ?_⟩
        have e : bncF q ps = ⟨q, (n : Int), (xl.length : Int) - 1, E, O, List.replicate O.length 0⟩ := by
          show (⟨q, ((evs ps).length : Int) - 1, (((evs ps).getD ((evs ps).length - 1) []).length : Int) - 1, evs ps, ods ps, List.replicate (ods ps).length 0⟩ : FoD) = _
          rw [HE.out.1, HE.out.2.1]
          have e7 : (E.length : Int) - 1 = (n : Int) := by have := HE.out.2.2.1; omega
          have e8 : E.getD (E.length - 1) [] = xl := by rw [HE.out.2.2.1, Nat.add_sub_cancel, getD_get HE.out.2.2.2.2.2.1, HE.out.2.2.2.2.1]
          rw [e7, e8]
        rw [e]
        exact ⟨_, _, _, rfl, oW, oR, oO⟩
end Go.Proofs.YtojiammendjpkaaGreat
end
section
set_option linter.unusedSimpArgs false
set_option linter.unusedVariables false
namespace Go.Proofs.YtojiammendjpkaaGreat
open Go Go.RowKit Go.Proofs
set_option maxHeartbeats 400000
theorem OwnLists.base {b b' : Nat} {w : World} {v : Value} {xss : List (List Int)} (h : OwnLists b w v xss) (hb : b' ≤ b) : OwnLists b' w v xss := by
  obtain ⟨vs, x, y⟩ := h
  exact ⟨vs, ownsRow_base x hb, fun i hi => by obtain ⟨u, c, d⟩ := y i hi; exact ⟨u, c, ownsRow_base d hb⟩⟩
theorem OwnFo.ext {b : Nat} {w w' : World} {v : Value} {f : FoD} (h : OwnFo b w v f) (he : Ext w w') : OwnFo b w' v f := by
  obtain ⟨wv, rv, ov, e, x, y, z⟩ := h
  exact ⟨wv, rv, ov, e, x.ext he, y.ext he, ownsRow_ext z he⟩
theorem OwnFo.base {b b' : Nat} {w : World} {v : Value} {f : FoD} (h : OwnFo b w v f) (hb : b' ≤ b) : OwnFo b' w v f := by
  obtain ⟨wv, rv, ov, e, x, y, z⟩ := h
  exact ⟨wv, rv, ov, e, x.base hb, y.base hb, ownsRow_base z hb⟩
theorem OwnFo.far6 {b : Nat} {w : World} {v : Value} {f : FoD} {g : Nat} {t : TypeId} {cs : Array Value} (h : OwnFo b w v f) (hb : Blk w g t cs) (h1 : t ≠ 27) (h2 : t ≠ 2) (x0 x1 x2 x3 x4 x5 : Value) :
    OwnFo b ((((((w.setCell ⟨g, 0, none⟩ x0).setCell ⟨g, 1, none⟩ x1).setCell ⟨g, 2, none⟩ x2).setCell ⟨g, 3, none⟩ x3).setCell ⟨g, 4, none⟩ x4).setCell ⟨g, 5, none⟩ x5) v f := by
  obtain ⟨wv, rv, ov, e, x, y, z⟩ := h
  exact ⟨wv, rv, ov, e, x.far6 hb h1 h2 _ _ _ _ _ _, y.far6 hb h1 h2 _ _ _ _ _ _, far_blk6 z hb h2 _ _ _ _ _ _⟩
/-- Lists that a block's cells name. -/
theorem lists_blk {w : World} {g : Nat} {us : List Value} {xss : List (List Int)} (hb : Blk w g 27 us.toArray) (hl : us.length = xss.length) (hm : us.length ≤ 1000) (h : ∀ i, (h1 : i < us.length) → (h2 : i < xss.length) → Ints w us[i] xss[i] ∧ Flat us[i]) : Lists w (.slice (some ⟨g, 0, none⟩) xss.length xss.length) xss := by
  refine ⟨us, ⟨_, _, rfl, Nat.le_refl _, by omega, by omega, fun _ => ⟨g, 0, rfl, fun j hj => ?_⟩⟩, fun i hi => ?_⟩
  · have := hb.cell j
    rw [Nat.zero_add]
    simpa using this
  · have hi' : i < us.length := by omega
    exact ⟨us[i], List.getElem?_eq_getElem hi', h i hi' hi⟩
/-- What words are tried. -/
structure Tried (a b : List Int) (ps : List (List Int)) : Prop where
  ln : ps.length = 3 ∨ ps.length = 5
  wl : ∀ x ∈ ps, x.length ≤ 48 ∧ ∀ z ∈ x, z ∈ a ∨ z ∈ b
  rl : ∀ x ∈ ods ps, 1 ≤ x.length ∧ x.length ≤ 8
  lst : 1 ≤ ((evs ps).getD ((evs ps).length - 1) []).length
theorem Tried.ok {a b : List Int} {ps : List (List Int)} {m : MachD} {q : Int} (h : Tried a b ps) (hq : 0 ≤ q ∧ q < m.st) (ha : ∀ z ∈ a, 0 ≤ z ∧ z < m.sy) (hb : ∀ z ∈ b, 0 ≤ z ∧ z < m.sy) : foOk m (bncF q ps) = true ∧ 0 ≤ (bncF q ps).at_ ∧ (bncF q ps).at_ < ((bncF q ps).ws.getD (bncF q ps).hd.toNat []).length := by
  have h1 := h.ln
  have h2 := evs_len ps
  have h3 := ods_len ps
  have hz : ∀ x ∈ ps, ∀ z ∈ x, 0 ≤ z ∧ z < m.sy := fun x hx z hz => ((h.wl x hx).2 z hz).elim (ha z) (hb z)
  have hw : (bncF q ps).ws.getD (bncF q ps).hd.toNat [] = (evs ps).getD ((evs ps).length - 1) [] := by
    show (evs ps).getD (((evs ps).length : Int) - 1).toNat [] = _
    congr 1
    omega
  have hat : (bncF q ps).at_ = (((evs ps).getD ((evs ps).length - 1) []).length : Int) - 1 := rfl
  have hl := h.lst
  have hr : 0 ≤ (bncF q ps).at_ ∧ (bncF q ps).at_ < ((bncF q ps).ws.getD (bncF q ps).hd.toNat []).length := by
    rw [hw, hat]
    omega
  refine ⟨foOk_of ⟨hq, ?_, ?_, ?_, fun x hx => ?_, fun x hx => ?_, fun o ho => ?_, ?_⟩ ?_, hr⟩
  · show 1 ≤ (ods ps).length ∧ (ods ps).length ≤ 3
    omega
  · show (evs ps).length = (ods ps).length + 1
    omega
  · show (List.replicate (ods ps).length (0 : Int)).length = (ods ps).length
    simp
  · have hx : x ∈ ps := evs_mem hx
    exact ⟨by have := (h.wl x hx).1; omega, hz x hx⟩
  · have hx' : x ∈ ods ps := hx
    exact ⟨(h.rl x hx').1, by have := (h.rl x hx').2; omega, hz x (ods_mem hx')⟩
  · have ho : o ∈ List.replicate (ods ps).length (0 : Int) := ho
    rw [List.eq_of_mem_replicate ho]
    omega
  · show 0 ≤ ((evs ps).length : Int) - 1 ∧ ((evs ps).length : Int) - 1 ≤ (ods ps).length
    omega
  · unfold atOk
    simp only [Bool.or_eq_true]
    exact .inl (.inl (inB_iff.2 (by omega)))
def parts3 (a b : List Int) (j g : Nat) : List (List Int) := [a.take j, (b.drop j).take g, a.drop j]
def parts5 (a b : List Int) (i j k g : Nat) : List (List Int) := [a.take i, (b.drop i).take k, (a.drop i).take (j - i), (b.drop (j + k)).take (g - k), a.drop j]
theorem tried3 {a b : List Int} {j g : Nat} (ha : a.length ≤ 40) (hj : j < a.length) (hg : 1 ≤ g ∧ g ≤ 8) (hb : b.length = a.length + g) : Tried a b (parts3 a b j g) := by
  refine ⟨.inl rfl, fun x hx => ?_, fun x hx => ?_, ?_⟩
  · simp only [parts3, List.mem_cons, List.not_mem_nil, or_false] at hx
    rcases hx with rfl | rfl | rfl
    · exact ⟨by rw [List.length_take]; omega, fun z hz => .inl (List.mem_of_mem_take hz)⟩
    · exact ⟨by rw [List.length_take]; omega, fun z hz => .inr (List.mem_of_mem_drop (List.mem_of_mem_take hz))⟩
    · exact ⟨by rw [List.length_drop]; omega, fun z hz => .inl (List.mem_of_mem_drop hz)⟩
  · simp only [parts3, ods, List.mem_cons, List.not_mem_nil, or_false] at hx
    subst hx
    rw [List.length_take, List.length_drop]
    omega
  · show 1 ≤ (a.drop j).length
    rw [List.length_drop]
    omega
theorem tried5 {a b : List Int} {i j k g : Nat} (ha : a.length ≤ 40) (hij : i ≤ j) (hj : j < a.length) (hk : 1 ≤ k ∧ k < g) (hg : g ≤ 8) (hb : b.length = a.length + g) : Tried a b (parts5 a b i j k g) := by
  refine ⟨.inr rfl, fun x hx => ?_, fun x hx => ?_, ?_⟩
  · simp only [parts5, List.mem_cons, List.not_mem_nil, or_false] at hx
    rcases hx with rfl | rfl | rfl | rfl | rfl
    · exact ⟨by rw [List.length_take]; omega, fun z hz => .inl (List.mem_of_mem_take hz)⟩
    · exact ⟨by rw [List.length_take]; omega, fun z hz => .inr (List.mem_of_mem_drop (List.mem_of_mem_take hz))⟩
    · exact ⟨by rw [List.length_take]; omega, fun z hz => .inl (List.mem_of_mem_drop (List.mem_of_mem_take hz))⟩
    · exact ⟨by rw [List.length_take]; omega, fun z hz => .inr (List.mem_of_mem_drop (List.mem_of_mem_take hz))⟩
    · exact ⟨by rw [List.length_drop]; omega, fun z hz => .inl (List.mem_of_mem_drop hz)⟩
  · simp only [parts5, ods, List.mem_cons, List.not_mem_nil, or_false] at hx
    rcases hx with rfl | rfl
    · rw [List.length_take, List.length_drop]
      omega
    · rw [List.length_take, List.length_drop]
      omega
  · show 1 ≤ (a.drop j).length
    rw [List.length_drop]
    omega
/-- A part of a slice. -/
theorem Ints.part {w : World} {b off c : Nat} {zs : List Int} (h : Ints w (.slice (some ⟨b, off, none⟩) zs.length c) zs) (i k : Nat) (hk : i + k ≤ zs.length) : Ints w (.slice (some ⟨b, off + i, none⟩) k (c - i)) ((zs.drop i).take k) := by
  have h1 := h.drop i (by omega)
  have e : (zs.drop i).length = zs.length - i := by rw [List.length_drop]
  rw [← e] at h1
  exact h1.take k (by rw [e]; omega)
end Go.Proofs.YtojiammendjpkaaGreat
end
section
set_option linter.unusedSimpArgs false
set_option linter.unusedVariables false
namespace Go.Proofs.YtojiammendjpkaaGreat
open Go Go.RowKit Go.Proofs
set_option maxHeartbeats 400000
/-- The value of a record. -/
def recVal (x : RecV) : Value := .agg #[.int .i64 x.n, .int .i64 x.side, .int .i64 x.c.q, x.lv, x.rv]
set_option maxRecDepth 20000 in
theorem lineOf_c (x : RecV) (w : World) (hl : Ints w x.lv x.c.l) (hf : Flat x.lv) (h1 : x.c.l.length ≤ 1000) :
    Calls Tryz.prog 120 #[recVal x] w fun e w' => ∃ u, e = .returned u ∧ OwnInts w.heap.size w' u (x.c.l.reverse ++ [0]) ∧ Ext w w' := by
  obtain ⟨n, side, c, lv, rv⟩ := x
  simp only [recVal] at *
  obtain ⟨i0, hi, hz0, hz1, hz2⟩ := info_parts intInfo
  obtain ⟨Al, cl, rfl, _, _⟩ := id hl.form
  obtain ⟨W, hW⟩ : ∃ W, W = w.alloc (.cells #[.int .i64 n, .int .i64 side, .int .i64 c.q, .slice Al c.l.length cl, rv] 105) := ⟨_, rfl⟩
  have hX : Ext w W := by rw [hW]; exact Ext.alloc _ _
  obtain ⟨b, hb⟩ : ∃ g, w.heap.size = g := ⟨_, rfl⟩
  have bR : Blk W b 105 #[.int .i64 n, .int .i64 side, .int .i64 c.q, .slice Al c.l.length cl, rv] := by rw [hW]; exact Blk.new _ _ _ _ hb
  have r3 := bR.cell 3
  simp only [List.getElem?_toArray, List.getElem?_cons_zero, List.getElem?_cons_succ] at r3
  have RC := reversed_c _ _ _ (hl.ext hX) hf (by omega)
  have HX := Lib.hid hX
  have HL := Lib.hid h1
  clear bR hX hl hf h1
  go_enter Tryz.func120, Tryz.ntmps120
  go_wp2_with fail
  try rw [← hW]
  try rw [hb]
  clear hW hb
  refine RC.mono ?_
  rintro e w2 ⟨u, rfl, ho, hx2⟩
  obtain ⟨ls, hls⟩ : ∃ ls, c.l.reverse = ls := ⟨_, rfl⟩
  have hlr : ls.length ≤ 1000 := by rw [← hls, List.length_reverse]; exact HL.out
  rw [hls] at ho
  have HLS := Lib.hid hls
  clear hls
  obtain ⟨At, ct, rfl, _, _⟩ := id ho.ints.form
  have ho' := ownsRow_ext (ownsRow_base ho HX.out.size) (Ext.alloc w2 (.cells #[.int .i64 0] 2))
  have hgs := HX.out.size
  have hgs2 := hx2.size
  have hL := HL.out
  clear RC ho
  go_wp2_with (at_builtin; refine wpList_append_own_at _ rfl _ _ 27 rfl w.heap.size 2 i0 (.int .i64 0) 1 8 Tryz.underlying27 hi hz0 hz1 hz2 rfl (by decide) _ _ _ rfl ho' ⟨w2.heap.size, 0, none⟩ 1 1 [.int .i64 0] rfl rfl (cell_one_new _ _ _) ?c2 ?c3 ?c4 ?c5 ?_)
  case c2 => intro u hu; simp at hu; subst hu; rfl
  case c3 => unfold maxLen; omega
  case c4 => omega
  case c5 => simp; omega
  intro v' w5 hown' hgrow _ _
  have HO : Hid (OwnInts w.heap.size w5 v' (ls ++ [0])) := by
    unfold Hid OwnInts
    rw [ivs_append, List.length_append]
    exact hown'
  have HX5 : Hid (Ext w w5) := Lib.hid (((HX.out.trans hx2).trans (Ext.alloc w2 _)).grown hgrow (fun b hb => by have := (ho'.lt b hb).1; omega))
  clear hown' hgrow ho'
  go_wp2
  go_ret
  exact ⟨_, rfl, by rw [HLS.out]; exact HO.out, HX5.out⟩
end Go.Proofs.YtojiammendjpkaaGreat
end
