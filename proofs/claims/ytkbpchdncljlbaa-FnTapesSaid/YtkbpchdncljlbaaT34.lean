/- The walk of the law on the copier, the machine of palindromes and the exchange of tapes.
The copier makes a second tape with the same word, the other machine halts in its last state exactly for palindromes, and tapes may be exchanged: the law answers true for all arguments and leaves them as they are. No condition. -/
import Derived.Test.YtkbpchdncljlbaaT32
import Derived.Test.YtkbpchdncljlbaaT33
import Derived.Test.YtkbpchdncljlbaaT03
import Derived.Test.YtkbpchdncljlbaaT04
import Derived.Test.YtkbpchdncljlbaaRows
section
set_option linter.unusedVariables false
set_option linter.unusedSimpArgs false
namespace Go.Proofs.Ytkbpchdncljlbaa
open Go Go.RowKit Go.Proofs Go.Maps
set_option maxHeartbeats 400000
def f12 (z : Int) : Int := 1 + z % 2
theorem f12_or (z : Int) : f12 z = 1 ∨ f12 z = 2 := by unfold f12; omega
theorem wd_or {xs : List Int} : ∀ z ∈ xs.map f12, z = 1 ∨ z = 2 := fun z hz => by
  obtain ⟨y, _, rfl⟩ := List.mem_map.1 hz
  exact f12_or y
theorem word_ok {m : MultiD} {w : List Int} (h : ∀ z ∈ w, z = 1 ∨ z = 2) (hl : w.length ≤ 9) (h3 : m.sy = 3) : wordOk m w = true := by
  simp only [wordOk, Bool.and_eq_true, decide_eq_true_eq, List.all_eq_true]
  exact ⟨by omega, fun z hz => inB_iff.2 (by rcases h z hz with e | e <;> omega)⟩
/-- What the law has of its word. -/
structure WSt (w0 : World) (xs : List Int) (k : Nat) (u v : Value) (w : World) : Prop where
  own : OwnInts w0.heap.size w u ((xs.take k).map f12)
  rev : OwnInts w0.heap.size w v ((xs.take k).map f12).reverse
  nn : v ≠ .slice none 0 0
  ap : ∀ q, v.ownBlock = some q → u.ownBlock ≠ some q
  ext : Ext w0 w
set_option maxRecDepth 40000 in
set_option maxHeartbeats 16000000 in
theorem law19_c (v : Value) (bs : List Int) (w : World) (h : Bytes w v bs) :
    Calls Try.prog 3 #[v] w fun e w' => e = .returned (.bool true) ∧ Ext w w' := by
  obtain ⟨i0, hi0, hz0, hz1, hz2⟩ := info_parts intInfoZ
  obtain ⟨A, c, rfl, _, _, _⟩ := h.1.form
  go_enter Try.func3, Try.ntmps3
  go_wp2_with fail
  refine (b10Long_c _ bs w h).mono ?_
  rintro e w' ⟨rfl, rfl⟩
  by_cases l1 : 1048576 < bs.length
  · rw [decide_eq_true l1]
    go_wp2
    go_ret
    exact ⟨rfl, Ext.refl _⟩
  rw [decide_eq_false l1]
  go_wp2_with fail
  refine (B10Word_c _ bs w h).mono ?_
  rintro e w1 ⟨⟨u, xs, a, rfl, ho, h9, hall⟩, hx1⟩
  have hxi := ho.ints
  obtain ⟨Ax, cx, rfl, _, _⟩ := id hxi.form
  obtain ⟨W, hW⟩ : ∃ W, W = (w1.alloc (.cells #[] 2)).alloc (.cells #[] 2) := ⟨_, rfl⟩
  obtain ⟨g1, hg1⟩ : ∃ g, w1.heap.size = g := ⟨_, rfl⟩
  have hXW : Ext w1 W := by rw [hW]; exact (Ext.alloc _ _).trans (Ext.alloc _ _)
  have bA : Blk W g1 2 #[] := by rw [hW]; exact (Blk.new _ _ _ _ hg1).alloc _
  have hge : w1.heap.size ≤ g1 := by omega
  have bB : Blk W (g1 + 1) 2 #[] := by rw [hW]; exact Blk.new _ _ _ _ (by simp [hg1])
  have st0 : WSt w1 xs 0 (.slice (some ⟨g1, 0, none⟩) 0 0) (.slice (some ⟨g1 + 1, 0, none⟩) 0 0) W :=
    ⟨ownsRow_blk 1 0 bA hge rfl (by omega), ownsRow_blk 1 0 bB (by omega) rfl (by omega), fun e => (by cases e), fun q hq hq2 => (by simp [Value.ownBlock] at hq hq2; omega), hXW⟩
  have HX1 := Lib.hid hx1
  have HALL := Lib.hid hall
  clear ho hXW bA bB h hall hx1
  go_wp2_with fail
  try rw [← hW]
  try rw [hg1]
  clear hW
  go_loopw [5, 6, 7] (fun u v i wr => ∃ k : Nat, k ≤ xs.length ∧ i = .int .i64 (k : Int) ∧ WSt w1 xs k u v wr) (fun _ _ i _ => xs.length - (intOf i).toNat)
  case atStart => exact ⟨0, Nat.zero_le _, rfl, st0⟩
  case round =>
    clear st0
    obtain ⟨k, hk, rfl, st⟩ := hrel
    by_cases hlt : k < xs.length
    · have hlk : ((xs.take k).map f12).length = k := by simp; omega
      have hlr : ((xs.take k).map f12).reverse.length = k := by simp; omega
      obtain ⟨ws, hws⟩ : ∃ ws, (xs.take k).map f12 = ws := ⟨_, rfl⟩
      have o1 := st.own
      have o2 := st.rev
      have hnn := st.nn
      have hap := st.ap
      have hex := st.ext
      rw [hws] at o1 o2 hlk hlr
      obtain ⟨Au, cu, rfl, _, _⟩ := o1.ints.form
      have ho1 := o1
      unfold OwnInts at ho1
      rw [hlk] at ho1 hap
      obtain ⟨rs, hrs⟩ : ∃ rs, ws.reverse = rs := ⟨_, rfl⟩
      rw [hrs] at o2 hlr
      obtain ⟨tb, tc, hu6, htb, htl⟩ : ∃ tb tc, u6 = Value.slice (some ⟨tb, 0, none⟩) k tc ∧ w1.heap.size ≤ tb ∧ tb < wr.heap.size := by
        rcases o2.2 with ⟨e, _⟩ | ⟨g, cap, cur, e, hb, hh, _⟩
        · exact absurd e hnn
        · exact ⟨g, cap, by rw [e, hlr], hb, (Array.getElem?_eq_some_iff.1 hh).1⟩
      subst hu6
      obtain ⟨b, off, rfl, hc⟩ := hxi.at hlt
      have x0 := hex.cell (hc k hlt)
      have x00 := hc k hlt
      have HSN : Hid ((xs.take (k + 1)).map f12 = ws ++ [f12 xs[k]]) := by
        unfold Hid
        rw [List.take_succ_eq_append_getElem hlt, List.map_append, hws]
        rfl
      have hz := HALL.out _ (List.getElem_mem hlt)
      obtain ⟨z, hzk⟩ : ∃ z, xs[k] = z := ⟨_, rfl⟩
      rw [hzk] at x0 x00 hz HSN
      have hr := fun W => rem_run (P := Try.prog) 2 z 2 hz.1 (by omega) W
      have hw : IntKind.i64.wrap (1 + z % 2) = 1 + z % 2 := IntWalk.i64_in _ (by omega)
      have ho' := ho1.alloc (.cells #[.int .i64 (1 + z % 2)] 2)
      have hxa := hex.trans (Ext.alloc wr (.cells #[.int .i64 (1 + z % 2)] 2))
      have hs := hex.size
      rw [hlk]
      clear hc hzk o1 st
      go_wp2_with (at_builtin; refine wpList_append_own_at _ rfl _ _ 24 rfl w1.heap.size 2 i0 (.int .i64 0) 1 8 Try.underlying24 hi0 hz0 hz1 hz2 rfl (by decide) _ _ _ rfl ho' ⟨wr.heap.size, 0, none⟩ 1 1 [.int .i64 (1 + z % 2)] rfl rfl (cell_one_new _ _ _) ?c2 ?c3 ?c4 ?c5 ?_)
      case c2 => intro u hu; simp at hu; subst hu; rfl
      case c3 => unfold maxLen; omega
      case c4 => omega
      case c5 => simp; omega
      intro v5 w4 hown4 hg4 _ hloc
      try rw [← hg1] at hown4
      obtain ⟨A', c', rfl, _, _, _⟩ := (ownsRow_row hown4).form
      have hx4 : Ext w1 w4 := hxa.grown hg4 (fun q hq => (ho1.lt q hq).1)
      have x4 := hx4.cell x00
      have htn : (Value.slice Au k cu).ownBlock ≠ some tb := hap tb rfl
      have o2' : OwnInts w1.heap.size w4 (.slice (some ⟨tb, 0, none⟩) k tc) rs := World.ownsRow.kept (OwnInts.ext o2 (Ext.alloc wr (.cells #[.int .i64 (1 + z % 2)] 2))) hg4 (.inr (fun e => htn e.symm))
      have hs4 : wr.heap.size < w4.heap.size := by have := hg4.size; simp at this; omega
      have hne4 : (Value.slice A' (k + 1) c').ownBlock ≠ some tb := fun e => by
        rcases hloc with e2 | e2
        · rw [e2] at e; exact htn e
        · rw [e2] at e; simp at e; omega
      have ou4 : OwnInts w1.heap.size w4 (.slice A' (k + 1) c') (ws ++ [1 + z % 2]) := by
        unfold OwnInts
        have : (ws ++ [1 + z % 2]).length = k + 1 := by simp [hlk]
        rw [this]
        simpa [ivs_append, ivs] using hown4
      obtain ⟨X5, hX5⟩ : ∃ X5, X5 = w4.alloc (.cells #[.int .i64 (1 + z % 2)] 2) := ⟨_, rfl⟩
      have e45 : Ext w4 X5 := by rw [hX5]; exact Ext.alloc _ _
      have b5 : Blk X5 w4.heap.size 2 #[.int .i64 (1 + z % 2)] := by rw [hX5]; exact Blk.new _ _ _ _ rfl
      have hrow5 : X5.ownsRow w1.heap.size 2 1 (.slice (some ⟨w4.heap.size, 0, none⟩) 1 1) 1 [.int .i64 (1 + z % 2)] := ownsRow_blk 1 1 b5 hx4.size rfl (by omega)
      have hnews5 : ∀ j u, (ivs rs)[j]? = some u → X5.cell? ((⟨tb, 0, none⟩ : Addr).add j) = some u := by
        have hi := (OwnInts.ext o2' e45).ints
        rw [← hlr] at hi
        intro j u hj
        obtain ⟨hl, _⟩ := List.getElem?_eq_some_iff.1 hj
        rw [ivs_length] at hl
        obtain ⟨b', off', e', hc⟩ := hi.at hl
        cases e'
        have hadd : (⟨tb, 0, none⟩ : Addr).add j = ⟨tb, 0 + j, none⟩ := by unfold Addr.add; split <;> simp_all
        rw [hadd]
        exact ints_cells hc j u hj
      have hs5 : w1.heap.size ≤ X5.heap.size := (hx4.trans e45).size
      have hone5 : ∀ u ∈ ivs rs, u.oneCell' = true := ivs_one rs
      have hlv5 : (ivs rs).length = k * 1 := by rw [ivs_length, hlr, Nat.mul_one]
      clear hown4 hg4 hloc o2 hap
      go_wp2_with (at_builtin; rw [← hX5]; refine wpList_append_own_at _ rfl _ _ 24 rfl w1.heap.size 2 i0 (.int .i64 0) 1 8 Try.underlying24 hi0 hz0 hz1 hz2 rfl (by decide) _ _ _ rfl hrow5 ⟨tb, 0, none⟩ k tc (ivs rs) rfl hlv5 hnews5 hone5 ?c6 ?c7 hs5 ?_)
      case c6 => unfold maxLen; omega
      case c7 => omega
      intro v6 w6 hown6 hg6 hnil6 hloc6
      try rw [← hg1] at hown6
      have hg6' : X5.grownBy w6 (some w4.heap.size) := by rw [hX5]; exact hg6
      have hX5s : X5.heap.size = w4.heap.size + 1 := by rw [hX5]; simp
      have hne6 : ∀ q, v6.ownBlock = some q → (Value.slice A' (k + 1) c').ownBlock ≠ some q := fun q hq e => by
        have hlt4 := (ou4.lt q e).2
        rcases hloc6 with e2 | e2
        · rw [e2] at hq; simp [Value.ownBlock] at hq; omega
        · rw [e2] at hq; injection hq with hq; omega
      have HST : Hid (WSt w1 xs (k + 1) (.slice A' (k + 1) c') v6 w6) := by
        refine ⟨?_, ?_, ?_, hne6, ?_⟩
        · rw [HSN.out]
          exact World.ownsRow.kept (OwnInts.ext ou4 e45) hg6' (.inr (fun e => by
            have := (ou4.lt _ e).2
            omega))
        · rw [HSN.out, List.reverse_append, hrs]
          unfold OwnInts
          have e1 : ([f12 z].reverse ++ rs).length = 1 + k := by simp [hlr]; omega
          rw [e1]
          simpa [ivs, f12] using hown6
        · first | exact hnil6 | exact fun e => by have := (hnil6.1 e).1; cases this
        · exact (hx4.trans e45).grown hg6' (fun q hq => by injection hq with hq; have := hx4.size; omega)
      obtain ⟨A6, c6, hv6, _, _, _⟩ := (ownsRow_row hown6).form
      subst hv6
      clear hown6 hg6 hg6' hnil6 hloc6 hne6 hX5 b5 hrow5 hnews5 ou4 o2' hx4 e45 hex hxa
      go_wp2_with fail
      go_roundw
      case rel => exact ⟨k + 1, by omega, by go_num, HST.out⟩
      case measure => simp [intOf]; omega
    · obtain rfl : k = xs.length := by omega
      have o1 := st.own
      have o2 := st.rev
      have hex := st.ext
      rw [List.take_length] at o1 o2
      have hor : ∀ z ∈ xs.map f12, z = 1 ∨ z = 2 := wd_or
      have hlw : (xs.map f12).length = xs.length := by simp
      obtain ⟨wd, hwd⟩ : ∃ wd, xs.map f12 = wd := ⟨_, rfl⟩
      rw [hwd] at o1 o2 hor hlw
      have h9w : wd.length ≤ 9 := by omega
      have HCL := Lib.hid (copy_law hor h9w)
      have HPL := Lib.hid (pal_law hor h9w)
      obtain ⟨rv, hrv⟩ : ∃ rv, wd.reverse = rv := ⟨_, rfl⟩
      rw [hrv] at o2 HPL
      have ok1 : ∀ m : MultiD, m.sy = 3 → wordOk m wd = true := fun m h3 => word_ok hor h9w h3
      have ok0 : ∀ m : MultiD, wordOk m [] = true := fun m => rfl
      have OK1 := Lib.hid ok1
      have OK0 := Lib.hid ok0
      have hiU := o1.ints
      have hiV := o2.ints
      have fU := o1.flat
      have HX : Hid (Ext w wr) := Lib.hid (HX1.out.trans hex)
      obtain ⟨Au, cu, rfl, _, _⟩ := id hiU.form
      obtain ⟨Av, cv, rfl, _, _⟩ := id hiV.form
      have e3 : ((3 : Nat) : Int) = 3 := rfl
      have e100 : ((100 : Nat) : Int) = 100 := rfl
      have e200 : ((200 : Nat) : Int) = 200 := rfl
      have CM := CopyMulti_c 3 wr (by omega) (by omega)
      rw [e3] at CM
      have H9 := Lib.hid h9w
      clear st o1 o2 hex hor hlw hwd hrv ok1 ok0 hxi HALL h9 h9w hk hlt hg1 hge HX1
      go_wp2_with fail
      refine CM.mono ?_
      rintro e wA ⟨vm, rfl, hR0, hxA⟩
      have hR : MRules wA vm copyRs3 := by rw [← copier_rules]; exact hR0
      obtain ⟨Am, cm, rfl, _, _⟩ := id hR.form
      have hMA : Mult wA (.agg #[.int .i64 2, .int .i64 3, .int .i64 1, .slice Am copyRs3.length cm]) copier3 := ⟨_, rfl, hR⟩
      generalize copyRs3.length = lm at *
      obtain ⟨gm, hgm⟩ : ∃ g, wA.heap.size = g := ⟨_, rfl⟩
      obtain ⟨V3, hV3⟩ : ∃ V3, V3 = ((wA.alloc (.cells #[.int .i64 2, .int .i64 3, .int .i64 1, .slice Am lm cm] 29)).alloc (.cells #[] 2)).alloc (.cells #[.slice Au wd.length cu, .slice (some ⟨gm + 1, 0, none⟩) 0 0] 24) := ⟨_, rfl⟩
      have hx3 : Ext wA V3 := by rw [hV3]; exact ((Ext.alloc _ _).trans (Ext.alloc _ _)).trans (Ext.alloc _ _)
      have bM3 : Blk V3 gm 29 #[.int .i64 2, .int .i64 3, .int .i64 1, .slice Am lm cm] := by rw [hV3]; exact ((Blk.new _ _ _ _ hgm).alloc _).alloc _
      have bS3 : Blk V3 (gm + 1 + 1) 24 #[.slice Au wd.length cu, .slice (some ⟨gm + 1, 0, none⟩) 0 0] := by rw [hV3]; exact Blk.new _ _ _ _ (by simp [hgm])
      have iE : Ints V3 (.slice (some ⟨gm + 1, 0, none⟩) 0 0) [] := ⟨_, 0, rfl, by simp, by omega, by simp, fun h => by simp at h⟩
      have hE3 : Ext wr V3 := hxA.trans hx3
      have S1 := start2_c copier3 _ wd [] Au (some ⟨gm + 1, 0, none⟩) cu 0 (gm + 1 + 1) V3 (hMA.ext hx3) copier3_ok rfl (OK1.out _ rfl) (OK0.out _) bS3 (hiU.ext hE3) iE fU (.inr ⟨_, _, _, _, rfl⟩)
      clear hR0 CM hR
      go_wp2_with fail
      try rw [← hV3]
      try rw [hgm]
      clear hV3
      refine S1.mono ?_
      rintro e wB ⟨gc, cap, rfl, hc1, hc2, hT1, hxB⟩
      obtain ⟨c0, hc0⟩ : ∃ c0, startM [wd, []] = c0 := ⟨_, rfl⟩
      rw [hc0] at hT1 HCL HPL
      have HC0 := Lib.hid hc0
      clear hc0
      obtain ⟨V4, hV4⟩ : ∃ V4, V4 = wB.alloc (.cells #[.int .i64 0, .slice (some ⟨gc, 0, none⟩) 2 cap] 34) := ⟨_, rfl⟩
      have hx4 : Ext wB V4 := by rw [hV4]; exact Ext.alloc _ _
      have bMB := bM3.ext hxB
      have m0 := bMB.cell 0
      have m1 := bMB.cell 1
      have m2 := bMB.cell 2
      have m3 := bMB.cell 3
      simp only [List.getElem?_toArray, List.getElem?_cons_zero, List.getElem?_cons_succ] at m0 m1 m2 m3
      have hlt1 := bMB.lt
      have hE4 := hE3.trans (hxB.trans hx4)
      have RM1 := run2_c copier3 _ wd [] c0 gc cap 100 V4 HC0.out (hMA.ext (hx3.trans (hxB.trans hx4))) copier3_ok rfl (OK1.out _ rfl) (OK0.out _) (hT1.ext hx4) hc1 hc2 (by omega) (by omega) HCL.out.2
      rw [e100] at RM1
      clear S1 hT1 hMA hE3 bM3 bS3 iE hx3 hxA hxB hx4
      go_wp2_with fail
      try rw [← hV4]
      clear hV4 m0 m1 m2 m3 hlt1
      refine RM1.mono ?_
      rintro e wC ⟨i, gt, cap', t0, t1, hEE, rfl, hd1, hd2, hts, _, hok1, hT2, hxC⟩
      obtain ⟨hii, hhh, hwt⟩ := HCL.out.1 i hEE
      have hhh' : (lookM copier3.rules (cfgM copier3.rules c0 i)).isNone = true := hhh
      have hwt' : wordT t1 = wd := by
        have e : (cfgM copyRs3 c0 i).tapes = [t0, t1] := hts
        rw [e] at hwt
        exact hwt
      subst hii
      rw [hhh']
      obtain ⟨q1, hq1⟩ : ∃ q, (cfgM copier3.rules c0 wd.length).q = q := ⟨_, rfl⟩
      rw [hq1]
      obtain ⟨vl, vr, k0, k1, il, ir, fl, fr, _, _⟩ := hT2 1 (by simp)
      simp only [List.getElem_cons_succ, List.getElem_cons_zero] at il ir
      obtain ⟨Al, kl, rfl, _, _⟩ := id il.form
      obtain ⟨Ar, kr, rfl, _, _⟩ := id ir.form
      have hlt2 := World.block_lt_of_cell? wC _ k0
      simp at k0 k1 hlt2
      obtain ⟨V5, hV5⟩ : ∃ V5, V5 = wC.alloc (.cells #[.int .i64 q1, .slice (some ⟨gt, 0, none⟩) 2 cap'] 34) := ⟨_, rfl⟩
      have hx5 : Ext wC V5 := by rw [hV5]; exact Ext.alloc _ _
      have TW := TapeWord_c (.slice Al t1.l.length kl) (.slice Ar t1.r.length kr) t1 V5 (il.ext hx5) (ir.ext hx5) fl fr (readT_ok hok1 (by decide))
      rw [hwt'] at TW
      have hE5 := hE4.trans (hxC.trans hx5)
      generalize t1.l.length = n1 at *
      generalize t1.r.length = n2 at *
      clear RM1 hEE hts hok1 hT2 hxC hhh hhh' hwt hwt' hq1 il ir fl fr hE4 hx5 HCL
      go_wp2_with fail
      try rw [← hV5]
      clear hV5 k0 k1 hlt2
      refine TW.mono ?_
      rintro e wD ⟨vw, rfl, iw, hxD⟩
      obtain ⟨Aw, kw, rfl, _, _⟩ := id iw.form
      have BN := b10Nums_c wD _ _ wd wd iw (hiU.ext (hE5.trans hxD))
      rw [lEq_true rfl] at BN
      clear TW
      go_wp2_with fail
      refine BN.mono ?_
      rintro e wE ⟨rfl, hxE⟩
      have hE6 := hE5.trans (hxD.trans hxE)
      have PM := PalindromeMulti_c 3 wE (by omega) (by omega)
      rw [e3] at PM
      clear BN iw hE5 hxD hxE
      go_wp2_with fail
      refine PM.mono ?_
      rintro e wF ⟨vp, rs', rfl, hp, hs, hRp, hxF⟩
      obtain rfl := pal_rules hp hs
      obtain ⟨Ap, cp, rfl, _, _⟩ := id hRp.form
      have hMP : Mult wF (.agg #[.int .i64 2, .int .i64 3, .int .i64 4, .slice Ap palRs3.length cp]) pal3 := ⟨_, rfl, hRp⟩
      generalize palRs3.length = lp at *
      obtain ⟨gp, hgp⟩ : ∃ g, wF.heap.size = g := ⟨_, rfl⟩
      obtain ⟨V7, hV7⟩ : ∃ V7, V7 = ((wF.alloc (.cells #[.int .i64 2, .int .i64 3, .int .i64 4, .slice Ap lp cp] 29)).alloc (.cells #[] 2)).alloc (.cells #[.slice Au wd.length cu, .slice (some ⟨gp + 1, 0, none⟩) 0 0] 24) := ⟨_, rfl⟩
      have hx7 : Ext wF V7 := by rw [hV7]; exact ((Ext.alloc _ _).trans (Ext.alloc _ _)).trans (Ext.alloc _ _)
      have bP7 : Blk V7 gp 29 #[.int .i64 2, .int .i64 3, .int .i64 4, .slice Ap lp cp] := by rw [hV7]; exact ((Blk.new _ _ _ _ hgp).alloc _).alloc _
      have bS7 : Blk V7 (gp + 1 + 1) 24 #[.slice Au wd.length cu, .slice (some ⟨gp + 1, 0, none⟩) 0 0] := by rw [hV7]; exact Blk.new _ _ _ _ (by simp [hgp])
      have iE7 : Ints V7 (.slice (some ⟨gp + 1, 0, none⟩) 0 0) [] := ⟨_, 0, rfl, by simp, by omega, by simp, fun h => by simp at h⟩
      have hE7 : Ext wr V7 := hE6.trans (hxF.trans hx7)
      have S2 := start2_c pal3 _ wd [] Au (some ⟨gp + 1, 0, none⟩) cu 0 (gp + 1 + 1) V7 (hMP.ext hx7) pal3_ok rfl (OK1.out _ rfl) (OK0.out _) bS7 (hiU.ext hE7) iE7 fU (.inr ⟨_, _, _, _, rfl⟩)
      clear PM hRp hp hs
      go_wp2_with fail
      try rw [← hV7]
      try rw [hgp]
      clear hV7
      refine S2.mono ?_
      rintro e wG ⟨gd, capd, rfl, hc3, hc4, hT3, hxG⟩
      rw [HC0.out] at hT3
      obtain ⟨V8, hV8⟩ : ∃ V8, V8 = wG.alloc (.cells #[.int .i64 0, .slice (some ⟨gd, 0, none⟩) 2 capd] 34) := ⟨_, rfl⟩
      have hx8 : Ext wG V8 := by rw [hV8]; exact Ext.alloc _ _
      have bPG := bP7.ext hxG
      have m0 := bPG.cell 0
      have m1 := bPG.cell 1
      have m2 := bPG.cell 2
      have m3 := bPG.cell 3
      simp only [List.getElem?_toArray, List.getElem?_cons_zero, List.getElem?_cons_succ] at m0 m1 m2 m3
      have hlt3 := bPG.lt
      have hE8 := hE7.trans (hxG.trans hx8)
      have hMP8 := hMP.ext (hx7.trans (hxG.trans hx8))
      have RM2 := run2_c pal3 _ wd [] c0 gd capd 200 V8 HC0.out hMP8 pal3_ok rfl (OK1.out _ rfl) (OK0.out _) (hT3.ext hx8) hc3 hc4 (by omega) (by omega) HPL.out.2.1
      rw [e200] at RM2
      have bP8 := bPG.ext hx8
      clear S2 hT3 hE7 bP7 bS7 iE7 hxG hx8 hMP hx7 hxF hE6
      go_wp2_with fail
      try rw [← hV8]
      clear hV8 m0 m1 m2 m3 hlt3
      refine RM2.mono ?_
      rintro e wH ⟨i2, gt2, cap2, s0, s1, hEE, rfl, hd3, hd4, _, _, _, _, hxH⟩
      obtain ⟨hh2, hdq, hothers⟩ := HPL.out.1 i2 hEE
      have hh2' : (lookM pal3.rules (cfgM pal3.rules c0 i2)).isNone = true := hh2
      rw [hh2']
      obtain ⟨q2, hq2⟩ : ∃ q, (cfgM pal3.rules c0 i2).q = q := ⟨_, rfl⟩
      have hq2' : (cfgM palRs3 c0 i2).q = q2 := hq2
      rw [hq2'] at hdq hothers
      rw [hq2]
      have HOT := Lib.hid hothers
      obtain ⟨V9, hV9⟩ : ∃ V9, V9 = wH.alloc (.cells #[.int .i64 q2, .slice (some ⟨gt2, 0, none⟩) 2 cap2] 34) := ⟨_, rfl⟩
      obtain ⟨gq, hgq⟩ : ∃ g, wH.heap.size = g := ⟨_, rfl⟩
      have hx9 : Ext wH V9 := by rw [hV9]; exact Ext.alloc _ _
      have bQ9 : Blk V9 gq 34 #[.int .i64 q2, .slice (some ⟨gt2, 0, none⟩) 2 cap2] := by rw [hV9]; exact Blk.new _ _ _ _ hgq
      have hE9 := hE8.trans (hxH.trans hx9)
      have bP9 := bP8.ext (hxH.trans hx9)
      have hMP9 := hMP8.ext (hxH.trans hx9)
      have k0 := bQ9.cell 0
      simp only [List.getElem?_toArray, List.getElem?_cons_zero, List.getElem?_cons_succ] at k0
      have kk := cellR k0
      obtain ⟨bq, hbq⟩ : ∃ b, lEq wd rv = b := ⟨_, rfl⟩
      have hb3 : (q2 == 3) = bq := by
        rw [← hbq]
        unfold lEq
        rw [← hdq]
        cases hd : decide (q2 = 3) with
        | true => simpa using hd
        | false => simpa using hd
      have BN2 := fun d os => b10Nums_c (Sort.grow (redrawn V9 d) os) _ _ wd rv ((hiU.ext hE9).ext (below_regrown _ _ _)) ((hiV.ext hE9).ext (below_regrown _ _ _))
      rw [hbq] at BN2
      have hbb : (bq != bq) = false := by simp
      clear RM2 hEE hh2 hh2' hdq hothers hq2 hq2' hbq hE8 hxH hx9 bP8 hMP8
      have HF3 := Lib.hid HPL.out.2.2
      clear HPL
      go_wp2_with fail
      try rw [← hV9]
      try rw [hgq]
      clear hV9
      refine wp_region_ext (by kernel_rfl) (by kernel_rfl) ?_
      repeat (go_big_quiet_step ((go_at_call 11; exact Calls.extR (BN2 _ _))))
      refine wpQuiet_nil ?_
      intro w10 hx10
      have bQ10 := bQ9.ext hx10
      have bP10 := bP9.ext hx10
      have hMP10 := hMP9.ext hx10
      have hE10 := hE9.trans hx10
      have m0 := bP10.cell 0
      have m1 := bP10.cell 1
      have m2 := bP10.cell 2
      have m3 := bP10.cell 3
      simp only [List.getElem?_toArray, List.getElem?_cons_zero, List.getElem?_cons_succ] at m0 m1 m2 m3
      have hlt4 := bP10.lt
      obtain ⟨V10, hV10⟩ : ∃ V10, V10 = w10.alloc (.cells #[.int .i64 1, .int .i64 0] 2) := ⟨_, rfl⟩
      obtain ⟨gk, hgk⟩ : ∃ g, w10.heap.size = g := ⟨_, rfl⟩
      have hxk : Ext w10 V10 := by rw [hV10]; exact Ext.alloc _ _
      have bK : Blk V10 gk 2 #[.int .i64 1, .int .i64 0] := by rw [hV10]; exact Blk.new _ _ _ _ hgk
      have hlt5 : gp < gk := by rw [← hgk]; exact hlt4
      have PT := PermuteTapes_c pal3 _ _ [1, 0] V10 (hMP10.ext hxk) pal3_ok (own2 (base := 0) bK (Nat.zero_le _)).ints ord10 (by decide) (by decide) (by decide) (by decide)
      clear k0 kk BN2 hb3 hbb bQ9 bP9 hMP9 hE9 hx10 hMP10
      go_wp2_with fail
      try rw [← hV10]
      try rw [hgk]
      clear hV10 m0 m1 m2 m3 hlt4
      simp only [show pal3.tp = 2 from rfl, show pal3.sy = 3 from rfl, show pal3.st = 4 from rfl] at PT
      refine PT.mono ?_
      rintro e wI ⟨vq, rs', rfl, hp, hs, hRq, hxI⟩
      obtain rfl := palx_rules hp hs
      obtain ⟨Aq, cq, rfl, _, _⟩ := id hRq.form
      have hMQ : Mult wI (.agg #[.int .i64 2, .int .i64 3, .int .i64 4, .slice Aq palRs3x.length cq]) pal3x := ⟨_, rfl, hRq⟩
      generalize palRs3x.length = lq at *
      obtain ⟨gx, hgx⟩ : ∃ g, wI.heap.size = g := ⟨_, rfl⟩
      obtain ⟨V11, hV11⟩ : ∃ V11, V11 = ((wI.alloc (.cells #[.int .i64 2, .int .i64 3, .int .i64 4, .slice Aq lq cq] 29)).alloc (.cells #[] 2)).alloc (.cells #[.slice (some ⟨gx + 1, 0, none⟩) 0 0, .slice Au wd.length cu] 24) := ⟨_, rfl⟩
      have hx11 : Ext wI V11 := by rw [hV11]; exact ((Ext.alloc _ _).trans (Ext.alloc _ _)).trans (Ext.alloc _ _)
      have bX11 : Blk V11 gx 29 #[.int .i64 2, .int .i64 3, .int .i64 4, .slice Aq lq cq] := by rw [hV11]; exact ((Blk.new _ _ _ _ hgx).alloc _).alloc _
      have bS11 : Blk V11 (gx + 1 + 1) 24 #[.slice (some ⟨gx + 1, 0, none⟩) 0 0, .slice Au wd.length cu] := by rw [hV11]; exact Blk.new _ _ _ _ (by simp [hgx])
      have iE11 : Ints V11 (.slice (some ⟨gx + 1, 0, none⟩) 0 0) [] := ⟨_, 0, rfl, by simp, by omega, by simp, fun h => by simp at h⟩
      have hE11 : Ext wr V11 := hE10.trans (hxk.trans (hxI.trans hx11))
      have bQ11 := bQ10.ext (hxk.trans (hxI.trans hx11))
      have S3 := start2_c pal3x _ [] wd (some ⟨gx + 1, 0, none⟩) Au 0 cu (gx + 1 + 1) V11 (hMQ.ext hx11) pal3x_ok rfl (OK0.out _) (OK1.out _ rfl) bS11 iE11 (hiU.ext hE11) (.inr ⟨_, _, _, _, rfl⟩) fU
      clear PT hRq hp hs bK hxk hE10 bP10 bQ10
      go_wp2_with fail
      try rw [← hV11]
      try rw [hgx]
      clear hV11
      refine S3.mono ?_
      rintro e wJ ⟨ge, cape, rfl, hc5, hc6, hT4, hxJ⟩
      obtain ⟨c1, hc1'⟩ : ∃ c1, startM [[], wd] = c1 := ⟨_, rfl⟩
      rw [hc1'] at hT4 HF3 HOT
      have HC1 := Lib.hid hc1'
      clear hc1'
      obtain ⟨V12, hV12⟩ : ∃ V12, V12 = wJ.alloc (.cells #[.int .i64 0, .slice (some ⟨ge, 0, none⟩) 2 cape] 34) := ⟨_, rfl⟩
      have hx12 : Ext wJ V12 := by rw [hV12]; exact Ext.alloc _ _
      have bXJ := bX11.ext hxJ
      have m0 := bXJ.cell 0
      have m1 := bXJ.cell 1
      have m2 := bXJ.cell 2
      have m3 := bXJ.cell 3
      simp only [List.getElem?_toArray, List.getElem?_cons_zero, List.getElem?_cons_succ] at m0 m1 m2 m3
      have hlt6 := bXJ.lt
      have RM3 := run2_c pal3x _ [] wd c1 ge cape 200 V12 HC1.out (hMQ.ext (hx11.trans (hxJ.trans hx12))) pal3x_ok rfl (OK0.out _) (OK1.out _ rfl) (hT4.ext hx12) hc5 hc6 (by omega) (by omega) HF3.out
      rw [e200] at RM3
      have bQ12 := bQ11.ext (hxJ.trans hx12)
      have hE12 := hE11.trans (hxJ.trans hx12)
      clear S3 hT4 bX11 bS11 iE11 hxJ hx12 hMQ hx11 hE11 bQ11 hxI
      go_wp2_with fail
      try rw [← hV12]
      clear hV12 m0 m1 m2 m3 hlt6
      refine RM3.mono ?_
      rintro e wK ⟨i3, gt3, cap3, r0, r1, hEE, rfl, hd5, hd6, _, _, _, _, hxK⟩
      obtain ⟨hh3, hij, hqq⟩ := HOT.out i3 hEE
      have hh3' : (lookM pal3x.rules (cfgM pal3x.rules c1 i3)).isNone = true := hh3
      have hqq' : (cfgM pal3x.rules c1 i3).q = q2 := hqq
      rw [hh3', hqq']
      subst hij
      have bQK := bQ12.ext hxK
      have k0 := bQK.cell 0
      simp only [List.getElem?_toArray, List.getElem?_cons_zero, List.getElem?_cons_succ] at k0
      have hlt7 := bQK.lt
      have HFIN := Lib.hid (HX.out.trans (hE12.trans hxK))
      clear RM3 hEE hh3 hh3' hqq hqq' bQ12 hE12 hxK
      go_wp2_with fail
      go_ret
      exact ⟨by simp, HFIN.out.trans (Ext.alloc _ _)⟩
end Go.Proofs.Ytkbpchdncljlbaa
end
section
namespace Go.Proofs.Ytkbpchdncljlbaa
open Go Go.RowKit Go.ChangeShapes Go.WideShapes Go.ChangeAt Go.Deep Go.Joins
theorem own19 : ownKnob Try.prog.godebug = none := by kernel_rfl
theorem laidOut19 : laidOutB Try.prog = true := by kernel_rfl
set_option maxRecDepth 100000 in
theorem lifted19 (os : Os) (started : os.Started) (H : Type) (enc : TypeId × Value → H) :
    ReturnsInHanded {} Try.checked os 3 .any (Rows.fnTapesSpec.pre6 enc Try.prog Try.f3 Rows.fnTapesRow.domain false) (Rows.fnTapesSpec.post enc Try.prog Try.f3 false true false false) := by
  refine returnsInHanded_of_change (C := Try.checked) own19 started (by kernel_rfl) Try.func3
    (ChangeSpec.witness6 (enc := enc) (C := Try.checked) false ⟨#[], #[.slice none 0 0], []⟩ 8 (by kernel_rfl) (by kernel_rfl) (by kernel_rfl) (by kernel_rfl)) ?_
  intro W base args ds gs before hval0 hW hcnd _
  have hval : ∀ (j : Nat) t v, Try.f3.params[j]? = some t → args[j]? = some v → Value.okWide Try.prog W .any base t v := hval0
  have hW' := hW
  obtain ⟨p, q, hA0, hV, rfl, hfz, hnd⟩ := hW
  have hA : DataW.TrodAll enc Try.prog W 0 (fun _ => true) true Try.f3.params.toList args.toList ds p := hA0
  rw [Try.params3] at hA hval
  obtain ⟨v0, d0, hargs, rfl, h0⟩ := trodAll_one hA
  obtain ⟨bs, hb0⟩ := open_bytesT (hval 0 _ v0 rfl (by rw [hargs]; rfl)) h0
  subst hargs
  refine (law19_c v0 bs W hb0).mono fun e W' ⟨he, hb⟩ => ?_
  subst he
  exact ⟨_, rfl, law_post laidOut19 (by kernel_rfl) (by kernel_rfl) Try.underlying4 rfl (fun ds hd => by
      match ds, hd.trans (show Try.f3.params.size = 1 by kernel_rfl) with
      | [d0], _ => rfl) hW' hb⟩
theorem tapes_holds : Rows.FnTapesSaid :=
  OpenClaim.holds_of_wide 3 Try.f3 rfl rfl rfl rfl rfl rfl rfl ⟨rfl, rfl, rfl, rfl, rfl⟩ rfl rfl rfl rfl rfl (by kernel_rfl) Try.func3 (by kernel_rfl)
    (of_decide_eq_true (by kernel_rfl)) (by unfold Func.isWrapper; first | (rw [if_pos (by decide +kernel)]; kernel_rfl) | (rw [if_neg (by decide +kernel)]; exact ⟨rfl, rfl⟩))
    (fun os started H enc _ => lifted19 os started H enc)
#print axioms tapes_holds
end Go.Proofs.Ytkbpchdncljlbaa
end
