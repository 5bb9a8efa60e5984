/- Contracts of the program's decoding of a tape that is folded on one half. The tape is short.
Contracts of the program's decoding of a configuration of the machine on one half of the tape. -/
import Derived.Test.YtjcfmlecfjmcgaaGreatDoorS34
import Derived.Test.YtjcfmlecfjmcgaaGreatDoorS18
import Derived.Test.YtjcfmlecfjmcgaaGreatDoorS13
import Derived.Test.YtjcfmlecfjmcgaaGreatDoorS14
import Derived.Test.YtjcfmlecfjmcgaaGreatDoorS17
import Derived.StillTailTactics
import Derived.Deep.RegionLaw
import Derived.Deep.RegionHeld3
import Derived.Deep.AppendLies
import Derived.Maps.AppendAt
import Derived.Test.YtjcfmlecfjmcgaaGreatDoorS19
section
set_option linter.unusedSimpArgs false
set_option linter.unusedVariables false
namespace Go.Proofs.YtjcfmlecfjmcgaaGreatDoor
open Go Go.RowKit Go.Proofs Go.Maps
set_option maxHeartbeats 400000
theorem pl_evenI (k : Nat) (h : ((k : Int) % 2 == 0) = true) : plZ k = -((k : Int) / 2) := by
  simp only [beq_iff_eq] at h
  unfold plZ
  rw [if_pos (by omega)]
theorem pl_oddI (k : Nat) (h : ((k : Int) % 2 == 0) = false) : plZ k = ((k : Int) - 1) / 2 := by
  simp only [beq_eq_false_iff_ne] at h
  unfold plZ
  rw [if_neg (by omega)]
theorem place_c (k : Nat) (w : World) (hk : k ≤ 1000000) :
    Calls Tryz.prog 106 #[.int .i64 k] w fun e w' => e = .returned (.int .i64 (plZ k)) ∧ w = w' := by
  cases hpe : ((k : Int) % 2 == 0) with
  | true =>
    have HP := Lib.hid (pl_evenI k hpe)
    go_enter Tryz.func106, Tryz.ntmps106
    go_wp2
    go_ret
    exact ⟨by rw [HP.out]; rfl, rfl⟩
  | false =>
    have HP := Lib.hid (pl_oddI k hpe)
    have hk1 : 1 ≤ (k : Int) := by simp only [beq_eq_false_iff_ne] at hpe; omega
    go_enter Tryz.func106, Tryz.ntmps106
    go_wp2
    go_ret
    exact ⟨by rw [HP.out]; rfl, rfl⟩
theorem intTy : MapTy Tryz.prog 155 3 2 where
  keyed := int_keyed Tryz.underlying3
  und := Tryz.underlying155
  el := Tryz.underlying2
  zero w := by kernel_rfl
theorem intKey (z : Int) (h : small z) : ∃ l, keyOf Tryz.prog 3 (.int .i64 z) = some l := ⟨_, keyOf_int_mk Tryz.underlying3 (small_wf h)⟩
/-- The symbols that stand in the map behind k rounds. -/
def symT (zs : List Int) (k : Nat) (z : Int) : Option Int := if idxZ z < k then some (zs.getD (idxZ z) 0) else none
theorem symT_one (zs : List Int) : symT zs 1 = fun _ => none := by
  funext z
  have := idx_pos z
  unfold symT
  rw [if_neg (by omega)]
theorem symT_succ (zs : List Int) (k : Nat) (h : 1 ≤ k) : (fun z => if z = plZ k then some (zs.getD k 0) else symT zs k z) = symT zs (k + 1) := by
  funext z
  unfold symT
  by_cases hz : z = plZ k
  · rw [if_pos hz, hz, idx_pl k h, if_pos (by omega)]
  · have hne : idxZ z ≠ k := fun e => hz (by rw [← e, pl_idx])
    rw [if_neg hz]
    by_cases hlt : idxZ z < k
    · rw [if_pos hlt, if_pos (by omega)]
    · rw [if_neg hlt, if_neg (by omega)]
theorem symT_all (zs : List Int) (z : Int) : (symT zs zs.length z).getD 0 = symZ (zs.drop 1) z := by
  have := idx_pos z
  unfold symT symZ
  rw [List.getD_eq_getElem?_getD, List.getD_eq_getElem?_getD, List.getElem?_drop, show 1 + (idxZ z - 1) = idxZ z by omega]
  by_cases h : idxZ z < zs.length
  · rw [if_pos h, List.getElem?_eq_getElem h]; rfl
  · rw [if_neg h, List.getElem?_eq_none (by omega)]
/-- A configuration and a code, as the program's functions give them. -/
def ConfRes (w : World) (r : ConfD × Int) (e : Ending) (w' : World) : Prop :=
  ∃ lv rv, e = .returned (.tuple #[.agg #[.int .i64 r.1.q, lv, rv], .int .i64 r.2]) ∧ OwnInts w.heap.size w' lv r.1.l ∧ OwnInts w.heap.size w' rv r.1.r ∧ (∀ g, lv.ownBlock = some g → rv.ownBlock ≠ some g) ∧ Ext w w'
/-- A configuration that grows on both sides, in memory. -/
structure UnfInv (base : Nat) (w : World) (bo : Nat) (q : Int) (ls rs : List Int) (lv rv : Value) : Prop where
  blk : Blk w bo 37 #[.int .i64 q, lv, rv]
  l : OwnInts base w lv ls
  r : OwnInts base w rv rs
  ap : ∀ g, lv.ownBlock = some g → rv.ownBlock ≠ some g
theorem UnfInv.alloc {base : Nat} {w : World} {bo : Nat} {q : Int} {ls rs : List Int} {lv rv : Value} (h : UnfInv base w bo q ls rs lv rv) (o : Obj) : UnfInv base (w.alloc o) bo q ls rs lv rv :=
  ⟨h.blk.alloc o, World.ownsRow.alloc h.l o, World.ownsRow.alloc h.r o, h.ap⟩
theorem UnfInv.ext {base : Nat} {w w' : World} {bo : Nat} {q : Int} {ls rs : List Int} {lv rv : Value} (h : UnfInv base w bo q ls rs lv rv) (he : Ext w w') : UnfInv base w' bo q ls rs lv rv :=
  ⟨h.blk.ext he, OwnInts.ext h.l he, OwnInts.ext h.r he, h.ap⟩
theorem ownLtO {base : Nat} {w : World} {e : TypeId} {size n : Nat} {v : Value} {xs : List Value} (h : w.ownsRow base e size v n xs) : ∀ g, v.ownBlock = some g → g < w.heap.size := fun g hg => (h.lt g hg).2
theorem UnfInv.right {base : Nat} {w w' : World} {bo : Nat} {q x : Int} {ls rs : List Int} {lv rv v' : Value} (h : UnfInv base w bo q ls rs lv rv)
    (hown : w'.ownsRow base 2 1 v' (rs.length + 1) (ivs rs ++ [.int .i64 x])) (hg : w.grownBy w' rv.ownBlock) (hat : v'.ownBlock = rv.ownBlock ∨ v'.ownBlock = some w.heap.size) :
    UnfInv base (w'.setCell ⟨bo, 2, none⟩ v') bo q ls (rs ++ [x]) lv v' := by
  have B5 := Blk.apart h.blk h.r (by decide) hg
  have hne : lv.ownBlock = none ∨ lv.ownBlock ≠ rv.ownBlock := by
    rcases hl : lv.ownBlock with _ | g
    · exact .inl rfl
    · exact .inr (fun e => h.ap g hl e.symm)
  have L5 : OwnInts base w' lv ls := World.ownsRow.kept h.l hg hne
  have hgs := grownBy_setCell w' ⟨bo, 2, none⟩ v'
  refine ⟨B5.set_ 2 v', own_kept L5 hgs (blk_ne_row B5 L5 (by decide)), ?_, ?_⟩
  · have := own_kept hown hgs (blk_ne_row B5 hown (by decide))
    unfold OwnInts
    rw [ivs_append]
    simpa [ivs] using this
  · intro g hl hv
    rcases hat with e | e
    · exact h.ap g hl (e.symm.trans hv)
    · rw [e] at hv
      injection hv with hv
      have := ownLtO h.l g hl
      omega
theorem UnfInv.left {base : Nat} {w w' : World} {bo : Nat} {q x : Int} {ls rs : List Int} {lv rv v' : Value} (h : UnfInv base w bo q ls rs lv rv)
    (hown : w'.ownsRow base 2 1 v' (ls.length + 1) (ivs ls ++ [.int .i64 x])) (hg : w.grownBy w' lv.ownBlock) (hat : v'.ownBlock = lv.ownBlock ∨ v'.ownBlock = some w.heap.size) :
    UnfInv base (w'.setCell ⟨bo, 1, none⟩ v') bo q (ls ++ [x]) rs v' rv := by
  have B5 := Blk.apart h.blk h.l (by decide) hg
  have hne : rv.ownBlock = none ∨ rv.ownBlock ≠ lv.ownBlock := by
    rcases hl : lv.ownBlock with _ | g
    · rcases hr : rv.ownBlock with _ | g
      · exact .inl rfl
      · exact .inr (by simp)
    · exact .inr (fun e => h.ap g hl e)
  have R5 : OwnInts base w' rv rs := World.ownsRow.kept h.r hg hne
  have hgs := grownBy_setCell w' ⟨bo, 1, none⟩ v'
  refine ⟨B5.set_ 1 v', ?_, own_kept R5 hgs (blk_ne_row B5 R5 (by decide)), ?_⟩
  · have := own_kept hown hgs (blk_ne_row B5 hown (by decide))
    unfold OwnInts
    rw [ivs_append]
    simpa [ivs] using this
  · intro g hl hv
    rcases hat with e | e
    · exact h.ap g (e.symm.trans hl) hv
    · rw [e] at hl
      injection hl with hl
      have := ownLtO h.r g hv
      omega
set_option maxRecDepth 20000 in
set_option maxHeartbeats 4000000 in
theorem unfolded_c (v : Value) (zs : List Int) (k : Nat) (q : Int) (w : World) (h : Ints w v zs) (hn : zs.length ≤ 1000) (k1 : 1 ≤ k) (k2 : k ≤ zs.length) (hb : ∀ z ∈ zs, 0 ≤ z ∧ z ≤ 100) :
    Calls Tryz.prog 73 #[.int .i64 q, v, .int .i64 k] w (ConfRes w (unfD q (zs.drop 1) k)) := by
  obtain ⟨A, c, rfl, h2, h2'⟩ := h.form
  obtain ⟨W, hW⟩ : ∃ W, W = w.alloc (.cells #[.int .i64 0, .slice none 0 0, .slice none 0 0] 37) := ⟨_, rfl⟩
  have hXW : Ext w W := by rw [hW]; exact Ext.alloc _ _
  have bO : Blk W w.heap.size 37 #[.int .i64 0, .slice none 0 0, .slice none 0 0] := by rw [hW]; exact Blk.new _ _ _ _ rfl
  obtain ⟨D, hD⟩ : ∃ D, zs.drop 1 = D := ⟨_, rfl⟩
  rw [hD]
  have HD := Lib.hid hD
  clear hD
  have hmm := @run_makeMap Tryz.prog
  obtain ⟨W1, hW1⟩ : ∃ W1, W1 = W.alloc (.map #[] 0) := ⟨_, rfl⟩
  go_enter Tryz.func73, Tryz.ntmps73
  go_wp2_with fail
  rw [← hW, ← hW1]
  refine (place_c k _ (by omega)).mono ?_
  rintro e w' ⟨rfl, rfl⟩
  have hsz : W.heap.size = w.heap.size + 1 := by rw [hW]; simp
  have hXW1 : Ext w W1 := by rw [hW1]; exact hXW.trans (Ext.alloc _ _)
  have bO1 : Blk W1 w.heap.size 37 #[.int .i64 0, .slice none 0 0, .slice none 0 0] := by rw [hW1]; exact bO.alloc _
  have hT1 : Tbl Tryz.prog 3 2 (Value.int .i64) W1 (w.heap.size + 1) 1 (symT zs 1) := by
    rw [symT_one, hW1, ← hsz]
    exact (Tbl.made _ _ _ _ _).mono (by omega)
  have hpl := pl_le k k1
  generalize hpk : plZ k = p at *
  have HPK := Lib.hid hpk
  clear hpk
  obtain ⟨bm, hbm⟩ : ∃ bm, bm = w.heap.size + 1 := ⟨_, rfl⟩
  rw [← hbm] at hT1 ⊢
  have hlow : w.heap.size ≤ bm := by omega
  have hlow2 : w.heap.size ≠ bm := by omega
  have HBM := Lib.hid hbm
  have HSZ := Lib.hid hsz
  clear hbm hsz hW hW1 bO
  go_wp2
  go_loopw [11] (fun i wr => ∃ j : Nat, 1 ≤ j ∧ j ≤ zs.length ∧ i = .int .i64 j ∧ Tbl Tryz.prog 3 2 (Value.int .i64) wr bm j (symT zs j) ∧ Blk wr w.heap.size 37 #[.int .i64 0, .slice none 0 0, .slice none 0 0] ∧ Ext w wr) (fun i _ => zs.length - (intOf i).toNat)
  case atStart => exact ⟨1, by omega, by omega, rfl, hT1, bO1, hXW1⟩
  case round =>
    clear hT1 bO1 hXW1
    obtain ⟨j, hj1, hj2, rfl, hT, bO, hX⟩ := hrel
    by_cases hlt : j < zs.length
    · obtain ⟨b, off, rfl, hc⟩ := (h.ext hX).at hlt
      have c0 := (Ext.drew wr).cell (hc j hlt)
      have hj3 := pl_le j hj1
      have HS := Lib.hid (symT_succ zs j hj1)
      have HG : Hid (zs.getD j 0 = zs[j]) := by unfold Hid; rw [List.getD_eq_getElem?_getD, List.getElem?_eq_getElem hlt]; rfl
      rw [HG.out] at HS
      obtain ⟨hz1, hz2⟩ := hb zs[j] (List.getElem_mem hlt)
      generalize zs[j] = z at *
      have hT' := hT.ext (Ext.drew wr)
      obtain ⟨w3, hupd, hT3, hg3⟩ := hT'.update intTy (fun x y h => by injection h) (by unfold maxLen; omega) (plZ j) (intKey _ (by unfold small; omega)) z (small_wf (by unfold small; omega))
      rw [HS.out] at hT3
      clear hc
      generalize hpz : plZ j = pj at *
      have HPZ := Lib.hid hpz
      clear hpz
      have hplc := place_c j wr.drew (by omega)
      rw [HPZ.out] at hplc
      go_wp2
      go_region_law (first | (go_simp; go_at_call 106; ((with_reducible refine hplc.mono ?_)); rintro e w5 ⟨rfl, rfl⟩))
      all_goals
        clear hupd
        have hb3 : Blk w3 w.heap.size 37 #[.int .i64 0, .slice none 0 0, .slice none 0 0] := bO.drew.kept hg3 (by simpa using hlow2)
        have hX3 : Ext w w3 := (hX.trans (Ext.drew _)).grown hg3 (fun g hg => by injection hg with hg; subst hg; exact hlow)
        go_wp2
        go_roundw
        case rel => exact ⟨j + 1, by omega, by omega, by go_num, hT3, hb3, hX3⟩
        case measure => simp [intOf]; omega
    · have hje : j = zs.length := by omega
      subst hje
      have hTL : Tbl Tryz.prog 3 2 (Value.int .i64) wr bm zs.length (symT zs zs.length) := hT
      have HSY : Hid (∀ z, (symT zs zs.length z).getD 0 = symZ D z) := by
        unfold Hid
        intro z
        rw [symT_all, HD.out]
      have HDL : Hid (D.length + 1 = zs.length) := by unfold Hid; rw [← HD.out]; simp; omega
      clear hT
      generalize symT zs zs.length = T at *
      obtain ⟨V, hV⟩ : ∃ V, V = wr.alloc (.cells #[.int .i64 q, .slice none 0 0, .slice none 0 0] 37) := ⟨_, rfl⟩
      have hXV : Ext wr V := by rw [hV]; exact Ext.alloc _ _
      have bC : Blk V wr.heap.size 37 #[.int .i64 q, .slice none 0 0, .slice none 0 0] := by rw [hV]; exact Blk.new _ _ _ _ rfl
      have hTV := hTL.ext hXV
      have hXw := hX.trans hXV
      obtain ⟨i0, hi, hy0, hy1, hy2⟩ := info_parts intInfo
      have hn0 : (0 : Nat) ≤ 0 := Nat.le_refl _
      go_wp2_with fail
      rw [← hV]
      clear hV
      have I0 : UnfInv w.heap.size V wr.heap.size q (fnL (fun i => symZ D (p - 1 - i)) 0) (fnL (fun i => symZ D (p + i)) 0) (.slice none 0 0) (.slice none 0 0) :=
        ⟨bC, by simpa [fnL, OwnInts, ivs] using World.ownsRow_nil .., by simpa [fnL, OwnInts, ivs] using World.ownsRow_nil .., fun g hg => by simp [Value.ownBlock] at hg⟩
      have bOV := bO.ext hXV
      have hbo : w.heap.size < wr.heap.size := bO.lt
      have hbm2 : bm < wr.heap.size := hTL.lt
      generalize wr.heap.size = bo at *
      clear hTL hX bO bC hXV
      go_loopw [37] (fun i wr => ∃ (j : Nat) (lv rv : Value), j ≤ zs.length + 1 ∧ i = .int .i64 j ∧ UnfInv w.heap.size wr bo q (fnL (fun i => symZ D (p - 1 - i)) j) (fnL (fun i => symZ D (p + i)) j) lv rv ∧ Tbl Tryz.prog 3 2 (Value.int .i64) wr bm zs.length T ∧ Blk wr w.heap.size 37 #[.int .i64 0, .slice none 0 0, .slice none 0 0] ∧ Ext w wr) (fun i _ => zs.length + 1 - (intOf i).toNat)
      case atStart => exact ⟨0, _, _, by omega, rfl, I0, hTV, bOV, hXw⟩
      case round =>
        clear I0 hTV bOV hXw
        obtain ⟨j, lv, rv, hj, rfl, I, hT, bO, hX⟩ := hrel
        by_cases hlt : j < zs.length + 1
        · have HSL : Hid (fnL (fun i => symZ D (p - 1 - i)) (j + 1) = fnL (fun i => symZ D (p - 1 - i)) j ++ [symZ D (p - 1 - j)]) := Lib.hid (fnL_succ _ j)
          have HSR : Hid (fnL (fun i => symZ D (p + i)) (j + 1) = fnL (fun i => symZ D (p + i)) j ++ [symZ D (p + j)]) := Lib.hid (fnL_succ _ j)
          have hll : (fnL (fun i => symZ D (p - 1 - i)) j).length = j := fnL_length _ _
          have hlr : (fnL (fun i => symZ D (p + i)) j).length = j := fnL_length _ _
          have k1' := intKey (p + j) (by unfold small; omega)
          have k2' := intKey (p - 1 - j) (by unfold small; omega)
          have lk1 := hT.lookup intTy (p + j) k1'
          rw [HSY.out] at lk1
          have HSY2 : Hid ((T (p - 1 - j)).getD 0 = symZ D (p - 1 - j)) := HSY.out _
          generalize symZ D (p + j) = x at *
          generalize symZ D (p - 1 - j) = y at *
          generalize fnL (fun i => symZ D (p - 1 - i)) j = ls at *
          generalize fnL (fun i => symZ D (p + i)) j = rs at *
          obtain ⟨Al, cl, rfl, _, _⟩ := I.l.ints.form
          obtain ⟨Ar, cr, rfl, _, _⟩ := I.r.ints.form
          have c1 := I.blk.cell 1
          have c2 := I.blk.cell 2
          have f2 := (I.blk.alloc (.cells #[.int .i64 x] 2)).frozen 2
          simp only [List.getElem?_toArray, List.getElem?_cons_zero, List.getElem?_cons_succ] at c1 c2
          have I1 := I.alloc (.cells #[.int .i64 x] 2)
          have hsb : w.heap.size ≤ wr.heap.size := hX.size
          have hls' := Lib.hid hll
          have hlr' := Lib.hid hlr
          have hls1 : ls.length ≤ 1001 := by omega
          have hrs1 : rs.length ≤ 1001 := by omega
          clear hll hlr
          go_wp2_with (at_builtin; refine wpList_append_own_at _ rfl _ _ 25 rfl w.heap.size 2 i0 (.int .i64 0) 1 8 Tryz.underlying25 hi hy0 hy1 hy2 rfl (by decide) _ _ _ rfl I1.r ⟨wr.heap.size, 0, none⟩ 1 1 [.int .i64 x] rfl rfl (cell_one_new _ _ _) ?c2 ?c3 ?c4 ?c5 ?_)
          case c2 => intro u hu; simp at hu; subst hu; rfl
          case c3 => unfold maxLen; omega
          case c4 => omega
          case c5 => simp; omega
          intro v4 w4 hown4 hg4 _ hat4
          have hat4' : v4.ownBlock = (Value.slice Ar rs.length cr).ownBlock ∨ v4.ownBlock = some (wr.alloc (.cells #[.int .i64 x] 2)).heap.size := by simpa using hat4
          have B4 := Blk.apart I1.blk I1.r (by decide) hg4
          have I4 := UnfInv.right I1 hown4 hg4 hat4'
          have hTa := hT.ext (Ext.alloc wr (.cells #[.int .i64 x] 2))
          have hT4 := (hTa.kept hg4 (hTa.ne_row I1.r)).setCell (a := ⟨bo, 2, none⟩) (by show bm ≠ bo; omega) v4
          have bOa := bO.alloc (.cells #[.int .i64 x] 2)
          have bO4 := (Blk.apart bOa I1.r (by decide) hg4).far (p := ⟨bo, 2, none⟩) (by show w.heap.size ≠ bo; omega) v4
          have hX4 : Ext w (w4.setCell ⟨bo, 2, none⟩ v4) := ((hX.trans (Ext.alloc _ _)).grown hg4 (fun g hg => (I1.r.lt g hg).1)).setCell (by show w.heap.size ≤ bo; omega) v4
          obtain ⟨A4, c4, rfl, _, _, _⟩ := (ownsRow_row hown4).form
          have e1 := B4.cell 1
          have e2 := B4.cell 2
          have g2 := B4.frozen 2
          simp only [List.getElem?_toArray, List.getElem?_cons_zero, List.getElem?_cons_succ] at e1 e2
          have lk2 := hT4.lookup intTy (p - 1 - j) k2'
          rw [HSY2.out] at lk2
          have d1 := I4.blk.cell 1
          have I5 := I4.alloc (.cells #[.int .i64 y] 2)
          simp only [List.getElem?_toArray, List.getElem?_cons_zero, List.getElem?_cons_succ] at d1
          have hs5 := hX4.size
          have hz5 : (w4.setCell ⟨bo, 2, none⟩ (.slice A4 (rs.length + 1) c4)).heap.size = w4.heap.size := by simp [World.setCell]
          have hnew : ∀ j u, [Value.int .i64 y][j]? = some u → ((w4.setCell ⟨bo, 2, none⟩ (.slice A4 (rs.length + 1) c4)).alloc (.cells #[.int .i64 y] 2)).cell? ((⟨w4.heap.size, 0, none⟩ : Addr).add j) = some u := by
            have := cell_one_new (w4.setCell ⟨bo, 2, none⟩ (.slice A4 (rs.length + 1) c4)) (.int .i64 y) 2
            rw [hz5] at this
            exact this
          have HNEW := Lib.hid hnew
          have HZ5 := Lib.hid hz5
          clear hnew hz5
          clear c1 c2 f2 lk1 hat4 hg4 hown4
          go_wp2_with (at_builtin; refine wpList_append_own_at _ rfl _ _ 25 rfl w.heap.size 2 i0 (.int .i64 0) 1 8 Tryz.underlying25 hi hy0 hy1 hy2 rfl (by decide) _ _ _ rfl I5.l ⟨w4.heap.size, 0, none⟩ 1 1 [.int .i64 y] rfl rfl HNEW.out ?c2 ?c3 ?c4 ?c5 ?_)
          case c2 => intro u hu; simp at hu; subst hu; rfl
          case c3 => unfold maxLen; omega
          case c4 => omega
          case c5 => have hh := hs5; rw [HZ5.out] at hh; simp; omega
          intro v6 w6 hown6 hg6 _ hat6
          have hat6' : v6.ownBlock = (Value.slice Al ls.length cl).ownBlock ∨ v6.ownBlock = some ((w4.setCell ⟨bo, 2, none⟩ (.slice A4 (rs.length + 1) c4)).alloc (.cells #[.int .i64 y] 2)).heap.size := by simpa using hat6
          have B6 := Blk.apart I5.blk I5.l (by decide) hg6
          have I6 := UnfInv.left I5 hown6 hg6 hat6'
          have hTb := hT4.ext (Ext.alloc _ (.cells #[.int .i64 y] 2))
          have hT6 := (hTb.kept hg6 (hTb.ne_row I5.l)).setCell (a := ⟨bo, 1, none⟩) (by show bm ≠ bo; omega) v6
          have bOb := bO4.alloc (.cells #[.int .i64 y] 2)
          have bO6 := (Blk.apart bOb I5.l (by decide) hg6).far (p := ⟨bo, 1, none⟩) (by show w.heap.size ≠ bo; omega) v6
          have hX6 : Ext w (w6.setCell ⟨bo, 1, none⟩ v6) := ((hX4.trans (Ext.alloc _ _)).grown hg6 (fun g hg => (I5.l.lt g hg).1)).setCell (by show w.heap.size ≤ bo; omega) v6
          obtain ⟨A6, c6, rfl, _, _, _⟩ := (ownsRow_row hown6).form
          have e1' := B6.cell 1
          have e2' := B6.cell 2
          have g2' := B6.frozen 1
          simp only [List.getElem?_toArray, List.getElem?_cons_zero, List.getElem?_cons_succ] at e1' e2'
          clear hat6 hg6 hown6 e1 e2 g2 d1 lk2
          go_wp2
          go_roundw
          case rel => exact ⟨j + 1, _, _, by omega, by go_num, by rw [HSL.out, HSR.out]; exact I6, hT6, bO6, hX6⟩
          case measure => simp [intOf]; omega
        · have hje : j = zs.length + 1 := by omega
          subst hje
          have HLU : Hid (trim (fnL (fun i => symZ D (p - 1 - i)) (zs.length + 1)) = unfL D p) := by unfold Hid unfL; rw [← HDL.out]
          have HRU : Hid (trim (fnL (fun i => symZ D (p + i)) (zs.length + 1)) = unfR D p) := by unfold Hid unfR; rw [← HDL.out]
          have hll : (fnL (fun i => symZ D (p - 1 - i)) (zs.length + 1)).length = zs.length + 1 := fnL_length _ _
          have hlr : (fnL (fun i => symZ D (p + i)) (zs.length + 1)).length = zs.length + 1 := fnL_length _ _
          generalize fnL (fun i => symZ D (p - 1 - i)) (zs.length + 1) = ls at *
          generalize fnL (fun i => symZ D (p + i)) (zs.length + 1) = rs at *
          obtain ⟨Al, cl, rfl, hl1, hl2⟩ := I.l.ints.form
          obtain ⟨Ar, cr, rfl, hr1, hr2⟩ := I.r.ints.form
          obtain ⟨bl, ol, rfl, _⟩ := I.l.ints.at (k := 0) (by omega)
          obtain ⟨br, or', rfl, _⟩ := I.r.ints.at (k := 0) (by omega)
          have Id := I.ext (Ext.drew wr)
          have il := Id.l.ints
          have ir := Id.r.ints
          have hlm : ls.length ≤ 1048576 := by omega
          have hrm : rs.length ≤ 1048576 := by omega
          have c1 := Id.blk.cell 1
          have c2 := Id.blk.cell 2
          have f1 := Id.blk.frozen 1
          have f2 := Id.blk.frozen 2
          simp only [List.getElem?_toArray, List.getElem?_cons_zero, List.getElem?_cons_succ] at c1 c2
          have hnl := trimN_le ls ls.length
          have hnr := trimN_le rs rs.length
          have TL := fun w h => trimmed_c (.slice (some ⟨bl, ol, none⟩) ls.length cl) ls w h hlm
          have TR := fun w h => trimmed_c (.slice (some ⟨br, or', none⟩) rs.length cr) rs w h hrm
          have HTL : Hid (trim ls = ls.take (trimN ls ls.length)) := rfl
          have HTR : Hid (trim rs = rs.take (trimN rs rs.length)) := rfl
          generalize trimN ls ls.length = nl at *
          generalize trimN rs rs.length = nr at *
          have HHL := Lib.hid hll
          have HHR := Lib.hid hlr
          have bS := (I.blk.set_ 1 (.slice (some ⟨bl, ol, none⟩) nl cl)).drew
          have bS2 := (bS.set_ 2 (.slice (some ⟨br, or', none⟩) nr cr))
          have s2 := bS.cell 2
          have sf2 := bS.frozen 2
          simp only [List.setIfInBounds_toArray, List.set_cons_zero, List.set_cons_succ, List.getElem?_toArray, List.getElem?_cons_zero, List.getElem?_cons_succ] at s2
          clear hll hlr
          have hlA : (trim ls).length = nl := by rw [HTL.out]; simp; omega
          have hrA : (trim rs).length = nr := by rw [HTR.out]; simp; omega
          have HE : Hid (unfD q D k = if nl ≤ 200 ∧ nr ≤ 200 then (⟨q, trim ls, trim rs⟩, 0) else (blankC, 5)) := by
            unfold Hid unfD
            rw [HPK.out, ← HLU.out, ← HRU.out, hlA, hrA]
            have e1 : decide ((nl : Int) ≤ 200) = decide (nl ≤ 200) := by rw [decide_eq_decide]; omega
            have e2 : decide ((nr : Int) ≤ 200) = decide (nr ≤ 200) := by rw [decide_eq_decide]; omega
            rw [e1, e2]
            by_cases h1 : nl ≤ 200 <;> by_cases h2 : nr ≤ 200 <;> simp [h1, h2]
          obtain ⟨W9, hW9⟩ : ∃ W9, W9 = ((wr.setCell ⟨bo, 1, none⟩ (.slice (some ⟨bl, ol, none⟩) nl cl)).setCell ⟨bo, 2, none⟩ (.slice (some ⟨br, or', none⟩) nr cr)).drew := ⟨_, rfl⟩
          have bC9 : Blk W9 bo 37 #[.int .i64 q, .slice (some ⟨bl, ol, none⟩) nl cl, .slice (some ⟨br, or', none⟩) nr cr] := by
            rw [hW9]
            exact ((I.blk.set_ 1 (.slice (some ⟨bl, ol, none⟩) nl cl)).set_ 2 (.slice (some ⟨br, or', none⟩) nr cr)).drew
          have bO9 : Blk W9 w.heap.size 37 #[.int .i64 0, .slice none 0 0, .slice none 0 0] := by
            rw [hW9]
            exact ((bO.far (p := ⟨bo, 1, none⟩) (by show w.heap.size ≠ bo; omega) _).far (p := ⟨bo, 2, none⟩) (by show w.heap.size ≠ bo; omega) _).drew
          have n1 : ∀ g, (Value.slice (some ⟨bl, ol, none⟩) ls.length cl).ownBlock = some g → g ≠ bo := fun g hg e => by
            subst e
            exact blk_ne_row I.blk I.l (by decide) hg.symm
          have n2 : ∀ g, (Value.slice (some ⟨br, or', none⟩) rs.length cr).ownBlock = some g → g ≠ bo := fun g hg e => by
            subst e
            exact blk_ne_row I.blk I.r (by decide) hg.symm
          have oL9 : OwnInts w.heap.size W9 (.slice (some ⟨bl, ol, none⟩) nl cl) (trim ls) := by
            rw [hW9, HTL.out]
            have o1 : OwnInts w.heap.size _ _ ls := ownsRow_far (ownsRow_far I.l n1 (.slice (some ⟨bl, ol, none⟩) nl cl) (p := ⟨bo, 1, none⟩)) n1 (.slice (some ⟨br, or', none⟩) nr cr) (p := ⟨bo, 2, none⟩)
            exact OwnInts.ext (OwnInts.take o1 nl (by omega) (by simp)) (Ext.drew _)
          have oR9 : OwnInts w.heap.size W9 (.slice (some ⟨br, or', none⟩) nr cr) (trim rs) := by
            rw [hW9, HTR.out]
            have o1 : OwnInts w.heap.size _ _ rs := ownsRow_far (ownsRow_far I.r n2 (.slice (some ⟨bl, ol, none⟩) nl cl) (p := ⟨bo, 1, none⟩)) n2 (.slice (some ⟨br, or', none⟩) nr cr) (p := ⟨bo, 2, none⟩)
            exact OwnInts.ext (OwnInts.take o1 nr (by omega) (by simp)) (Ext.drew _)
          have ap9 : ∀ g, (Value.slice (some ⟨bl, ol, none⟩) nl cl).ownBlock = some g → (Value.slice (some ⟨br, or', none⟩) nr cr).ownBlock ≠ some g := I.ap
          have hX9 : Ext w W9 := by
            rw [hW9]
            exact ((hX.setCell (p := ⟨bo, 1, none⟩) (by show w.heap.size ≤ bo; omega) _).setCell (p := ⟨bo, 2, none⟩) (by show w.heap.size ≤ bo; omega) _).trans (Ext.drew _)
          have z1 := bC9.cell 1
          have z2 := bC9.cell 2
          have z0 := bC9.cell 0
          have y := bO9.cell
          have yf := bO9.frozen
          simp only [List.getElem?_toArray, List.getElem?_cons_zero, List.getElem?_cons_succ] at z0 z1 z2
          have m1 : ∀ g, (Value.slice (some ⟨bl, ol, none⟩) nl cl).ownBlock = some g → g ≠ w.heap.size := fun g hg e => by
            subst e
            exact blk_ne_row bO9 oL9 (by decide) hg.symm
          have m2 : ∀ g, (Value.slice (some ⟨br, or', none⟩) nr cr).ownBlock = some g → g ≠ w.heap.size := fun g hg e => by
            subst e
            exact blk_ne_row bO9 oR9 (by decide) hg.symm
          have HW9 := Lib.hid hW9
          clear hW9 n1 n2 hlA hrA
          clear z0 z1 z2 y yf
          go_wp2
          go_region_law
            (first
              | (go_simp; go_at_call 91; ((with_reducible refine (TL _ il).mono ?_)); rintro e w5 ⟨⟨A', c', hv, rfl⟩, rfl⟩; cases hv)
              | (go_simp; go_at_call 91; ((with_reducible refine (TR _ ir).mono ?_)); rintro e w6 ⟨⟨A', c', hv, rfl⟩, rfl⟩; cases hv))
          all_goals
            rw [← HW9.out]
            clear c1 c2 f1 f2 s2 sf2 bS bS2
            have z1 := bC9.cell 1
            have z2 := bC9.cell 2
            have z0 := bC9.cell 0
            have y := bO9.cell
            have yf := bO9.frozen
            simp only [List.getElem?_toArray, List.getElem?_cons_zero, List.getElem?_cons_succ] at z0 z1 z2
            by_cases h1 : nl ≤ 200
            · by_cases h2 : nr ≤ 200
              · have d1 : decide (200 < nl) = false := by simp; omega
                have d2 : decide (200 < nr) = false := by simp; omega
                have d1' : decide ((nl : Int) > 200) = false := by simp; omega
                have d2' : decide ((nr : Int) > 200) = false := by simp; omega
                have HE2 : Hid (unfD q D k = (⟨q, trim ls, trim rs⟩, 0)) := by unfold Hid; rw [HE.out, if_pos ⟨h1, h2⟩]
                clear h1 h2
                go_wp2
                rw [HE2.out]
                refine bodyPost_ret (v := .tuple #[.agg #[.int .i64 q, .slice (some ⟨bl, ol, none⟩) nl cl, .slice (some ⟨br, or', none⟩) nr cr], .int .i64 0]) (by simp [results, Tryz.results73, go_sem, y]) rfl ⟨_, _, rfl, ?_, ?_, ap9, ?_⟩
                · exact ownsRow_far (ownsRow_far (ownsRow_far oL9 m1 _) m1 _) m1 _
                · exact ownsRow_far (ownsRow_far (ownsRow_far oR9 m2 _) m2 _) m2 _
                · exact ((hX9.setCell (Nat.le_refl _) _).setCell (Nat.le_refl _) _).setCell (Nat.le_refl _) _
              · have d1 : decide (200 < nl) = false := by simp; omega
                have d2 : decide (200 < nr) = true := by simp; omega
                have d1' : decide ((nl : Int) > 200) = false := by simp; omega
                have d2' : decide ((nr : Int) > 200) = true := by simp; omega
                have HE2 : Hid (unfD q D k = (blankC, 5)) := by unfold Hid; rw [HE.out, if_neg (fun h => h2 h.2)]
                clear h1 h2
                go_wp2
                rw [HE2.out]
                refine bodyPost_ret (v := .tuple #[.agg #[.int .i64 0, .slice none 0 0, .slice none 0 0], .int .i64 5]) (by simp [results, Tryz.results73, go_sem, y]) rfl ⟨_, _, rfl, World.ownsRow_nil .., World.ownsRow_nil .., fun g hg => by simp [Value.ownBlock] at hg, ?_⟩
                exact ((hX9.setCell (Nat.le_refl _) _).setCell (Nat.le_refl _) _).setCell (Nat.le_refl _) _
            · have d1 : decide (200 < nl) = true := by simp; omega
              have d1' : decide ((nl : Int) > 200) = true := by simp; omega
              have HE2 : Hid (unfD q D k = (blankC, 5)) := by unfold Hid; rw [HE.out, if_neg (fun h => h1 h.1)]
              clear h1
              go_wp2
              rw [HE2.out]
              refine bodyPost_ret (v := .tuple #[.agg #[.int .i64 0, .slice none 0 0, .slice none 0 0], .int .i64 5]) (by simp [results, Tryz.results73, go_sem, y]) rfl ⟨_, _, rfl, World.ownsRow_nil .., World.ownsRow_nil .., fun g hg => by simp [Value.ownBlock] at hg, ?_⟩
              exact ((hX9.setCell (Nat.le_refl _) _).setCell (Nat.le_refl _) _).setCell (Nat.le_refl _) _
end Go.Proofs.YtjcfmlecfjmcgaaGreatDoor
end
section
set_option linter.unusedSimpArgs false
set_option linter.unusedVariables false
namespace Go.Proofs.YtjcfmlecfjmcgaaGreatDoor
open Go Go.RowKit Go.Proofs Go.Maps
set_option maxHeartbeats 400000
theorem symbolAt0_c (v : Value) (zs : List Int) (w : World) (h : Ints w v zs) :
    Calls Tryz.prog 58 #[v, .int .i64 0] w fun e w' => e = .returned (.int .i64 (zs.getD 0 0)) ∧ w = w' := by
  simpa using symbolAt_c v zs 0 w h
set_option maxRecDepth 20000 in
theorem foldState_c (base : Nat) (w : World) (sy st : Int) (rvm : Value) (bx : Nat) (sy' : Int) (N : Int) (rs : List RuleD) (ps : List FP) (rv pv : Value) (bm : Nat) (c : ConfD) (lv qv : Value) (i : Nat) (p : FP)
    (h : PlSt base w bx sy' N rs ps rv pv bm) (hq : c.q = i) (hi : ps[i]? = some p) (hl : Ints w lv c.l) (hr : Ints w qv c.r) :
    Calls Tryz.prog 69 #[.agg #[.int .i64 sy, .int .i64 st, rvm], .pointer (some ⟨bx, 0, none⟩), .agg #[.int .i64 c.q, lv, qv]] w fun e w' => e = .returned (.tuple #[.int .i64 (stF sy p c).1, .int .i64 (stF sy p c).2.1, .bool (stF sy p c).2.2]) ∧ Ext w w' := by
  have hil : i < ps.length := (List.getElem?_eq_some_iff.1 hi).1
  obtain ⟨Ap, cp, rfl, hp1, hp2, _⟩ := (ownsRow_row h.places).form
  obtain ⟨g, rfl, hg1, hg2, p0, p1, p2⟩ := places_at h.places hi
  obtain ⟨Al, cl, rfl, _, _⟩ := hl.form
  obtain ⟨Ar, cr, rfl, _, _⟩ := hr.form
  rw [hq]
  obtain ⟨W, hW⟩ : ∃ W, W = (w.alloc (.cells #[.int .i64 sy, .int .i64 st, rvm] 35)).alloc (.cells #[.int .i64 (i : Int), .slice Al c.l.length cl, .slice Ar c.r.length cr] 37) := ⟨_, rfl⟩
  have hXW : Ext w W := by rw [hW]; exact (Ext.alloc _ _).trans (Ext.alloc _ _)
  have bM : Blk W w.heap.size 35 #[.int .i64 sy, .int .i64 st, rvm] := by rw [hW]; exact (Blk.new _ _ _ _ rfl).alloc _
  have bC : Blk W (w.heap.size + 1) 37 #[.int .i64 (i : Int), .slice Al c.l.length cl, .slice Ar c.r.length cr] := by rw [hW]; exact Blk.new _ _ _ _ (by simp)
  have m0 := bM.cell 0
  have c0 := bC.cell 0
  have c2 := bC.cell 2
  have x3 := (h.blk.ext hXW).cell 3
  simp only [List.getElem?_toArray, List.getElem?_cons_zero, List.getElem?_cons_succ] at m0 c0 c2 x3
  have q0 := hXW.cell p0
  have q1 := hXW.cell p1
  have q2 := hXW.cell p2
  have i1 : (0 : Int) ≤ (i : Int) := by omega
  have i2 : (i : Int) < (ps.length : Int) := by omega
  have hrW := hr.ext hXW
  obtain ⟨pk, pq, ph⟩ := p
  simp only at q0 q1 q2
  obtain ⟨R, hR⟩ : ∃ R, R = stF sy ⟨pk, pq, ph⟩ c := ⟨_, rfl⟩
  rw [← hR]
  have HR := Lib.hid hR
  clear hR hi hq p0 p1 p2
  obtain ⟨r0, hr0⟩ : ∃ r0, r0 = c.r.getD 0 0 := ⟨_, rfl⟩
  have SA := fun w h => symbolAt0_c (.slice Ar c.r.length cr) c.r w h
  rw [← hr0] at SA
  have HR0 := Lib.hid hr0
  clear hr0
  go_enter Tryz.func69, Tryz.ntmps69
  go_wp2_with fail
  rw [← hW]
  clear hW
  go_region_held3 (fun w' => w'.cell? ⟨bx, 3, none⟩ = some (.slice (some ⟨g, 0, none⟩) ps.length cp) ∧ w'.cell? ⟨w.heap.size + 1, 0, none⟩ = some (.int .i64 (i : Int)) ∧ w'.cell? ⟨g, i * 3, none⟩ = some (.int .i64 pk) ∧ w'.cell? ⟨g, i * 3 + 1, none⟩ = some (.int .i64 pq) ∧ w'.cell? ⟨g, i * 3 + 2, none⟩ = some (.int .i64 ph)) (first | go_keep) (fail)
  obtain ⟨U, hU⟩ : ∃ U, U = (W.alloc (.cells #[.int .i64 pk, .int .i64 pq, .int .i64 ph] 102)).drew := ⟨_, rfl⟩
  have hXU : Ext W U := by rw [hU]; exact (Ext.alloc _ _).trans (Ext.drew _)
  have bP : Blk U W.heap.size 102 #[.int .i64 pk, .int .i64 pq, .int .i64 ph] := by rw [hU]; exact (Blk.new _ _ _ _ rfl).drew
  rw [← hU]
  clear hU q0 q1 q2 x3
  have u0 := bP.cell 0
  have u1 := bP.cell 1
  have u2 := bP.cell 2
  simp only [List.getElem?_toArray, List.getElem?_cons_zero, List.getElem?_cons_succ] at u0 u1 u2
  have U0 := cellR u0
  have U1 := cellR u1
  have U2 := cellR u2
  have M0 := cellR (hXU.cell m0)
  have C2 := cellR (hXU.cell c2)
  have hrU := hrW.ext hXU
  have SAU := fun d os => SA _ (hrU.ext (below_regrown U d os))
  have hX := hXW.trans hXU
  clear m0 c0 c2
  by_cases h0 : pk = 0
  · have b0 : (pk == 0) = true := by simp [h0]
    have HE : Hid (R = (pq, ph, true)) := by unfold Hid; rw [HR.out]; simp [stF, h0]
    clear h0
    go_wp2_with fail
    refine wp_region_ext (by kernel_rfl) (by kernel_rfl) ?_
    repeat (go_big_quiet_step (fail))
    refine wpQuiet_nil ?_
    intro w2 hx2
    go_wp2
    rw [HE.out]
    refine bodyPost_ret (v := .tuple #[.int .i64 pq, .int .i64 ph, .bool true]) (by simp [results, Tryz.results69, go_sem]) rfl ?_
    exact ⟨rfl, hX.trans hx2⟩
  · have b0 : (pk == 0) = false := by simp [h0]
    by_cases h5 : pk = 5
    · have b5 : (pk == 5) = true := by simp [h5]
      by_cases hr0 : r0 = sy
      · have b6 : (r0 != sy) = false := by simp [hr0]
        have HE : Hid (R = (0, 0, false)) := by unfold Hid; rw [HR.out]; simp only [stF, ← HR0.out]; rw [if_neg h0, if_neg (fun h => h.2 hr0)]
        clear h0 h5 hr0
        go_wp2_with fail
        refine wp_region_ext (by kernel_rfl) (by kernel_rfl) ?_
        repeat (go_big_quiet_step ((go_at_call 58; exact Calls.sameR (SAU _ _))))
        refine wpQuiet_nil ?_
        intro w2 hx2
        go_wp2
        rw [HE.out]
        refine bodyPost_ret (v := .tuple #[.int .i64 0, .int .i64 0, .bool false]) (by simp [results, Tryz.results69, go_sem]) rfl ?_
        exact ⟨rfl, hX.trans hx2⟩
      · have b6 : (r0 != sy) = true := by simp [hr0]
        have HE : Hid (R = (pq, 1, true)) := by unfold Hid; rw [HR.out]; simp only [stF, ← HR0.out]; rw [if_neg h0, if_pos ⟨h5, hr0⟩]
        clear h0 h5 hr0
        go_wp2_with fail
        refine wp_region_ext (by kernel_rfl) (by kernel_rfl) ?_
        repeat (go_big_quiet_step ((go_at_call 58; exact Calls.sameR (SAU _ _))))
        refine wpQuiet_nil ?_
        intro w2 hx2
        have v1 := hx2.cell u1
        go_wp2
        rw [HE.out]
        refine bodyPost_ret (v := .tuple #[.int .i64 pq, .int .i64 1, .bool true]) (by simp [results, Tryz.results69, go_sem]) rfl ?_
        exact ⟨rfl, hX.trans hx2⟩
    · have b5 : (pk == 5) = false := by simp [h5]
      have HE : Hid (R = (0, 0, false)) := by unfold Hid; rw [HR.out]; simp only [stF]; rw [if_neg h0, if_neg (fun h => h5 h.1)]
      clear h0 h5
      go_wp2_with fail
      refine wp_region_ext (by kernel_rfl) (by kernel_rfl) ?_
      repeat (go_big_quiet_step ((go_at_call 58; exact Calls.sameR (SAU _ _))))
      refine wpQuiet_nil ?_
      intro w2 hx2
      go_wp2
      rw [HE.out]
      refine bodyPost_ret (v := .tuple #[.int .i64 0, .int .i64 0, .bool false]) (by simp [results, Tryz.results69, go_sem]) rfl ?_
      exact ⟨rfl, hX.trans hx2⟩
end Go.Proofs.YtjcfmlecfjmcgaaGreatDoor
end
