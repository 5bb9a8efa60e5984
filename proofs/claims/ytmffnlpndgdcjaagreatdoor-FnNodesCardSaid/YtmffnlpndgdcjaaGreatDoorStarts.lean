/- Contract of the reference's list of the nodes before a node. The machine is valid, the node is valid.
Contract of the reference's list of the nodes at which a machine halts. The machine is valid.
Plain words on the reference's search: how its list grows in memory, and when it ends.
Contract of the reference's search. The machine is valid. -/
import Derived.Test.YtmffnlpndgdcjaaGreatDoorBack
namespace Go.Proofs.YtmffnlpndgdcjaaGreatDoor
open Go Go.RowKit Go.Proofs
set_option maxHeartbeats 400000
set_option maxRecDepth 20000 in
set_option maxHeartbeats 4000000 in
theorem l26Backs_c (b : Nat) (m : MachD) (rv : Value) (xv : Value) (x : List Int) (n : Nat) (w : World) (hM : MachBlk w b m rv) (hr : Rules w rv m.rules) (hxv : Ints w xv x) (hmk : MOk m) (hx : NodeOk m.sy m.st n x) (n1 : 1 ≤ n) (n2 : n ≤ 9) :
    Calls Tryz.prog 49 #[.pointer (some ⟨b, 0, none⟩), xv] w fun e w' => ∃ u, e = .returned u ∧ OwnIntRows w.heap.size w' u (predsTo m x m.rules.length) ∧ Ext w w' := by
  obtain ⟨Ar, cr, rfl, h3, h3'⟩ := hr.form
  obtain ⟨Ax, cx, rfl, _, _⟩ := hxv.form
  obtain ⟨i0, hi, hz0, hz1, hz2⟩ := info_parts rowInfo
  have hl6 := hmk.len2
  have HMK := Lib.hid hmk
  have HX := Lib.hid hx
  clear hmk hx
  have hown0 : (w.alloc (.cells #[] 35)).ownsRow w.heap.size 35 1 (.slice (some ⟨w.heap.size, 0, none⟩) 0 0) 0 [] :=
    World.ownsRow_made (base := w.heap.size) (e := 35) (size := 1) w #[] 0 (by simp) (by unfold maxLen; omega) (by simp)
  go_enter Tryz.func49, Tryz.ntmps49
  go_wp2
  go_loopw [5, 6] (fun l i wr => ∃ k : Nat, k ≤ m.rules.length ∧ i = .int .i64 k ∧ Ext w wr ∧ OwnIntRows w.heap.size wr l (predsTo m x k)) (fun _ i _ => m.rules.length - (intOf i).toNat)
  case atStart => exact ⟨0, Nat.zero_le _, rfl, Ext.alloc _ _, ⟨[], hown0, fun i hi => by simp [predsTo] at hi, fun i j u u' g hi => by simp at hi⟩⟩
  case round =>
    clear hown0
    obtain ⟨k, hk, rfl, hX, ho⟩ := hrel
    obtain ⟨Al, cl, rfl, h6, h6'⟩ := ho.rows.form
    have hpl := predsTo_length m x k
    have bM := Blk.ext hM hX
    have cM2 := bM.cell 2
    simp only [List.getElem?_toArray, List.getElem?_cons_zero, List.getElem?_cons_succ] at cM2
    by_cases hlt : k < m.rules.length
    · have HE := Lib.hid (predsTo_back (x := x) hlt)
      have hL2 : (predsTo m x k).length ≤ 6000 := by omega
      go_wp2_with fail
      refine (l26Back_c b m _ _ x n k wr bM (hr.ext hX) (hxv.ext hX) HMK.out HX.out n1 n2 hlt).mono ?_
      rintro e w2 ⟨u, ok, rfl, hok, hres, ⟨A4, n4, c4, rfl⟩, hx2⟩
      have hX2 := hX.trans hx2
      have ho2 := ho.ext hx2
      cases hb : backOf m x k with
      | none =>
        rw [hb] at HE
        have hbs : ok = false := by rw [hok, hb]; rfl
        subst hbs
        clear hb hres hok
        go_wp2
        go_roundw
        case rel => exact ⟨k + 1, by omega, by go_num, hX2, by rw [HE.out]; exact ho2⟩
        case measure => simp [intOf]; omega
      | some y =>
        rw [hb] at HE
        have hbs : ok = true := by rw [hok, hb]; rfl
        subst hbs
        have hy := hres y hb
        clear hb hres hok
        go_wp2_with fail
        refine (l10Row_c _ _ _ _ y ho2.rows hy.ints).mono ?_
        rintro e w5 ⟨⟨kk, rfl, hkk⟩, hx5⟩
        have hX5 := hX2.trans hx5
        have ho5 := ho2.ext hx5
        have hy5 := hy.ext hx5
        by_cases hin : y ∈ predsTo m x k
        · have hinb : decide (kk < 0) = false := by rw [hkk]; simp [hin]
          have HA := Lib.hid (show addNew (predsTo m x k) (some y) = predsTo m x k by simp [addNew, hin])
          clear hin hkk
          go_wp2
          go_roundw
          case rel => exact ⟨k + 1, by omega, by go_num, hX5, by rw [HE.out, HA.out]; exact ho5⟩
          case measure => simp [intOf]; omega
        · have hinb : decide (kk < 0) = true := by rw [hkk]; simp [hin]
          have HA := Lib.hid (show addNew (predsTo m x k) (some y) = predsTo m x k ++ [y] by simp [addNew, hin])
          clear hin hkk
          obtain ⟨vs, p1, p2, o3⟩ := ho
          have hne := rows_ne (xss := predsTo m x k) p1 rfl p2 hy5
          have o1 := ownsRow_ext p1 (hx2.trans hx5)
          have o2 : ∀ i, (h : i < (predsTo m x k).length) → ∃ u, vs[i]? = some u ∧ OwnInts w.heap.size w5 u (predsTo m x k)[i] := fun i hi => by
            obtain ⟨u', e, hu'⟩ := p2 i hi
            exact ⟨u', e, hu'.ext (hx2.trans hx5)⟩
          clear p1 p2 ho5 ho2
          have hsz := hX5.size
          have hszr := hX.size
          go_wp2_with (at_builtin; refine wpList_append_own _ rfl _ _ 29 rfl w.heap.size 35 i0 (.slice none 0 0) 1 24 Tryz.underlying29 hi hz0 hz1 hz2 rfl (by decide) _ _ _ rfl (o1.alloc _) ⟨w5.heap.size, 0, none⟩ 1 1 [.slice A4 n4 c4] rfl rfl ?c1 ?c2 ?c3 ?c4 ?c5 ?_)
          case c1 =>
            intro j u hj
            match j, hj with
            | 0, hj => simp at hj; subst hj; simp [Addr.add]
          case c2 => intro u hu; simp at hu; subst hu; rfl
          case c3 => unfold maxLen; omega
          case c4 => omega
          case c5 => simp; omega
          intro v' w6 hown' hgrow _
          have hX6 : Ext w w6 := hX5.grown (grownBy_trans (World.grownBy_alloc _ _ _) hgrow) (fun b hb => (o1.lt b hb).1)
          have R : OwnIntRows w.heap.size w6 v' (predsTo m x (k + 1)) := by
            rw [HE.out, HA.out]
            refine OwnIntRows.snoc (u := .slice A4 n4 c4) (o1.alloc _) (fun i hi => ?_) o3 ((hy5.ext (Ext.alloc _ _)).base hszr) hne hown' hgrow
            obtain ⟨u', e, hu'⟩ := o2 i hi
            exact ⟨u', e, hu'.ext (Ext.alloc _ _)⟩
          clear o1 o2 o3 hown' hgrow hy5 hne
          go_wp2
          go_roundw
          case rel => exact ⟨k + 1, by omega, by go_num, hX6, R⟩
          case measure => simp [intOf]; omega
    · have hke : k = m.rules.length := by omega
      have HK := Lib.hid hke
      clear hke hpl
      go_wp2
      go_ret
      exact ⟨_, rfl, by rw [← HK.out]; exact ho, hX⟩
end Go.Proofs.YtmffnlpndgdcjaaGreatDoor
namespace Go.Proofs.YtmffnlpndgdcjaaGreatDoor
open Go Go.RowKit Go.Proofs
set_option maxHeartbeats 400000
/-- The node as the reference builds it. -/
theorem segNode_build (n : Nat) (h q y : Int) (h0 : 0 ≤ h) (h1 : h < n) : segNode (List.replicate (n + 2) (-1)) h q y = ([h, q] ++ List.replicate n (-1)).set (2 + h).toNat y := by
  unfold segNode
  rw [if_pos (by simp; omega)]
  rfl
set_option maxRecDepth 20000 in
set_option maxHeartbeats 4000000 in
theorem l26Starts_c (b : Nat) (m : MachD) (rv : Value) (n : Nat) (w : World) (hM : MachBlk w b m rv) (hr : Rules w rv m.rules) (hmk : MOk m) (n1 : 1 ≤ n) (n2 : n ≤ 9) :
    Calls Tryz.prog 47 #[.pointer (some ⟨b, 0, none⟩), .int .i64 n] w fun e w' => ∃ u, e = .returned u ∧ OwnIntRows w.heap.size w' u (startsIn m n) ∧ Ext w w' := by
  obtain ⟨i0, hi, hz0, hz1, hz2⟩ := info_parts rowInfo
  obtain ⟨i1, hj, hy0, hy1, hy2⟩ := info_parts intInfo
  have hps : (partsOf m.sy (freeTo m.rules m.rules.length)).length ≤ 6000 := by have := freeTo_length m.rules m.rules.length; have := hmk.len2; simp [partsOf]; omega
  have hown0 : (w.alloc (.cells #[] 35)).ownsRow w.heap.size 35 1 (.slice (some ⟨w.heap.size, 0, none⟩) 0 0) 0 [] :=
    World.ownsRow_made (base := w.heap.size) (e := 35) (size := 1) w #[] 0 (by simp) (by unfold maxLen; omega) (by simp)
  go_enter Tryz.func47, Tryz.ntmps47
  go_wp2_with fail
  refine (l26Halting_c b m rv _ (Blk.ext hM (Ext.alloc _ _)) (hr.ext (Ext.alloc _ _)) hmk.len2 hmk.sy1 hmk.sy2).mono ?_
  rintro e w1 ⟨u, rfl, hu, hx1⟩
  have hX : Ext w w1 := (Ext.alloc _ _).trans hx1
  have hown1 := ownsRow_ext hown0 hx1
  have HZ : Hid (startsIn m n = startsOf n (partsOf m.sy (freeTo m.rules m.rules.length))) := rfl
  generalize partsOf m.sy (freeTo m.rules m.rules.length) = ps at *
  obtain ⟨bz, hu⟩ : ∃ bz, OwnParts bz w1 u ps := ⟨_, hu⟩
  obtain ⟨Az, cz, rfl, h5, h5'⟩ := hu.form
  obtain ⟨hh, hd0⟩ : ∃ q, (n : Int) / 2 = q := ⟨_, rfl⟩
  have hd1 : (n : Int).tdiv 2 = hh := by rw [Int.tdiv_eq_ediv_of_nonneg (by omega)]; exact hd0
  have hd2 : IntKind.i64.wrap hh = hh := IntWalk.i64_in _ (by omega)
  have hd3 : 0 ≤ hh := by omega
  have hd4 : hh < n := by omega
  have HD := Lib.hid hd0
  clear hd0 hx1 hr hM hown0
  go_wp2
  go_loopw [5, 7] (fun l i wr => ∃ k : Nat, k ≤ ps.length ∧ i = .int .i64 k ∧ Ext w wr ∧ OwnParts bz wr (.slice Az ps.length cz) ps ∧ OwnIntRows w.heap.size wr l (startsOf n (ps.take k))) (fun _ i _ => ps.length - (intOf i).toNat)
  case atStart => exact ⟨0, Nat.zero_le _, rfl, hX, hu, ⟨[], by simpa [startsOf] using hown1, fun i hi => by simp [startsOf] at hi, fun i j u u' g hi => by simp at hi⟩⟩
  case round =>
    clear hX hu hown1
    obtain ⟨k, hk, rfl, hX, hu, ho⟩ := hrel
    have hsl : (startsOf n (ps.take k)).length = k := by simp [startsOf]; omega
    obtain ⟨Al, cl, rfl, h6, h6'⟩ := ho.rows.form
    by_cases hlt : k < ps.length
    · obtain ⟨gz, rfl, bc, c0, c1, c2, c3⟩ := hu.at hlt
      have HP := Lib.hid (startsOf_take n ps k hlt)
      have HL := Lib.hid hsl
      have hkl : (startsOf n (ps.take k)).length ≤ 6000 := by omega
      clear hsl
      rw [HD.out] at HP
      generalize hps1 : ps[k].1 = pq at *
      generalize hps2 : ps[k].2 = py at *
      clear hps1 hps2
      have hownx : (wr.alloc (.cells #[.int .i64 hh, .int .i64 pq] 2)).ownsRow wr.heap.size 2 1 (.slice (some ⟨wr.heap.size, 0, none⟩) 2 2) 2 (ivs ([hh, pq] ++ List.replicate 0 (-1))) :=
        ⟨by simp [ivs], .inr ⟨wr.heap.size, 2, #[.int .i64 hh, .int .i64 pq], rfl, Nat.le_refl _, heap_alloc_new wr _, by omega, by unfold maxLen; omega, rfl, by simp [ivs]⟩⟩
      have HO := Lib.hid ho
      have HU := Lib.hid hu
      clear ho hu
      generalize wr = W0 at *
      go_wp2
      go_loopw [8, 9] (fun x i2 wx => ∃ j : Nat, j ≤ n ∧ i2 = .int .i64 j ∧ Ext W0 wx ∧ OwnInts W0.heap.size wx x ([hh, pq] ++ List.replicate j (-1))) (fun _ i2 _ => n - (intOf i2).toNat)
      case atStart => exact ⟨0, Nat.zero_le _, rfl, Ext.alloc _ _, hownx⟩
      case round =>
        clear hownx
        obtain ⟨j, hjn, rfl, hxx, hox⟩ := hrel
        obtain ⟨Ax, cx, rfl, h7, h7'⟩ := hox.ints.form
        by_cases hlt2 : j < n
        · have hlx : ([hh, pq] ++ List.replicate j (-1 : Int)).length ≤ 11 := by simp; omega
          have HR : Hid ([hh, pq] ++ List.replicate (j + 1) (-1 : Int) = ([hh, pq] ++ List.replicate j (-1)) ++ [-1]) := by unfold Hid; rw [List.replicate_succ']; simp
          generalize [hh, pq] ++ List.replicate j (-1 : Int) = L at *
          have hszx := hxx.size
          go_wp2_with (at_builtin; refine wpList_append_own _ rfl _ _ 35 rfl W0.heap.size 2 i1 (.int .i64 0) 1 8 Tryz.underlying35 hj hy0 hy1 hy2 rfl (by decide) _ _ _ rfl (hox.alloc _) ⟨wr.heap.size, 0, none⟩ 1 1 [.int .i64 (-1)] rfl rfl ?c1 ?c2 ?c3 ?c4 ?c5 ?_)
          case c1 =>
            intro j u hj
            match j, hj with
            | 0, hj => simp at hj; subst hj; simp [Addr.add]
          case c2 => intro u hu; simp at hu; subst hu; rfl
          case c3 => unfold maxLen; omega
          case c4 => omega
          case c5 => simp; omega
          intro v' w3 hown' hgrow _
          have hX3 : Ext W0 w3 := hxx.grown (grownBy_trans (World.grownBy_alloc _ _ _) hgrow) (fun b hb => (hox.lt b hb).1)
          have R : OwnInts W0.heap.size w3 v' ([hh, pq] ++ List.replicate (j + 1) (-1)) := by
            rw [HR.out]
            unfold OwnInts
            rw [ivs_append, List.length_append]
            exact hown'
          clear hown' hgrow hox
          go_wp2
          go_roundw
          case rel => exact ⟨j + 1, by omega, by go_num, hX3, R⟩
          case measure => simp [intOf]; omega
        · have hje : j = n := by omega
          subst hje
          have HN : Hid (segNode (List.replicate (j + 2) (-1)) hh pq py = ([hh, pq] ++ List.replicate j (-1)).set (2 + hh).toNat py) := segNode_build j hh pq py hd3 hd4
          have hlx : 3 ≤ ([hh, pq] ++ List.replicate j (-1 : Int)).length := by simp; omega
          have hly : ([hh, pq] ++ List.replicate j (-1 : Int)).length ≤ 11 := by simp; omega
          have hlz : 2 + hh < (([hh, pq] ++ List.replicate j (-1 : Int)).length : Nat) := by simp; omega
          generalize [hh, pq] ++ List.replicate j (-1 : Int) = L at *
          obtain ⟨h, rfl⟩ := Int.eq_ofNat_of_zero_le hd3
          have ej : (2 + (h : Int)).toNat = 2 + h := by omega
          rw [ej] at HN
          clear ej
          have hlz' : 2 + h < L.length := by omega
          have hwr : IntKind.i64.wrap (2 + (h : Int)) = 2 + (h : Int) := IntWalk.i64_in _ (by omega)
          obtain ⟨gx, rfl, hgb, hgl⟩ := own_at hox (by omega)
          have p0 := hox.cellAt (2 + h) (by omega)
          rw [ivs_get _ (2 + h) hlz'] at p0
          have z0 := hox.frozenAt (2 + h)
          have hE := hxx.setCell (p := ⟨gx, 2 + h, none⟩) hgb (.int .i64 py)
          have o7 := (hox.stored (2 + h) (.int .i64 py)).1
          rw [← ivs_set] at o7
          have k2 := hxx.cell c2
          have k3 := (c3.ext hxx).cell 0
          simp only [List.getElem?_toArray, List.getElem?_cons_zero] at k3
          have hX' := hX.trans hE
          have hy : OwnInts W0.heap.size (wr.setCell ⟨gx, 2 + h, none⟩ (.int .i64 py)) (.slice (some ⟨gx, 0, none⟩) L.length cx) (L.set (2 + h) py) := by
            show World.ownsRow _ _ _ _ _ _ _
            simpa using o7
          obtain ⟨vs, p1, p2, o3⟩ := HO.out
          have hne := rows_ne (xss := startsOf j (ps.take k)) p1 rfl p2 hy
          have o1 := ownsRow_ext p1 hE
          have o2 : ∀ i, (h : i < (startsOf j (ps.take k)).length) → ∃ u, vs[i]? = some u ∧ OwnInts w.heap.size _ u (startsOf j (ps.take k))[i] := fun i hi => by
            obtain ⟨u', e, hu'⟩ := p2 i hi
            exact ⟨u', e, hu'.ext hE⟩
          have hup := HU.out.ext hE
          have hszr := hX.size
          have hszx := hX'.size
          clear p1 p2 c0 c1 c2 c3 hox o7
          go_wp2_with (at_builtin; refine wpList_append_own _ rfl _ _ 29 rfl w.heap.size 35 i0 (.slice none 0 0) 1 24 Tryz.underlying29 hi hz0 hz1 hz2 rfl (by decide) _ _ _ rfl (o1.alloc _) ⟨wr.heap.size, 0, none⟩ 1 1 [.slice (some ⟨gx, 0, none⟩) L.length cx] rfl rfl ?c1 ?c2 ?c3 ?c4 ?c5 ?_)
          case c1 =>
            have := cell_one_new (wr.setCell ⟨gx, 2 + h, none⟩ (.int .i64 py)) (.slice (some ⟨gx, 0, none⟩) L.length cx) 35
            simpa using this
          case c2 => intro u hu; simp at hu; subst hu; rfl
          case c3 => unfold maxLen; omega
          case c4 => omega
          case c5 => simp at hszx; simp; omega
          intro v' w6 hown' hgrow _
          have hX6 : Ext w w6 := hX'.grown (grownBy_trans (World.grownBy_alloc _ _ _) hgrow) (fun b hb => (o1.lt b hb).1)
          have R : OwnIntRows w.heap.size w6 v' (startsOf j (ps.take (k + 1))) := by
            rw [HP.out, HN.out]
            refine OwnIntRows.snoc (u := .slice (some ⟨gx, 0, none⟩) L.length cx) (o1.alloc _) (fun i hi => ?_) o3 ((hy.ext (Ext.alloc _ _)).base hszr) hne hown' hgrow
            obtain ⟨u', e, hu'⟩ := o2 i hi
            exact ⟨u', e, hu'.ext (Ext.alloc _ _)⟩
          have hup6 := OwnParts.apart (hup.ext (Ext.alloc _ _)) (o1.alloc _) hgrow
          clear o1 o2 o3 hown' hgrow hy hne hup
          go_wp2
          go_roundw
          case rel => exact ⟨k + 1, by omega, by go_num, hX6, hup6, R⟩
          case measure => simp [intOf]; omega
    · have HK := Lib.hid (show ps.take k = ps from List.take_of_length_le (by omega))
      clear hsl
      go_wp2
      go_ret
      refine ⟨_, rfl, ?_, hX⟩
      have e : startsOf n ps = startsOf n (ps.take k) := by rw [HK.out]
      rw [HZ.out, e]
      exact ho
end Go.Proofs.YtmffnlpndgdcjaaGreatDoor
namespace Go.Proofs.YtmffnlpndgdcjaaGreatDoor
open Go Go.RowKit Go.Proofs
set_option maxHeartbeats 400000
theorem results_tmp4 {fn : Func} {t u v x : Tmp} (h : fn.results = #[.tmp t, .tmp u, .tmp v, .tmp x]) (tmps : Array Value) (P : Program) (w : World) :
    (results fn tmps).run P w = .ok (.tuple #[tmps.getD t undef, tmps.getD u undef, tmps.getD v undef, tmps.getD x undef]) w := by
  simp [results, h]
/-- The list while the rows of another list are taken in. -/
structure GrowInv (B1 : Nat) (w : World) (lv : Value) (list : List (List Int)) (us : List Value) (k : Nat) (nodes : List (List Int)) (nv : Value) (vs : List Value) (wr : World) : Prop where
  rest : Rest w.heap.size B1 0 lv list us nodes nv vs wr
  apart : ∀ (i j : Nat) (u u' : Value) (g : Nat), vs[i]? = some u → vs[j]? = some u' → u.ownBlock = some g → u'.ownBlock = some g → i = j
  old : ∀ (i : Nat) (u : Value) (g : Nat), vs[i]? = some u → u.ownBlock = some g → g < B1 ∨ ∃ j u', j < k ∧ us[j]? = some u' ∧ u'.ownBlock = some g
  outer : nv.ownBlock = none ∨ nv.ownBlock ≠ lv.ownBlock
  ex : Ext w wr
section
variable {B1 : Nat} {w : World} {lv : Value} {list : List (List Int)} {us : List Value} {k : Nat} {nodes : List (List Int)} {nv : Value} {vs : List Value} {wr wr' : World}
theorem GrowInv.ext (h : GrowInv B1 w lv list us k nodes nv vs wr) (he : Ext wr wr') : GrowInv B1 w lv list us k nodes nv vs wr' := ⟨h.rest.ext he, h.apart, h.old, h.outer, h.ex.trans he⟩
theorem GrowInv.rows (h : GrowInv B1 w lv list us k nodes nv vs wr) : OwnIntRows w.heap.size wr nv nodes := ⟨vs, h.rest.own, h.rest.rows, h.apart⟩
theorem GrowInv.skip (h : GrowInv B1 w lv list us k nodes nv vs wr) : GrowInv B1 w lv list us (k + 1) nodes nv vs wr :=
  ⟨h.rest, h.apart, fun i u g a b => by
    rcases h.old i u g a b with c | ⟨j, u', c, d⟩
    · exact .inl c
    · exact .inr ⟨j, u', by omega, d⟩, h.outer, h.ex⟩
theorem GrowInv.start {W : World} (ho : OwnIntRows w.heap.size W nv nodes) (hx : Ext w W) (he : Ext W wr) (u1 : wr.ownsRow W.heap.size 35 1 lv list.length us) (u2 : ∀ i, (h : i < list.length) → ∃ u, us[i]? = some u ∧ OwnInts W.heap.size wr u list[i]) :
    ∃ vs, GrowInv W.heap.size w lv list us 0 nodes nv vs wr := by
  obtain ⟨vs, o1, o2, o3⟩ := ho
  refine ⟨vs, ⟨ownsRow_ext o1 he, fun i hi => by obtain ⟨u, e, hu⟩ := o2 i hi; exact ⟨u, e, hu.ext he⟩, u1, u2⟩, o3, fun i u g hi hg => ?_, ?_, hx.trans he⟩
  · have hl := o1.1
    have hil : i < nodes.length := by have := (List.getElem?_eq_some_iff.1 hi).1; omega
    obtain ⟨u', e, hu'⟩ := o2 i hil
    rw [hi] at e
    injection e with e
    subst e
    exact .inl (hu'.lt g hg).2
  · cases hn : nv.ownBlock with
    | none => exact .inl rfl
    | some g =>
      refine .inr fun he => ?_
      have a1 := (o1.lt g hn).2
      have a2 := (u1.lt g he.symm).1
      omega
theorem GrowInv.added {w4 : World} {o : Obj} {u : Value} {y : List Int} {v' : Value} (hB : w.heap.size ≤ B1) (h : GrowInv B1 w lv list us k nodes nv vs wr)
    (hap : ∀ (i j : Nat) (u u' : Value) (g : Nat), us[i]? = some u → us[j]? = some u' → u.ownBlock = some g → u'.ownBlock = some g → i = j)
    (hu : us[k]? = some u) (hru : OwnInts B1 wr u y) (hlw : ∀ g, lv.ownBlock = some g → g < wr.heap.size)
    (hown : w4.ownsRow w.heap.size 35 1 v' (nodes.length + 1) (vs ++ [u])) (hg : (wr.alloc o).grownBy w4 nv.ownBlock) (hloc : v'.ownBlock = nv.ownBlock ∨ v'.ownBlock = some (wr.alloc o).heap.size) :
    GrowInv B1 w lv list us (k + 1) (nodes ++ [y]) v' (vs ++ [u]) w4 := by
  have hown' := hown
  obtain ⟨A', c', rfl, _, _, _⟩ := (ownsRow_row hown).form
  obtain ⟨g', rfl, hgb, hgl⟩ := own_at hown (by omega)
  have R4 := (h.rest.ext (Ext.alloc wr o)).snoc hB h.outer (hru.ext (Ext.alloc wr o)) hown hg
  have own3 := h.rest.own.alloc o
  have hb4 : Ext w w4 := (h.ex.trans (Ext.alloc wr o)).grown hg (fun b hb => (own3.lt b hb).1)
  have hl := h.rest.own.1
  have hne : ∀ (i : Nat) (u' : Value) (g : Nat), vs[i]? = some u' → u'.ownBlock = some g → u.ownBlock ≠ some g := by
    intro i u' g hi hgu he
    rcases h.old i u' g hi hgu with hlt | ⟨j, u'', hj, hj', hgj⟩
    · have := (hru.lt g he).1
      omega
    · have := hap j k u'' u g hj' hu hgj he
      omega
  refine ⟨R4, apart_snoc (nodes := nodes) (by omega) h.apart hne, ?_, ?_, hb4⟩
  · intro i x g hi hgx
    by_cases hlt : i < vs.length
    · rw [List.getElem?_append_left hlt] at hi
      rcases h.old i x g hi hgx with c | ⟨j, x', c, d⟩
      · exact .inl c
      · exact .inr ⟨j, x', by omega, d⟩
    · rw [List.getElem?_append_right (by omega)] at hi
      have := (List.getElem?_eq_some_iff.1 hi).1
      have e : i - vs.length = 0 := by simp at this; omega
      rw [e] at hi
      simp at hi
      subst hi
      exact .inr ⟨k, u, by omega, hu, hgx⟩
  · rcases hloc with e | e
    · rw [e]; exact h.outer
    · refine .inr fun he => ?_
      have := hlw _ (he ▸ e)
      simp at this
      omega
end
/-- The reference's search stops at the beginning of step k. -/
def stopS (m : MachD) (n : Nat) (bud : Int) (ea : Bool) (k : Nat) : Prop := ((iterS m n k).2 = true ∧ ea = true) ∨ 2000 < (iterS m n k).1.length ∨ (k : Int) = bud
def FindEnds (m : MachD) (n : Nat) (bud : Int) (ea : Bool) (k : Nat) : Prop := (∀ j < k, j < (iterS m n j).1.length ∧ ¬ stopS m n bud ea j) ∧ (¬ k < (iterS m n k).1.length ∨ stopS m n bud ea k)
def FindSRes (w : World) (m : MachD) (n : Nat) (bud : Int) (ea : Bool) (e : Ending) (w' : World) : Prop :=
  ∃ k, FindEnds m n bud ea k ∧ (∃ u, e = .returned (.tuple #[u, .bool (!(iterS m n k).2), .int .i64 (if k < (iterS m n k).1.length then k else (iterS m n k).1.length), .bool (!decide (k < (iterS m n k).1.length) && decide ((iterS m n k).1.length ≤ 2000))]) ∧ OwnIntRows w.heap.size w' u (iterS m n k).1) ∧ Ext w w'
end Go.Proofs.YtmffnlpndgdcjaaGreatDoor
namespace Go.Proofs.YtmffnlpndgdcjaaGreatDoor
open Go Go.RowKit Go.Proofs
set_option maxHeartbeats 400000
theorem any_take {l : List (List Int)} {k : Nat} (h : k < l.length) (f : List Int → Bool) : (l.take (k + 1)).any f = ((l.take k).any f || f l[k]) := by
  rw [List.take_succ_eq_append_getElem h, List.any_append]; simp
set_option maxRecDepth 20000 in
set_option maxHeartbeats 4000000 in
theorem l26Find_c (b : Nat) (m : MachD) (rv : Value) (n : Nat) (bud : Int) (ea : Bool) (w : World) (hM : MachBlk w b m rv) (hr : Rules w rv m.rules) (hmk : MOk m) (n1 : 1 ≤ n) (n2 : n ≤ 9) :
    Calls Tryz.prog 24 #[.pointer (some ⟨b, 0, none⟩), .int .i64 n, .int .i64 bud, .bool ea] w (FindSRes w m n bud ea) := by
  obtain ⟨i0, hi, hz0, hz1, hz2⟩ := info_parts rowInfo
  go_enter Tryz.func24, Tryz.ntmps24
  go_wp2_with fail
  refine (l26Starts_c b m rv n w hM hr hmk n1 n2).mono ?_
  rintro e w1 ⟨u, rfl, ho, hX1⟩
  have HI := Lib.hid (iterS_zero hmk n1)
  have HS := Lib.hid (starts_ok hmk n1)
  have hsl := startsIn_length m n
  have hl6 := hmk.len2
  have HMK := Lib.hid hmk
  clear hmk
  generalize startsIn m n = ls at *
  obtain ⟨Al, cl, rfl, h6, h6'⟩ := ho.rows.form
  go_wp2
  go_loopw [13, 14] (fun p i wr => ∃ k : Nat, k ≤ ls.length ∧ i = .int .i64 k ∧ p = .bool (!(ls.take k).any mayB) ∧ Ext w1 wr) (fun _ i _ => ls.length - (intOf i).toNat)
  case atStart => exact ⟨0, Nat.zero_le _, rfl, by simp, Ext.refl _⟩
  case round =>
    obtain ⟨k, hk, rfl, rfl, hx2⟩ := hrel
    by_cases hlt : k < ls.length
    · obtain ⟨b', off, rfl, hc⟩ := ho.rows.at hlt
      obtain ⟨A1, d1, c0, r0⟩ := hc k hlt
      have c0 := hx2.cell c0
      have r0 := r0.ext hx2
      have HA := Lib.hid (any_take hlt mayB)
      have hms := mayS_eq (HS.out ls[k] (List.getElem_mem hlt))
      have h3l : 3 ≤ ls[k].length := by have := (HS.out ls[k] (List.getElem_mem hlt)).len; omega
      generalize ls[k] = y at *
      clear hc
      cases hq : (ls.take k).any mayB with
      | true =>
        rw [hq] at HA
        clear hq
        go_wp2
        go_roundw
        case rel => exact ⟨k + 1, by omega, by go_num, by rw [HA.out]; rfl, hx2⟩
        case measure => simp [intOf]; omega
      | false =>
        rw [hq] at HA
        clear hq
        go_wp2_with fail
        refine (l26May_c _ y _ r0 h3l).mono ?_
        rintro e w' ⟨rfl, rfl⟩
        rw [hms]
        go_wp2
        go_roundw
        case rel => exact ⟨k + 1, by omega, by go_num, by rw [HA.out]; simp, hx2⟩
        case measure => simp [intOf]; omega
    · have HK := Lib.hid (show ls.take k = ls from List.take_of_length_le (by omega))
      have ho2 := ho.ext hx2
      have hX2 := hX1.trans hx2
      clear ho
      rw [HK.out]
      generalize hab : ls.any mayB = ab at *
      generalize wr = W2 at *
      go_wp2
      go_loopw [12, 13, 15] (fun l p i wr => ∃ (k : Nat) (s : List (List Int) × Bool), s = iterS m n k ∧ i = .int .i64 k ∧ p = .bool (!s.2) ∧ (∀ j < k, j < (iterS m n j).1.length ∧ ¬ stopS m n bud ea j) ∧ s.1.length ≤ 8000 ∧ OwnIntRows w.heap.size wr l s.1 ∧ Ext w wr) (fun _ _ i _ => 2001 - (intOf i).toNat)
      case atStart => exact ⟨0, (ls, ab), by rw [HI.out], rfl, rfl, fun j hj => by omega, by simp; omega, ho2, hX2⟩
      case round =>
        clear ho2 hX2 HI hx2
        obtain ⟨k, s, hsk, rfl, rfl, hgo, hs8, ho, hX⟩ := hrel
        obtain ⟨Am, cm, rfl, h7, h7'⟩ := ho.rows.form
        have HSK := Lib.hid hsk
        have HGO := Lib.hid hgo
        clear hsk hgo
        by_cases hlt2 : k < s.1.length
        · have HLT := Lib.hid hlt2
          obtain ⟨p, hp⟩ : ∃ p, (!s.2) = p := ⟨_, rfl⟩
          rw [hp]
          have HP := Lib.hid hp
          clear hp
          go_upto_region 10 with fail
          go_cut [56] (fun v wx => v = .bool ((!p && ea) || decide (2000 < s.1.length) || ((k : Int) == bud)) ∧ wx = wr)
          case first =>
            cases p with
            | true =>
              by_cases h2 : 2000 < s.1.length
              · have t1 : decide (2000 < s.1.length) = true := by simp [h2]
                go_wp2_with fail
                go_meet
                exact ⟨by simp [h2] <;> (intros; omega), rfl⟩
              · have t1 : decide (2000 < s.1.length) = false := by simp [h2]
                go_wp2_with fail
                go_meet
                exact ⟨by simp [h2] <;> (intros; omega), rfl⟩
            | false =>
              cases ea with
              | true =>
                go_wp2_with fail
                go_meet
                exact ⟨by simp, rfl⟩
              | false =>
                by_cases h2 : 2000 < s.1.length
                · have t1 : decide (2000 < s.1.length) = true := by simp [h2]
                  go_wp2_with fail
                  go_meet
                  exact ⟨by simp [h2] <;> (intros; omega), rfl⟩
                · have t1 : decide (2000 < s.1.length) = false := by simp [h2]
                  go_wp2_with fail
                  go_meet
                  exact ⟨by simp [h2] <;> (intros; omega), rfl⟩
          case rest =>
            obtain ⟨rfl, hww⟩ := hcut
            have hstop : ((!p && ea) || decide (2000 < s.1.length) || ((k : Int) == bud)) = true ↔ stopS m n bud ea k := by
              unfold stopS
              rw [← HSK.out, ← HP.out]
              simp [or_assoc]
            have HST := Lib.hid hstop
            clear hstop
            generalize ((!p && ea) || decide (2000 < s.1.length) || ((k : Int) == bud)) = q at *
            have hww' := hww.symm
            subst hww'
            clear hww
            cases q with
            | true =>
              have HE : Hid (FindEnds m n bud ea k) := ⟨HGO.out, .inr (HST.out.1 rfl)⟩
              go_wp2
              (try simp only [Exit.inBlock, Exit.then]); refine bodyPost_ret (results_tmp4 rfl _ _ _) rfl ?_
              refine ⟨k, HE.out, ⟨.slice Am s.1.length cm, ?_, ?_⟩, hX⟩
              · rw [← HSK.out]
                have e1 : (if k < s.1.length then (k : Int) else (s.1.length : Int)) = k := if_pos hlt2
                have e2 : (!decide (k < s.1.length) && decide (s.1.length ≤ 2000)) = false := by simp [hlt2]
                rw [e1, e2, HP.out]
                rfl
              · rw [← HSK.out]
                exact ho
            | false =>
              have hns : ¬ stopS m n bud ea k := fun h => by have := HST.out.2 h; cases this
              have hle : s.1.length ≤ 2000 := by
                have : ¬ 2000 < (iterS m n k).1.length := fun h => hns (.inr (.inl h))
                rw [← HSK.out] at this
                omega
              have HNS := Lib.hid hns
              clear hns HST
              have HNE : Hid (∀ j < k + 1, j < (iterS m n j).1.length ∧ ¬ stopS m n bud ea j) := fun j hj => by
                by_cases c : j = k
                · rw [c]; exact ⟨by rw [← HSK.out]; exact hlt2, HNS.out⟩
                · exact HGO.out j (by omega)
              have HNOK := Lib.hid (iterS_ok HMK.out n1 k (fun j hj => (HGO.out j hj).1))
              obtain ⟨b', off, rfl, hc⟩ := ho.rows.at hlt2
              obtain ⟨A1, d1, c0, r0⟩ := hc k hlt2
              have NOK := Lib.hid (HNOK.out s.1[k] (by rw [← HSK.out]; exact List.getElem_mem hlt2))
              have HST : Hid (iterS m n (k + 1) = addAll s (predsTo m s.1[k] m.rules.length)) := by
                show stepS m (iterS m n k) k = _
                rw [← HSK.out]
                unfold stepS
                rw [List.getD_eq_getElem?_getD, List.getElem?_eq_getElem hlt2]
                rfl
              generalize s.1[k] = y at *
              clear hc
              go_wp2_with fail
              refine (l26Backs_c b m rv _ y n wr (Blk.ext hM hX) (hr.ext hX) r0 HMK.out NOK.out n1 n2).mono ?_
              rintro e w5 ⟨u5, rfl, ⟨us, u1, u2, u3⟩, hx5⟩
              obtain ⟨vs, inv⟩ := GrowInv.start ho hX hx5 u1 u2
              have HU3 := Lib.hid u3
              have HPO := Lib.hid (predsTo_ok HMK.out n1 NOK.out m.rules.length (Nat.le_refl _))
              have hpl := predsTo_length m y m.rules.length
              have hB := hX.size
              clear c0 r0 u1 u2 u3 ho
              generalize predsTo m y m.rules.length = pr at *
              generalize wr = W3 at *
              obtain ⟨Ap, cp, rfl, h8, h8', _⟩ := (ownsRow_row inv.rest.lown).form
              go_wp2
              go_loopw [12, 13, 17] (fun l p i wr => ∃ q : Nat, q ≤ pr.length ∧ i = .int .i64 q ∧ ∃ vs, p = .bool (!(addAll s (pr.take q)).2) ∧ GrowInv W3.heap.size w (.slice Ap pr.length cp) pr us q (addAll s (pr.take q)).1 l vs wr) (fun _ _ i _ => pr.length - (intOf i).toNat)
              case atStart => exact ⟨0, Nat.zero_le _, rfl, vs, by simp [addAll, HP.out], by simpa [addAll] using inv⟩
              case round =>
                clear inv
                obtain ⟨q, hq, rfl, vs, rfl, inv⟩ := hrel
                by_cases hlt3 : q < pr.length
                · have HT := Lib.hid (addAll_take s pr q hlt3)
                  have hlen := (addAll_length s (pr.take q)).2
                  have hlen2 : (addAll s (pr.take q)).1.length ≤ 8000 := by simp at hlen; omega
                  obtain ⟨g, rfl, hgb, hgl⟩ := own_at inv.rest.lown (by omega)
                  obtain ⟨x, hxu, hrx⟩ := inv.rest.lrows q hlt3
                  have q0 := inv.rest.lown.cellAt q (by omega)
                  rw [hxu] at q0
                  have PNO := Lib.hid (HPO.out pr[q] (List.getElem_mem hlt3))
                  have hms := mayS_eq PNO.out
                  have h3l : 3 ≤ pr[q].length := by have := PNO.out.len; omega
                  obtain ⟨Ax, cx, rfl, _, _⟩ := hrx.ints.form
                  clear hlen
                  generalize addAll s (pr.take q) = t at *
                  generalize pr[q] = z at *
                  obtain ⟨Av, cv, rfl, h9, h9', _⟩ := (ownsRow_row inv.rest.own).form
                  go_wp2_with fail
                  refine (l10Row_c _ _ _ t.1 z inv.rows.rows hrx.ints).mono ?_
                  rintro e w6 ⟨⟨kk, rfl, hkk⟩, hx6⟩
                  have inv6 := inv.ext hx6
                  have hrx6 := hrx.ext hx6
                  have q6 := hx6.cell q0
                  by_cases hin : z ∈ t.1
                  · have hinb : decide (kk < 0) = false := by rw [hkk]; simp [hin]
                    have HA := Lib.hid (show addOne t z = t by simp [addOne, hin])
                    clear hin hkk
                    go_wp2
                    go_roundw
                    case rel => exact ⟨q + 1, by omega, by go_num, vs, by rw [HT.out, HA.out], by rw [HT.out, HA.out]; exact inv6.skip⟩
                    case measure => simp [intOf]; omega
                  · have hinb : decide (kk < 0) = true := by rw [hkk]; simp [hin]
                    have HA := Lib.hid (show addOne t z = (t.1 ++ [z], t.2 || mayB z) by simp [addOne, hin])
                    have hszx := inv6.ex.size
                    have hsx6 := hx6.size
                    have own6 := inv6.rest.own
                    clear hin hkk
                    go_wp2_with (at_builtin; refine wpList_append_own_at _ rfl _ _ 29 rfl w.heap.size 35 i0 (.slice none 0 0) 1 24 Tryz.underlying29 hi hz0 hz1 hz2 rfl (by decide) _ _ _ rfl (own6.alloc _) ⟨w6.heap.size, 0, none⟩ 1 1 [.slice Ax z.length cx] rfl rfl (cell_one_new _ _ _) ?c2 ?c3 ?c4 ?c5 ?_)
                    case c2 => intro u hu; simp at hu; subst hu; rfl
                    case c3 => unfold maxLen; omega
                    case c4 => omega
                    case c5 => simp; omega
                    intro v' w7 hown7 hg7 _ hloc
                    have hlw : ∀ g', (Value.slice (some ⟨g, 0, none⟩) pr.length cp).ownBlock = some g' → g' < w6.heap.size := fun g' hg' => by
                      simp [Value.ownBlock] at hg'; subst hg'
                      omega
                    have inv7 := GrowInv.added hB inv6 HU3.out hxu hrx6 hlw hown7 hg7 (by simpa using hloc)
                    obtain ⟨A', c', rfl, _, _, _⟩ := (ownsRow_row hown7).form
                    have r7 : Ints w7 (.slice Ax z.length cx) z := by
                      obtain ⟨x5, e5, h5⟩ := inv7.rest.rows t.1.length (by simp)
                      have hl5 := inv6.rest.own.1
                      rw [List.getElem?_append_right (by omega)] at e5
                      simp [hl5] at e5
                      subst e5
                      simpa using h5.ints
                    have q7 := inv7.rest.lown.cellAt q (by omega)
                    rw [hxu] at q7
                    have INV := Lib.hid inv7
                    clear inv7 inv6 inv own6 hown7 hg7 hloc q0 q6 hrx hrx6
                    cases hb : t.2 with
                    | true =>
                      rw [hb] at HA
                      clear hb
                      go_wp2
                      go_roundw
                      case rel => exact ⟨q + 1, by omega, by go_num, _, by rw [HT.out, HA.out]; rfl, by rw [HT.out, HA.out]; exact INV.out⟩
                      case measure => simp [intOf]; omega
                    | false =>
                      rw [hb] at HA
                      clear hb
                      go_wp2_with fail
                      refine (l26May_c _ z _ r7 h3l).mono ?_
                      rintro e w' ⟨rfl, rfl⟩
                      rw [hms]
                      go_wp2
                      go_roundw
                      case rel => exact ⟨q + 1, by omega, by go_num, _, by rw [HT.out, HA.out]; simp, by rw [HT.out, HA.out]; exact INV.out⟩
                      case measure => simp [intOf]; omega
                · have HK3 := Lib.hid (show pr.take q = pr from List.take_of_length_le (by omega))
                  have hlen := (addAll_length s pr).2
                  have HF : Hid (iterS m n (k + 1) = addAll s (pr.take q)) := by unfold Hid; rw [HST.out, HK3.out]
                  have hlen2 : (addAll s (pr.take q)).1.length ≤ 8000 := by rw [HK3.out]; omega
                  clear hlen
                  generalize addAll s (pr.take q) = t at *
                  have hro := inv.rows
                  have hex := inv.ex
                  clear inv
                  go_wp2
                  go_roundw
                  case rel => exact ⟨k + 1, t, HF.out.symm, by go_num, rfl, HNE.out, hlen2, hro, hex⟩
                  case measure => simp [intOf]; omega
        · have hE : FindEnds m n bud ea k := ⟨HGO.out, .inl (by rw [← HSK.out]; exact hlt2)⟩
          have HE := Lib.hid hE
          clear hE
          go_wp2
          (try simp only [Exit.inBlock, Exit.then]); refine bodyPost_ret (results_tmp4 rfl _ _ _) rfl ?_
          refine ⟨k, HE.out, ⟨.slice Am s.1.length cm, ?_, ?_⟩, hX⟩
          · rw [← HSK.out]
            have e1 : (if k < s.1.length then (k : Int) else (s.1.length : Int)) = s.1.length := if_neg hlt2
            have e2 : (!decide (k < s.1.length) && decide (s.1.length ≤ 2000)) = decide (s.1.length ≤ 2000) := by simp [hlt2]
            rw [e1, e2]
            first | rfl | (simp; omega)
          · rw [← HSK.out]
            exact ho
end Go.Proofs.YtmffnlpndgdcjaaGreatDoor
