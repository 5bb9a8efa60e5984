/- Contract of the reference's list of the nodes at which a machine halts. The machine is valid. -/
import Derived.Test.YtdkdmcaehinkhaaDoorBacks
namespace Go.Proofs.YtdkdmcaehinkhaaDoor
open Go Go.RowKit Go.Proofs
set_option maxHeartbeats 400000
/-- The node as the reference builds it. -/
theorem segNode_build (n : Nat) (h q y : Int) (h0 : 0 ≤ h) (h1 : h < n) : segNode (List.replicate (n + 2) (-1)) h q y = ([h, q] ++ List.replicate n (-1)).set (2 + h).toNat y := by
  unfold segNode
  rw [if_pos (by simp; omega)]
  rfl
set_option maxRecDepth 20000 in
set_option maxHeartbeats 4000000 in
theorem l26Starts_c (b : Nat) (m : MachD) (rv : Value) (n : Nat) (w : World) (hM : MachBlk w b m rv) (hr : Rules w rv m.rules) (hmk : MOk m) (n1 : 1 ≤ n) (n2 : n ≤ 9) :
    Calls Tryd.prog 48 #[.pointer (some ⟨b, 0, none⟩), .int .i64 n] w fun e w' => ∃ u, e = .returned u ∧ OwnIntRows w.heap.size w' u (startsIn m n) ∧ Ext w w' := by
  obtain ⟨i0, hi, hz0, hz1, hz2⟩ := info_parts rowInfo
  obtain ⟨i1, hj, hy0, hy1, hy2⟩ := info_parts intInfo
  have hps : (partsOf m.sy (freeTo m.rules m.rules.length)).length ≤ 6000 := by have := freeTo_length m.rules m.rules.length; have := hmk.len2; simp [partsOf]; omega
  have hown0 : (w.alloc (.cells #[] 38)).ownsRow w.heap.size 38 1 (.slice (some ⟨w.heap.size, 0, none⟩) 0 0) 0 [] :=
    World.ownsRow_made (base := w.heap.size) (e := 38) (size := 1) w #[] 0 (by simp) (by unfold maxLen; omega) (by simp)
  go_enter Tryd.func48, Tryd.ntmps48
  go_wp2_with fail
  refine (l26Halting_c b m rv _ (Blk.ext hM (Ext.alloc _ _)) (hr.ext (Ext.alloc _ _)) hmk.len2 hmk.sy1 hmk.sy2).mono ?_
  rintro e w1 ⟨u, rfl, hu, hx1⟩
  have hX : Ext w w1 := (Ext.alloc _ _).trans hx1
  have hown1 := ownsRow_ext hown0 hx1
  have HZ : Hid (startsIn m n = startsOf n (partsOf m.sy (freeTo m.rules m.rules.length))) := rfl
  generalize partsOf m.sy (freeTo m.rules m.rules.length) = ps at *
  obtain ⟨bz, hu⟩ : ∃ bz, OwnParts bz w1 u ps := ⟨_, hu⟩
  obtain ⟨Az, cz, rfl, h5, h5'⟩ := hu.form
  obtain ⟨hh, hd0⟩ : ∃ q, (n : Int) / 2 = q := ⟨_, rfl⟩
  have hd1 : (n : Int).tdiv 2 = hh := by rw [Int.tdiv_eq_ediv_of_nonneg (by omega)]; exact hd0
  have hd2 : IntKind.i64.wrap hh = hh := IntWalk.i64_in _ (by omega)
  have hd3 : 0 ≤ hh := by omega
  have hd4 : hh < n := by omega
  have HD := Lib.hid hd0
  clear hd0 hx1 hr hM hown0
  go_wp2
  go_loopw [5, 7] (fun l i wr => ∃ k : Nat, k ≤ ps.length ∧ i = .int .i64 k ∧ Ext w wr ∧ OwnParts bz wr (.slice Az ps.length cz) ps ∧ OwnIntRows w.heap.size wr l (startsOf n (ps.take k))) (fun _ i _ => ps.length - (intOf i).toNat)
  case atStart => exact ⟨0, Nat.zero_le _, rfl, hX, hu, ⟨[], by simpa [startsOf] using hown1, fun i hi => by simp [startsOf] at hi, fun i j u u' g hi => by simp at hi⟩⟩
  case round =>
    clear hX hu hown1
    obtain ⟨k, hk, rfl, hX, hu, ho⟩ := hrel
    have hsl : (startsOf n (ps.take k)).length = k := by simp [startsOf]; omega
    obtain ⟨Al, cl, rfl, h6, h6'⟩ := ho.rows.form
    by_cases hlt : k < ps.length
    · obtain ⟨gz, rfl, bc, c0, c1, c2, c3⟩ := hu.at hlt
      have HP := Lib.hid (startsOf_take n ps k hlt)
      have HL := Lib.hid hsl
      have hkl : (startsOf n (ps.take k)).length ≤ 6000 := by omega
      clear hsl
      rw [HD.out] at HP
      generalize hps1 : ps[k].1 = pq at *
      generalize hps2 : ps[k].2 = py at *
      clear hps1 hps2
      have hownx : (wr.alloc (.cells #[.int .i64 hh, .int .i64 pq] 2)).ownsRow wr.heap.size 2 1 (.slice (some ⟨wr.heap.size, 0, none⟩) 2 2) 2 (ivs ([hh, pq] ++ List.replicate 0 (-1))) :=
        ⟨by simp [ivs], .inr ⟨wr.heap.size, 2, #[.int .i64 hh, .int .i64 pq], rfl, Nat.le_refl _, heap_alloc_new wr _, by omega, by unfold maxLen; omega, rfl, by simp [ivs]⟩⟩
      have HO := Lib.hid ho
      have HU := Lib.hid hu
      clear ho hu
      generalize wr = W0 at *
      go_wp2
      go_loopw [8, 9] (fun x i2 wx => ∃ j : Nat, j ≤ n ∧ i2 = .int .i64 j ∧ Ext W0 wx ∧ OwnInts W0.heap.size wx x ([hh, pq] ++ List.replicate j (-1))) (fun _ i2 _ => n - (intOf i2).toNat)
      case atStart => exact ⟨0, Nat.zero_le _, rfl, Ext.alloc _ _, hownx⟩
      case round =>
        clear hownx
        obtain ⟨j, hjn, rfl, hxx, hox⟩ := hrel
        obtain ⟨Ax, cx, rfl, h7, h7'⟩ := hox.ints.form
        by_cases hlt2 : j < n
        · have hlx : ([hh, pq] ++ List.replicate j (-1 : Int)).length ≤ 11 := by simp; omega
          have HR : Hid ([hh, pq] ++ List.replicate (j + 1) (-1 : Int) = ([hh, pq] ++ List.replicate j (-1)) ++ [-1]) := by unfold Hid; rw [List.replicate_succ']; simp
          generalize [hh, pq] ++ List.replicate j (-1 : Int) = L at *
          have hszx := hxx.size
          go_wp2_with (at_builtin; refine wpList_append_own _ rfl _ _ 38 rfl W0.heap.size 2 i1 (.int .i64 0) 1 8 Tryd.underlying38 hj hy0 hy1 hy2 rfl (by decide) _ _ _ rfl (hox.alloc _) ⟨wr.heap.size, 0, none⟩ 1 1 [.int .i64 (-1)] rfl rfl ?c1 ?c2 ?c3 ?c4 ?c5 ?_)
          case c1 =>
            intro j u hj
            match j, hj with
            | 0, hj => simp at hj; subst hj; simp [Addr.add]
          case c2 => intro u hu; simp at hu; subst hu; rfl
          case c3 => unfold maxLen; omega
          case c4 => omega
          case c5 => simp; omega
          intro v' w3 hown' hgrow _
          have hX3 : Ext W0 w3 := hxx.grown (grownBy_trans (World.grownBy_alloc _ _ _) hgrow) (fun b hb => (hox.lt b hb).1)
          have R : OwnInts W0.heap.size w3 v' ([hh, pq] ++ List.replicate (j + 1) (-1)) := by
            rw [HR.out]
            unfold OwnInts
            rw [ivs_append, List.length_append]
            exact hown'
          clear hown' hgrow hox
          go_wp2
          go_roundw
          case rel => exact ⟨j + 1, by omega, by go_num, hX3, R⟩
          case measure => simp [intOf]; omega
        · have hje : j = n := by omega
          subst hje
          have HN : Hid (segNode (List.replicate (j + 2) (-1)) hh pq py = ([hh, pq] ++ List.replicate j (-1)).set (2 + hh).toNat py) := segNode_build j hh pq py hd3 hd4
          have hlx : 3 ≤ ([hh, pq] ++ List.replicate j (-1 : Int)).length := by simp; omega
          have hly : ([hh, pq] ++ List.replicate j (-1 : Int)).length ≤ 11 := by simp; omega
          have hlz : 2 + hh < (([hh, pq] ++ List.replicate j (-1 : Int)).length : Nat) := by simp; omega
          generalize [hh, pq] ++ List.replicate j (-1 : Int) = L at *
          obtain ⟨h, rfl⟩ := Int.eq_ofNat_of_zero_le hd3
          have ej : (2 + (h : Int)).toNat = 2 + h := by omega
          rw [ej] at HN
          clear ej
          have hlz' : 2 + h < L.length := by omega
          have hwr : IntKind.i64.wrap (2 + (h : Int)) = 2 + (h : Int) := IntWalk.i64_in _ (by omega)
          obtain ⟨gx, rfl, hgb, hgl⟩ := own_at hox (by omega)
          have p0 := hox.cellAt (2 + h) (by omega)
          rw [ivs_get _ (2 + h) hlz'] at p0
          have z0 := hox.frozenAt (2 + h)
          have hE := hxx.setCell (p := ⟨gx, 2 + h, none⟩) hgb (.int .i64 py)
          have o7 := (hox.stored (2 + h) (.int .i64 py)).1
          rw [← ivs_set] at o7
          have k2 := hxx.cell c2
          have k3 := (c3.ext hxx).cell 0
          simp only [List.getElem?_toArray, List.getElem?_cons_zero] at k3
          have hX' := hX.trans hE
          have hy : OwnInts W0.heap.size (wr.setCell ⟨gx, 2 + h, none⟩ (.int .i64 py)) (.slice (some ⟨gx, 0, none⟩) L.length cx) (L.set (2 + h) py) := by
            show World.ownsRow _ _ _ _ _ _ _
            simpa using o7
          obtain ⟨vs, p1, p2, o3⟩ := HO.out
          have hne := rows_ne (xss := startsOf j (ps.take k)) p1 rfl p2 hy
          have o1 := ownsRow_ext p1 hE
          have o2 : ∀ i, (h : i < (startsOf j (ps.take k)).length) → ∃ u, vs[i]? = some u ∧ OwnInts w.heap.size _ u (startsOf j (ps.take k))[i] := fun i hi => by
            obtain ⟨u', e, hu'⟩ := p2 i hi
            exact ⟨u', e, hu'.ext hE⟩
          have hup := HU.out.ext hE
          have hszr := hX.size
          have hszx := hX'.size
          clear p1 p2 c0 c1 c2 c3 hox o7
          go_wp2_with (at_builtin; refine wpList_append_own _ rfl _ _ 26 rfl w.heap.size 38 i0 (.slice none 0 0) 1 24 Tryd.underlying26 hi hz0 hz1 hz2 rfl (by decide) _ _ _ rfl (o1.alloc _) ⟨wr.heap.size, 0, none⟩ 1 1 [.slice (some ⟨gx, 0, none⟩) L.length cx] rfl rfl ?c1 ?c2 ?c3 ?c4 ?c5 ?_)
          case c1 =>
            have := cell_one_new (wr.setCell ⟨gx, 2 + h, none⟩ (.int .i64 py)) (.slice (some ⟨gx, 0, none⟩) L.length cx) 38
            simpa using this
          case c2 => intro u hu; simp at hu; subst hu; rfl
          case c3 => unfold maxLen; omega
          case c4 => omega
          case c5 => simp at hszx; simp; omega
          intro v' w6 hown' hgrow _
          have hX6 : Ext w w6 := hX'.grown (grownBy_trans (World.grownBy_alloc _ _ _) hgrow) (fun b hb => (o1.lt b hb).1)
          have R : OwnIntRows w.heap.size w6 v' (startsOf j (ps.take (k + 1))) := by
            rw [HP.out, HN.out]
            refine OwnIntRows.snoc (u := .slice (some ⟨gx, 0, none⟩) L.length cx) (o1.alloc _) (fun i hi => ?_) o3 ((hy.ext (Ext.alloc _ _)).base hszr) hne hown' hgrow
            obtain ⟨u', e, hu'⟩ := o2 i hi
            exact ⟨u', e, hu'.ext (Ext.alloc _ _)⟩
          have hup6 := OwnParts.apart (hup.ext (Ext.alloc _ _)) (o1.alloc _) hgrow
          clear o1 o2 o3 hown' hgrow hy hne hup
          go_wp2
          go_roundw
          case rel => exact ⟨k + 1, by omega, by go_num, hX6, hup6, R⟩
          case measure => simp [intOf]; omega
    · have HK := Lib.hid (show ps.take k = ps from List.take_of_length_le (by omega))
      clear hsl
      go_wp2
      go_ret
      refine ⟨_, rfl, ?_, hX⟩
      have e : startsOf n ps = startsOf n (ps.take k) := by rw [HK.out]
      rw [HZ.out, e]
      exact ho
end Go.Proofs.YtdkdmcaehinkhaaDoor
