/- Contract of the program's list of the nodes before a node. The machine is valid, the node is valid. -/
import Derived.Test.YtdkdmcaehinkhaaDoorPred
namespace Go.Proofs.YtdkdmcaehinkhaaDoor
open Go Go.RowKit Go.Proofs
set_option maxHeartbeats 400000
/-- What the program's statement leaves: a variable with the node before, and whether there is one. -/
def CutRes (w2 : World) (o : Option (List Int)) (s8 s9 : Value) (wx : World) : Prop :=
  ∃ bv u, s8 = .pointer (some ⟨bv, 0, none⟩) ∧ s9 = .bool o.isSome ∧ Blk wx bv 38 #[u] ∧ Ext w2 wx ∧ w2.heap.size ≤ bv ∧ (∀ y, o = some y → OwnInts w2.heap.size wx u y) ∧ (∃ A n c, u = .slice A n c)
set_option maxHeartbeats 4000000 in
theorem segmentPredecessors_c (v xv : Value) (m : MachD) (x : List Int) (w : World) (h : Mach w v m) (hxv : Ints w xv x) (hn : m.rules.length ≤ 6000) (h1 : 2 ≤ m.sy) (h2 : m.sy ≤ 6)
    (hr1 : ∀ r ∈ m.rules, ¬ r = noR → -1 ≤ r.m ∧ r.m ≤ 1) (hl : 3 ≤ x.length) (hl' : x.length ≤ 11) (hx0 : -1 ≤ x.getD 0 0) (hx0' : x.getD 0 0 ≤ (x.length : Int) - 2) :
    Calls Tryd.prog 33 #[v, xv] w fun e w' => ∃ u, e = .returned u ∧ OwnIntRows w.heap.size w' u (predsTo m x m.rules.length) ∧ Ext w w' := by
  obtain ⟨rv, rfl, hr⟩ := h
  obtain ⟨Ar, cr, rfl, h3, h3'⟩ := hr.form
  obtain ⟨Ax, cx, rfl, _, _⟩ := hxv.form
  obtain ⟨i0, hi, hz0, hz1, hz2⟩ := info_parts rowInfo
  have hs0 : ¬ m.sy = 0 := by omega
  have HR1 := Lib.hid hr1
  clear hr1
  go_enter Tryd.func33, Tryd.ntmps33
  go_wp2
  have hX0 := (Ext.alloc w (.cells #[.int .i64 m.sy, .int .i64 m.st, .slice Ar m.rules.length cr] 31)).trans (Ext.alloc _ (.cells #[] 38))
  have bM := (Blk.new w w.heap.size 31 #[.int .i64 m.sy, .int .i64 m.st, .slice Ar m.rules.length cr] rfl).alloc (.cells #[] 38)
  have hown0 : ((w.alloc (.cells #[.int .i64 m.sy, .int .i64 m.st, .slice Ar m.rules.length cr] 31)).alloc (.cells #[] 38)).ownsRow w.heap.size 38 1 (.slice (some ⟨w.heap.size + 1, 0, none⟩) 0 0) 0 [] := by
    have := World.ownsRow_made (base := w.heap.size) (e := 38) (size := 1) (w.alloc (.cells #[.int .i64 m.sy, .int .i64 m.st, .slice Ar m.rules.length cr] 31)) #[] 0 (by simp) (by unfold maxLen; omega) (by simp)
    simpa using this
  generalize (w.alloc (.cells #[.int .i64 m.sy, .int .i64 m.st, .slice Ar m.rules.length cr] 31)).alloc (.cells #[] 38) = W at *
  go_loopw [5, 14] (fun l i wr => ∃ k : Nat, k ≤ m.rules.length ∧ i = .int .i64 k ∧ Ext w wr ∧ Blk wr w.heap.size 31 #[.int .i64 m.sy, .int .i64 m.st, .slice Ar m.rules.length cr] ∧ OwnIntRows w.heap.size wr l (predsTo m x k)) (fun _ i _ => m.rules.length - (intOf i).toNat)
  case atStart => exact ⟨0, Nat.zero_le _, rfl, hX0, bM, ⟨[], hown0, fun i hi => by simp [predsTo] at hi, fun i j u u' g hi => by simp at hi⟩⟩
  case round =>
    clear hX0 bM hown0
    obtain ⟨k, hk, rfl, hX, bM, ho⟩ := hrel
    obtain ⟨Al, cl, rfl, h6, h6'⟩ := ho.rows.form
    have hpl := predsTo_length m x k
    by_cases hlt : k < m.rules.length
    · obtain ⟨b', off, rfl, hc⟩ := hr.at hlt
      obtain ⟨c0, c1, c2⟩ := hc k hlt
      have c0 := hX.cell c0
      have c1 := hX.cell c1
      have c2 := hX.cell c2
      have HMV := Lib.hid (HR1.out m.rules[k] (List.getElem_mem hlt))
      clear hc
      go_wp2_with fail
      refine (isRule_c _ _ _ _).mono ?_
      rintro e w2 ⟨rfl, hx2⟩
      have hx2' := (Ext.alloc _ _).trans hx2
      rw [isR_mk]
      have ho2 := ho.ext hx2'
      have bM2 := bM.ext hx2'
      have bR := (Blk.new wr wr.heap.size _ _ rfl).ext hx2
      have hX2 := hX.trans hx2'
      have hxv2 := hxv.ext hX2
      clear c0 c1 c2 hx2 hx2' ho bM
      by_cases he : m.rules[k] = noR
      · have H : isR m.rules[k] = false := by simp [isR, rEq, he]
        have HE := Lib.hid (predsTo_no (x := x) hlt he)
        clear he
        go_wp2
        go_roundw
        case rel => exact ⟨k + 1, by omega, by go_num, hX2, bM2, by rw [HE.out]; exact ho2⟩
        case measure => simp [intOf]; omega
      · have H : isR m.rules[k] = true := by simp [isR, rEq, he]
        have HE := Lib.hid (predsTo_yes (x := x) hlt he)
        obtain ⟨mv1, mv2⟩ := HMV.out he
        clear he
        obtain ⟨q1, hq1⟩ : ∃ q, (k : Int) / m.sy = q := ⟨_, rfl⟩
        obtain ⟨q2, hq2⟩ : ∃ q, (k : Int) % m.sy = q := ⟨_, rfl⟩
        have hw : IntKind.i64.wrap q1 = q1 := by
          have e1 : 0 ≤ (k : Int) / m.sy := Int.ediv_nonneg (by omega) (by omega)
          have e2 : (k : Int) / m.sy ≤ k := Int.ediv_le_self _ (by omega)
          exact IntWalk.i64_in _ (by omega)
        have hd : (k : Int).tdiv m.sy = q1 := by rw [Int.tdiv_eq_ediv_of_nonneg (by omega)]; exact hq1
        have hm : (k : Int).tmod m.sy = q2 := by rw [Int.tmod_eq_emod_of_nonneg (by omega)]; exact hq2
        rw [hq1, hq2] at HE
        have a0 := bM2.cell 0
        have a1 := bR.cell 0
        have a2 := bR.cell 1
        have a3 := bR.cell 2
        simp only [List.getElem?_toArray, List.getElem?_cons_zero, List.getElem?_cons_succ] at a0 a1 a2 a3
        generalize hrk : m.rules[k] = r at *
        have hL2 : (predsTo m x k).length ≤ 6000 := by omega
        go_upto_region 6 with fail
        go_cut [8, 9] (fun s8 s9 wx => CutRes w2 (before x q1 q2 r) s8 s9 wx)
        case first =>
          set_option maxRecDepth 20000 in
          go_region_held3 (fun w' => w'.cell? ⟨w.heap.size, 0, none⟩ = some (.int .i64 m.sy) ∧ w'.cell? ⟨wr.heap.size, 0, none⟩ = some (.int .i64 r.w) ∧ w'.cell? ⟨wr.heap.size, 1, none⟩ = some (.int .i64 r.m) ∧ w'.cell? ⟨wr.heap.size, 2, none⟩ = some (.int .i64 r.n))
            (first | go_keep | exact ⟨hE4.cell a0, hE4.cell a1, hE4.cell a2, hE4.cell a3⟩ | exact ⟨(hE4.trans (Ext.alloc _ _)).cell a0, (hE4.trans (Ext.alloc _ _)).cell a1, (hE4.trans (Ext.alloc _ _)).cell a2, (hE4.trans (Ext.alloc _ _)).cell a3⟩ | exact ⟨(hE4.setCell (p := ⟨w2.heap.size, 0, none⟩) (Nat.le_refl _) _).cell a0, (hE4.setCell (p := ⟨w2.heap.size, 0, none⟩) (Nat.le_refl _) _).cell a1, (hE4.setCell (p := ⟨w2.heap.size, 0, none⟩) (Nat.le_refl _) _).cell a2, (hE4.setCell (p := ⟨w2.heap.size, 0, none⟩) (Nat.le_refl _) _).cell a3⟩)
            (first
              | (go_at_call 62; ((with_reducible refine (segmentBefore_c _ x q1 q2 r _ (hxv2.ext ((Ext.alloc _ _).trans (Ext.drew _))) hl hl' hx0 hx0' mv1 mv2).mono ?_)); rintro e w4 ⟨u, ok, rfl, hok, hres, ⟨A4, n4, c4, rfl⟩, hx4⟩; have hE4 : Ext w2 w4 := ((Ext.alloc _ _).trans (Ext.drew _)).trans hx4; have bV := Blk.ext (Blk.drew (Blk.new w2 w2.heap.size _ _ rfl)) hx4; have vc := bV.cell 0; simp only [List.getElem?_toArray, List.getElem?_cons_zero] at vc; have vf := bV.frozen 0)
              | (go_at_call 62; ((with_reducible refine (segmentBefore_c _ x q1 q2 r _ (hxv2.ext (Ext.drew _)) hl hl' hx0 hx0' mv1 mv2).mono ?_)); rintro e w4 ⟨u, ok, rfl, hok, hres, ⟨A4, n4, c4, rfl⟩, hx4⟩; have hE4 : Ext w2 w4 := (Ext.drew _).trans hx4))
          · go_wp2_with fail
            go_meet
            refine ⟨w4.heap.size, _, rfl, rfl, Blk.new w4 _ _ _ rfl, hE4.trans (Ext.alloc _ _), hE4.size, fun y hy => ((hres y hy).base (by simp)).ext (Ext.alloc _ _), ⟨_, _, _, rfl⟩⟩
          · go_wp2_with fail
            go_meet
            have bV' := bV.set_ 0 (.slice A4 n4 c4)
            refine ⟨w2.heap.size, _, rfl, rfl, bV', hE4.setCell (p := ⟨w2.heap.size, 0, none⟩) (Nat.le_refl _) _, Nat.le_refl _, fun y hy => ?_, ⟨_, _, _, rfl⟩⟩
            have hy' := hres y hy
            refine ownsRow_base (ownsRow_far hy' (fun g hg => ?_) _) (by simp)
            have := (hy'.lt g hg).1
            simp at this ⊢
            omega
        case rest =>
          obtain ⟨bv, u, rfl, rfl, bV, hx4, hbv, hres, ⟨A4, n4, c4, rfl⟩⟩ := hcut
          have hX4 := hX2.trans hx4
          have bM4 := bM2.ext hx4
          have ho4 := ho2.ext hx4
          clear a0 a1 a2 a3 hw hd hm hs0 hxv2 bR
          cases hb : before x q1 q2 r with
          | none =>
            rw [hb] at HE
            have hbs : (before x q1 q2 r).isSome = false := by rw [hb]; rfl
            clear hb hres
            go_wp2
            go_roundw
            case rel => exact ⟨k + 1, by omega, by go_num, hX4, bM4, by rw [HE.out]; exact ho4⟩
            case measure => simp [intOf]; omega
          | some y =>
            rw [hb] at HE
            have hbs : (before x q1 q2 r).isSome = true := by rw [hb]; rfl
            have hy := hres y hb
            clear hb hres
            go_wp2_with fail
            refine (containsRow_c _ _ _ y bv _ ho4.rows bV hy.ints).mono ?_
            rintro e w5 ⟨rfl, hx5⟩
            have hX5 := hX4.trans hx5
            have bM5 := bM4.ext hx5
            have ho5 := ho4.ext hx5
            have hy5 := hy.ext hx5
            have bV5 := (bV.ext hx5).cell 0
            simp only [List.getElem?_toArray, List.getElem?_cons_zero] at bV5
            by_cases hin : y ∈ predsTo m x k
            · have hinb : decide (y ∈ predsTo m x k) = true := by simp [hin]
              have HA := Lib.hid (show addNew (predsTo m x k) (some y) = predsTo m x k by simp [addNew, hin])
              clear hin
              go_wp2
              go_roundw
              case rel => exact ⟨k + 1, by omega, by go_num, hX5, bM5, by rw [HE.out, HA.out]; exact ho5⟩
              case measure => simp [intOf]; omega
            · have hinb : decide (y ∈ predsTo m x k) = false := by simp [hin]
              have HA := Lib.hid (show addNew (predsTo m x k) (some y) = predsTo m x k ++ [y] by simp [addNew, hin])
              clear hin
              obtain ⟨vs, p1, p2, o3⟩ := ho2
              have hne := rows_ne (xss := predsTo m x k) p1 rfl p2 hy5
              have o1 := ownsRow_ext p1 (hx4.trans hx5)
              have o2 : ∀ i, (h : i < (predsTo m x k).length) → ∃ u, vs[i]? = some u ∧ OwnInts w.heap.size w5 u (predsTo m x k)[i] := fun i hi => by
                obtain ⟨u', e, hu'⟩ := p2 i hi
                exact ⟨u', e, hu'.ext (hx4.trans hx5)⟩
              clear p1 p2 ho5 ho4
              have hsz := hX5.size
              go_wp2_with (at_builtin; refine wpList_append_own _ rfl _ _ 26 rfl w.heap.size 38 i0 (.slice none 0 0) 1 24 Tryd.underlying26 hi hz0 hz1 hz2 rfl (by decide) _ _ _ rfl (o1.alloc _) ⟨w5.heap.size, 0, none⟩ 1 1 [.slice A4 n4 c4] rfl rfl ?c1 ?c2 ?c3 ?c4 ?c5 ?_)
              case c1 =>
                intro j u hj
                match j, hj with
                | 0, hj => simp at hj; subst hj; simp [Addr.add]
              case c2 => intro u hu; simp at hu; subst hu; rfl
              case c3 => unfold maxLen; omega
              case c4 => omega
              case c5 => simp; omega
              intro v' w6 hown' hgrow _
              have hX6 : Ext w w6 := hX5.grown (grownBy_trans (World.grownBy_alloc _ _ _) hgrow) (fun b hb => (o1.lt b hb).1)
              have bM6 := Blk.apart (bM5.alloc _) (o1.alloc _) (by decide) hgrow
              have R : OwnIntRows w.heap.size w6 v' (predsTo m x (k + 1)) := by
                rw [HE.out, HA.out]
                refine OwnIntRows.snoc (u := .slice A4 n4 c4) (o1.alloc _) (fun i hi => ?_) o3 ((hy5.ext (Ext.alloc _ _)).base hX2.size) hne hown' hgrow
                obtain ⟨u', e, hu'⟩ := o2 i hi
                exact ⟨u', e, hu'.ext (Ext.alloc _ _)⟩
              clear o1 o2 o3 hown' hgrow bM5 hy5 bV5 hne
              go_wp2
              go_roundw
              case rel => exact ⟨k + 1, by omega, by go_num, hX6, bM6, R⟩
              case measure => simp [intOf]; omega
    · have hke : k = m.rules.length := by omega
      have HK := Lib.hid hke
      clear hke hpl
      go_wp2
      go_ret
      exact ⟨_, rfl, by rw [← HK.out]; exact ho, hX⟩
end Go.Proofs.YtdkdmcaehinkhaaDoor
