/- Contract of the reference's list of the nodes before a node. The machine is valid, the node is valid. -/
import Derived.Test.YtdkdmcaehinkhaaDoorBack
namespace Go.Proofs.YtdkdmcaehinkhaaDoor
open Go Go.RowKit Go.Proofs
set_option maxHeartbeats 400000
set_option maxRecDepth 20000 in
set_option maxHeartbeats 4000000 in
theorem l26Backs_c (b : Nat) (m : MachD) (rv : Value) (xv : Value) (x : List Int) (n : Nat) (w : World) (hM : MachBlk w b m rv) (hr : Rules w rv m.rules) (hxv : Ints w xv x) (hmk : MOk m) (hx : NodeOk m.sy m.st n x) (n1 : 1 ≤ n) (n2 : n ≤ 9) :
    Calls Tryd.prog 50 #[.pointer (some ⟨b, 0, none⟩), xv] w fun e w' => ∃ u, e = .returned u ∧ OwnIntRows w.heap.size w' u (predsTo m x m.rules.length) ∧ Ext w w' := by
  obtain ⟨Ar, cr, rfl, h3, h3'⟩ := hr.form
  obtain ⟨Ax, cx, rfl, _, _⟩ := hxv.form
  obtain ⟨i0, hi, hz0, hz1, hz2⟩ := info_parts rowInfo
  have hl6 := hmk.len2
  have HMK := Lib.hid hmk
  have HX := Lib.hid hx
  clear hmk hx
  have hown0 : (w.alloc (.cells #[] 38)).ownsRow w.heap.size 38 1 (.slice (some ⟨w.heap.size, 0, none⟩) 0 0) 0 [] :=
    World.ownsRow_made (base := w.heap.size) (e := 38) (size := 1) w #[] 0 (by simp) (by unfold maxLen; omega) (by simp)
  go_enter Tryd.func50, Tryd.ntmps50
  go_wp2
  go_loopw [5, 6] (fun l i wr => ∃ k : Nat, k ≤ m.rules.length ∧ i = .int .i64 k ∧ Ext w wr ∧ OwnIntRows w.heap.size wr l (predsTo m x k)) (fun _ i _ => m.rules.length - (intOf i).toNat)
  case atStart => exact ⟨0, Nat.zero_le _, rfl, Ext.alloc _ _, ⟨[], hown0, fun i hi => by simp [predsTo] at hi, fun i j u u' g hi => by simp at hi⟩⟩
  case round =>
    clear hown0
    obtain ⟨k, hk, rfl, hX, ho⟩ := hrel
    obtain ⟨Al, cl, rfl, h6, h6'⟩ := ho.rows.form
    have hpl := predsTo_length m x k
    have bM := Blk.ext hM hX
    have cM2 := bM.cell 2
    simp only [List.getElem?_toArray, List.getElem?_cons_zero, List.getElem?_cons_succ] at cM2
    by_cases hlt : k < m.rules.length
    · have HE := Lib.hid (predsTo_back (x := x) hlt)
      have hL2 : (predsTo m x k).length ≤ 6000 := by omega
      go_wp2_with fail
      refine (l26Back_c b m _ _ x n k wr bM (hr.ext hX) (hxv.ext hX) HMK.out HX.out n1 n2 hlt).mono ?_
      rintro e w2 ⟨u, ok, rfl, hok, hres, ⟨A4, n4, c4, rfl⟩, hx2⟩
      have hX2 := hX.trans hx2
      have ho2 := ho.ext hx2
      cases hb : backOf m x k with
      | none =>
        rw [hb] at HE
        have hbs : ok = false := by rw [hok, hb]; rfl
        subst hbs
        clear hb hres hok
        go_wp2
        go_roundw
        case rel => exact ⟨k + 1, by omega, by go_num, hX2, by rw [HE.out]; exact ho2⟩
        case measure => simp [intOf]; omega
      | some y =>
        rw [hb] at HE
        have hbs : ok = true := by rw [hok, hb]; rfl
        subst hbs
        have hy := hres y hb
        clear hb hres hok
        go_wp2_with fail
        refine (l10Row_c _ _ _ _ y ho2.rows hy.ints).mono ?_
        rintro e w5 ⟨⟨kk, rfl, hkk⟩, hx5⟩
        have hX5 := hX2.trans hx5
        have ho5 := ho2.ext hx5
        have hy5 := hy.ext hx5
        by_cases hin : y ∈ predsTo m x k
        · have hinb : decide (kk < 0) = false := by rw [hkk]; simp [hin]
          have HA := Lib.hid (show addNew (predsTo m x k) (some y) = predsTo m x k by simp [addNew, hin])
          clear hin hkk
          go_wp2
          go_roundw
          case rel => exact ⟨k + 1, by omega, by go_num, hX5, by rw [HE.out, HA.out]; exact ho5⟩
          case measure => simp [intOf]; omega
        · have hinb : decide (kk < 0) = true := by rw [hkk]; simp [hin]
          have HA := Lib.hid (show addNew (predsTo m x k) (some y) = predsTo m x k ++ [y] by simp [addNew, hin])
          clear hin hkk
          obtain ⟨vs, p1, p2, o3⟩ := ho
          have hne := rows_ne (xss := predsTo m x k) p1 rfl p2 hy5
          have o1 := ownsRow_ext p1 (hx2.trans hx5)
          have o2 : ∀ i, (h : i < (predsTo m x k).length) → ∃ u, vs[i]? = some u ∧ OwnInts w.heap.size w5 u (predsTo m x k)[i] := fun i hi => by
            obtain ⟨u', e, hu'⟩ := p2 i hi
            exact ⟨u', e, hu'.ext (hx2.trans hx5)⟩
          clear p1 p2 ho5 ho2
          have hsz := hX5.size
          have hszr := hX.size
          go_wp2_with (at_builtin; refine wpList_append_own _ rfl _ _ 26 rfl w.heap.size 38 i0 (.slice none 0 0) 1 24 Tryd.underlying26 hi hz0 hz1 hz2 rfl (by decide) _ _ _ rfl (o1.alloc _) ⟨w5.heap.size, 0, none⟩ 1 1 [.slice A4 n4 c4] rfl rfl ?c1 ?c2 ?c3 ?c4 ?c5 ?_)
          case c1 =>
            intro j u hj
            match j, hj with
            | 0, hj => simp at hj; subst hj; simp [Addr.add]
          case c2 => intro u hu; simp at hu; subst hu; rfl
          case c3 => unfold maxLen; omega
          case c4 => omega
          case c5 => simp; omega
          intro v' w6 hown' hgrow _
          have hX6 : Ext w w6 := hX5.grown (grownBy_trans (World.grownBy_alloc _ _ _) hgrow) (fun b hb => (o1.lt b hb).1)
          have R : OwnIntRows w.heap.size w6 v' (predsTo m x (k + 1)) := by
            rw [HE.out, HA.out]
            refine OwnIntRows.snoc (u := .slice A4 n4 c4) (o1.alloc _) (fun i hi => ?_) o3 ((hy5.ext (Ext.alloc _ _)).base hszr) hne hown' hgrow
            obtain ⟨u', e, hu'⟩ := o2 i hi
            exact ⟨u', e, hu'.ext (Ext.alloc _ _)⟩
          clear o1 o2 o3 hown' hgrow hy5 hne
          go_wp2
          go_roundw
          case rel => exact ⟨k + 1, by omega, by go_num, hX6, R⟩
          case measure => simp [intOf]; omega
    · have hke : k = m.rules.length := by omega
      have HK := Lib.hid hke
      clear hke hpl
      go_wp2
      go_ret
      exact ⟨_, rfl, by rw [← HK.out]; exact ho, hX⟩
end Go.Proofs.YtdkdmcaehinkhaaDoor
