/- Contract of the program's list of the nodes that are found. -/
import Derived.Test.YtmffnlpndgdcjaaGreatDoorPlain
import Derived.Deep.RegionLaw
namespace Go.Proofs.YtmffnlpndgdcjaaGreatDoor
open Go Go.RowKit Go.Proofs
set_option maxHeartbeats 400000
/-- What both lists of nodes answer, beginning in a world w. -/
def NodesRes (w : World) (m : MachD) (n : Int) (e : Ending) (w' : World) : Prop :=
  ((machOk m = false ∧ e = .returned (.tuple #[.slice none 0 0, .bool false, .int .i64 1])) ∨
   (machOk m = true ∧ inB n 1 9 = false ∧ e = .returned (.tuple #[.slice none 0 0, .bool false, .int .i64 2])) ∨
   (machOk m = true ∧ inB n 1 9 = true ∧ ∃ k, EndsS m n.toNat k ∧
     ((2000 < (iterS m n.toNat k).1.length ∧ e = .returned (.tuple #[.slice none 0 0, .bool false, .int .i64 5])) ∨
      ((iterS m n.toNat k).1.length ≤ 2000 ∧ ∃ nv, e = .returned (.tuple #[nv, .bool (!(iterS m n.toNat k).2), .int .i64 0]) ∧ OwnIntRows w.heap.size w' nv (iterS m n.toNat k).1)))) ∧ Ext w w'
theorem SegSt.own_rows {base : Nat} {w : World} {bs : Nat} {m : MachD} {rv : Value} {nodes : List (List Int)} {beg : Bool} {nv : Value} {vs : List Value} {bm : Nat} (h : SegSt base w bs m rv nodes beg nv vs bm) : OwnIntRows base w nv nodes := ⟨vs, h.own, h.rows, h.apart⟩
theorem FindInv.start {base : Nat} {wr w5 : World} {bs : Nat} {m : MachD} {rv lv : Value} {list : List (List Int)} {us : List Value} {nodes : List (List Int)} {beg : Bool} {nv : Value} {vs : List Value} {bm : Nat}
    (hst : SegSt base wr bs m rv nodes beg nv vs bm) (hx : Ext wr w5) (u1 : w5.ownsRow wr.heap.size 35 1 lv list.length us) (u2 : ∀ i, (h : i < list.length) → ∃ u, us[i]? = some u ∧ OwnInts wr.heap.size w5 u list[i]) :
    FindInv base wr.heap.size w5 bs m rv lv list us 0 nodes beg nv vs bm w5 := by
  refine ⟨hst.ext hx, u1, u2, fun i u g hi hg => ?_, ?_, Below.refl _ _⟩
  · have hl := hst.own.1
    have hil : i < nodes.length := by have := (List.getElem?_eq_some_iff.1 hi).1; omega
    obtain ⟨u', e, hu'⟩ := hst.rows i hil
    rw [hi] at e
    injection e with e
    subst e
    exact .inl (hu'.lt g hg).2
  · cases hn : nv.ownBlock with
    | none => exact .inl rfl
    | some g =>
      refine .inr fun he => ?_
      have a1 := (hst.own.lt g hn).2
      have a2 := (u1.lt g he.symm).1
      omega
set_option maxRecDepth 20000 in
set_option maxHeartbeats 4000000 in
theorem SegmentNodes_c (v : Value) (m : MachD) (n : Int) (w : World) (h : Mach w v m) (hT : Tab w) :
    Calls Tryz.prog 7 #[v, .int .i64 n] w (NodesRes w m n) := by
  obtain ⟨rv, rfl, hr⟩ := h
  obtain ⟨Ar, cr, rfl, h3, h3'⟩ := hr.form
  have bM := Blk.new w w.heap.size 26 #[.int .i64 m.sy, .int .i64 m.st, .slice Ar m.rules.length cr] rfl
  have hx0 := Ext.alloc w (.cells #[.int .i64 m.sy, .int .i64 m.st, .slice Ar m.rules.length cr] 26)
  have hr0 := hr.ext hx0
  go_enter Tryz.func7, Tryz.ntmps7
  go_wp2_with fail
  refine (ValidMachine_c _ m _ ⟨_, rfl, hr0⟩).mono ?_
  rintro e w1 ⟨rfl, hx1⟩
  cases hmo : machOk m with
  | false =>
    go_wp2
    go_ret3
    exact ⟨.inl ⟨hmo, rfl⟩, hx0.trans hx1⟩
  | true =>
    go_wp2_with fail
    refine (sizeOk_c _ _).mono ?_
    rintro e w' ⟨rfl, rfl⟩
    cases hno : inB n 1 9 with
    | false =>
      go_wp2
      go_ret3
      exact ⟨.inr (.inl ⟨hmo, hno, rfl⟩), hx0.trans hx1⟩
    | true =>
      have hmk := Lib.hid (MOk.of hmo)
      have hnn : 1 ≤ n ∧ n ≤ 9 := by simpa [inB] using hno
      have HMO := Lib.hid hmo
      have HNO := Lib.hid hno
      obtain ⟨nn, hnE⟩ : ∃ nn : Nat, n = (nn : Int) := ⟨n.toNat, by omega⟩
      subst hnE
      have n1 : 1 ≤ nn := by omega
      have n2 : nn ≤ 9 := by omega
      have bM1 := bM.ext hx1
      have hX1 := hx0.trans hx1
      have hr1 := hr0.ext hx1
      have hl6 := hmk.out.len2
      have c0 := bM1.cell 0
      have c1 := bM1.cell 1
      have c2 := bM1.cell 2
      simp only [List.getElem?_toArray, List.getElem?_cons_zero, List.getElem?_cons_succ] at c0 c1 c2
      clear hmo hno bM hx0 hx1 hnn
      go_wp2_with fail
      refine (segmentsOf_c _ m nn w1 _ rfl hr1 hl6 hmk.out.sy1 hmk.out.sy2 n1 n2 (fun x hx => (starts_ok hmk.out n1 x hx).fits hmk.out n1 n2) (hT.below hT.low hX1)).mono ?_
      rintro e w2 ⟨bs, nv, vs, bm, rfl, hst, hx2⟩
      clear c0 c1 c2
      obtain ⟨s0, hs0⟩ : ∃ s0, s0 = iterS m nn 0 := ⟨_, rfl⟩
      have hs1 : addAll ([], false) (startsIn m nn) = s0 := hs0.symm
      rw [hs1] at hst ⊢
      have HS0 := Lib.hid hs0
      clear hs0 hs1
      have bM2 := bM1.ext hx2
      have hX2 := hX1.trans hx2
      have hr2 := hr.ext hX2
      clear hr0
      go_wp2
      go_loopw [8, 9] (fun r i wr => ∃ (k : Nat) (s : List (List Int) × Bool) (nv : Value) (vs : List Value), s = iterS m nn k ∧ i = .int .i64 k ∧ r = .bool (decide (s.1.length ≤ 2000)) ∧ (∀ j < k, goesS m nn j) ∧ SegSt w1.heap.size wr bs m (.slice Ar m.rules.length cr) s.1 s.2 nv vs bm ∧ Below w1.heap.size w2 wr) (fun _ i _ => 2001 - (intOf i).toNat)
      case atStart => exact ⟨0, s0, nv, vs, HS0.out, rfl, rfl, fun j hj => by omega, hst, Below.refl _ _⟩
      case round =>
        clear hst
        obtain ⟨k, s, nv, vs, hsk, rfl, rfl, hgo, hst, hbl⟩ := hrel
        have hE : Ext w1 wr := Below.trans hx2 hbl
        have hX := hX1.trans hE
        have bM3 := bM1.ext hE
        obtain ⟨An, cn, rfl, q1, q2, _⟩ := (ownsRow_row hst.own).form
        have cb := hst.blk.cell 3
        have cb5 := hst.blk.cell 5
        have c0 := bM3.cell 0
        have c1 := bM3.cell 1
        have c2 := bM3.cell 2
        simp only [List.getElem?_toArray, List.getElem?_cons_zero, List.getElem?_cons_succ] at cb cb5 c0 c1 c2
        have HSK := Lib.hid hsk
        have HGO := Lib.hid hgo
        clear bM2 bM1 hsk hgo
        by_cases hroom : s.1.length ≤ 2000
        · have hd : decide (s.1.length ≤ 2000) = true := by simp [hroom]
          by_cases hlt : k < s.1.length
          · obtain ⟨u, hu, hru⟩ := hst.rows k hlt
            obtain ⟨g, rfl, hgb, hgl⟩ := own_at hst.own (by omega)
            have q0 := hst.own.cellAt k (by omega)
            rw [hu] at q0
            obtain ⟨Au, cu, rfl, _, _⟩ := hru.ints.form
            have NOK := Lib.hid (iterS_ok hmk.out n1 k (fun j hj => (HGO.out j hj).1) s.1[k] (by rw [← HSK.out]; exact List.getElem_mem hlt))
            generalize hy : s.1[k] = y at *
            have HY := Lib.hid hy
            clear hy
            have y0 := NOK.out.len
            have y1 := NOK.out.lo
            have y2 := NOK.out.hi
            have hrr := hr.ext hX
            have HPO := Lib.hid (fun x hx => (predsTo_ok hmk.out n1 NOK.out _ (Nat.le_refl _) x hx).fits hmk.out n1 n2)
            have HNF := Lib.hid (fun x hx => (iterS_ok hmk.out n1 k (fun j hj => (HGO.out j hj).1) x (by rw [← HSK.out]; exact hx)).fits hmk.out n1 n2)
            have hMr : Mach wr.drew (.agg #[.int .i64 m.sy, .int .i64 m.st, .slice Ar m.rules.length cr]) m := ⟨_, rfl, hrr.ext (Ext.drew _)⟩
            have hiy : Ints wr.drew (.slice Au y.length cu) y := hru.ints.ext (Ext.drew _)
            have hy3 : 3 ≤ y.length := by omega
            have hy11 : y.length ≤ 11 := by omega
            have hyx : y.getD 0 0 ≤ (y.length : Int) - 2 := by omega
            clear y0
            have hlen5 : s.1.length + (predsTo m y m.rules.length).length ≤ 100000 := by have := predsTo_length m y m.rules.length; omega
            go_wp2_with fail
            go_region_law
              (first
                | (go_simp; go_at_call 22; ((with_reducible refine (segmentPredecessors_c _ _ m y _ hMr hiy hl6 hmk.out.sy1 hmk.out.sy2 hmk.out.mv hy3 hy11 y1 hyx).mono ?_)); rintro e w5 ⟨u5, rfl, ⟨us, u1, u2, u3⟩, hx5⟩; have hx5' := (Ext.drew wr).trans hx5; have inv5 := FindInv.start (list := predsTo m y m.rules.length) hst hx5' u1 u2; have hT5 := hT.below hT.low (hX.trans hx5'); have hT6 := hT.low.mono hX1.size; have hs5 := hE.size; have hs6 := hx5'.size)
                | (go_simp; go_at_call 21; ((with_reducible refine (find_c w1.heap.size wr.heap.size w5 bs m _ u5 (predsTo m y m.rules.length) us s.1 s.2 _ vs bm inv5 hs5 hs6 u3 HNF.out HPO.out hlen5 hT5 hT6).mono ?_)); rintro e w6 ⟨rfl, ⟨nv6, vs6, hst6⟩, hb6⟩))
            all_goals
              have HN : Hid (addAll (s.1, s.2) (predsTo m y m.rules.length) = iterS m nn (k + 1)) := by
                show _ = stepS m (iterS m nn k) k
                rw [← HSK.out]
                unfold stepS
                rw [List.getD_eq_getElem?_getD, List.getElem?_eq_getElem hlt, HY.out]
                rfl
              generalize addAll (s.1, s.2) (predsTo m y m.rules.length) = s' at *
              have HG : Hid (goesS m nn k) := ⟨by rw [← HSK.out]; exact hlt, by rw [← HSK.out]; exact hroom⟩
              try go_wp2
              go_roundw
              · exact ⟨k + 1, s', nv6, vs6, HN.out, by go_num, rfl, fun j hj => if c : j = k then c ▸ HG.out else HGO.out j (by omega), hst6, (hbl.trans (Below.mono hx5' hE.size)).trans hb6⟩
              · simp [intOf]; omega
          · have HE : Hid (EndsS m nn k) := ⟨HGO.out, fun hh => hlt (by rw [HSK.out]; exact hh.1)⟩
            have f3 := cellR cb
            have f5 := cellR cb5
            go_wp2
            refine wp_region_ext (by kernel_rfl) (by kernel_rfl) ?_
            repeat (go_big_quiet_step (fail))
            refine wpQuiet_nil ?_
            intro w4 hx4
            go_wp2
            go_ret3
            have hst4 := hst.ext hx4
            refine ⟨.inr (.inr ⟨HMO.out, HNO.out, k, HE.out, .inr ⟨by rw [HSK.out] at hroom; exact hroom, .slice An s.1.length cn, ?_, ?_⟩⟩), hX.trans hx4⟩
            · show _ = Ending.returned (.tuple #[_, .bool (!(iterS m nn k).2), _])
              rw [← HSK.out]
              rfl
            · show OwnIntRows w.heap.size w4 _ (iterS m nn k).1
              rw [← HSK.out]
              obtain ⟨vs4, o1, o2, o3⟩ := hst4.own_rows
              exact ⟨vs4, ownsRow_base o1 hX1.size, fun i hi => by obtain ⟨u, e, hu⟩ := o2 i hi; exact ⟨u, e, hu.base hX1.size⟩, o3⟩
        · have hd : decide (s.1.length ≤ 2000) = false := by simp [hroom]
          have HE : Hid (EndsS m nn k ∧ 2000 < (iterS m nn k).1.length) := ⟨⟨HGO.out, fun hh => hroom (by rw [HSK.out]; exact hh.2)⟩, by rw [← HSK.out]; omega⟩
          clear hroom
          go_wp2
          go_ret3
          exact ⟨.inr (.inr ⟨HMO.out, HNO.out, k, HE.out.1, .inl ⟨HE.out.2, rfl⟩⟩), hX⟩
end Go.Proofs.YtmffnlpndgdcjaaGreatDoor
