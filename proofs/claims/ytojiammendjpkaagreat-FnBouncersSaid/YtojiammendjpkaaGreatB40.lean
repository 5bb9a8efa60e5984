/- Contract: the search of a formula tape for three words.
Contract: a bouncer's proof for three records. Written by mkcou.py.
Contract: slices.DeleteFunc at records: what is left is some of the records that were there. -/
import Derived.Test.YtojiammendjpkaaGreatB39
import Derived.Lib.SliceRun
import Derived.Lib.SlBuf
section
set_option linter.unusedSimpArgs false
set_option linter.unusedVariables false
namespace Go.Proofs.YtojiammendjpkaaGreat
open Go Go.RowKit Go.Proofs
set_option maxHeartbeats 400000
theorem lists3 {w : World} {ba oa ca bb ob cb : Nat} {a b : List Int} (ha : Ints w (.slice (some ⟨ba, oa, none⟩) a.length ca) a) (hb : Ints w (.slice (some ⟨bb, ob, none⟩) b.length cb) b) {j g : Nat} (h2 : j ≤ a.length) (h4 : j + g ≤ b.length) {gP : Nat} (hP : Blk w gP 27 #[.slice (some ⟨ba, oa, none⟩) j ca, .slice (some ⟨bb, ob + j, none⟩) g (cb - j), .slice (some ⟨ba, oa + j, none⟩) (a.length - j) (ca - j)]) :
    Lists w (.slice (some ⟨gP, 0, none⟩) 3 3) (parts3 a b j g) := by
  refine lists_blk (us := [.slice (some ⟨ba, oa, none⟩) j ca, .slice (some ⟨bb, ob + j, none⟩) g (cb - j), .slice (some ⟨ba, oa + j, none⟩) (a.length - j) (ca - j)]) (xss := parts3 a b j g) hP rfl (by simp) (fun n hn hn' => ?_)
  simp only [List.length_cons, List.length_nil] at hn
  have p1 : Ints w (.slice (some ⟨ba, oa, none⟩) j ca) (a.take j) := ha.take j h2
  have p2 := hb.part j g (by omega)
  have p5 := ha.drop j h2
  have e : n = 0 ∨ n = 1 ∨ n = 2 := by omega
  rcases e with rfl | rfl | rfl
  · exact ⟨p1, .inr ⟨_, _, _, _, rfl⟩⟩
  · exact ⟨p2, .inr ⟨_, _, _, _, rfl⟩⟩
  · exact ⟨p5, .inr ⟨_, _, _, _, rfl⟩⟩
set_option maxRecDepth 20000 in
set_option maxHeartbeats 8000000 in
theorem repeatsIn_c (bm : Nat) (m : MachD) (mv : Value) (q : Int) (av bv cv : Value) (a b C : List Int) (w00 : World) (hM : Blk w00 bm 26 #[.int .i64 m.sy, .int .i64 m.st, mv])
    (ha : Ints w00 av a) (hb : Ints w00 bv b) (hc : Ints w00 cv C) (hla : a.length ≤ 1000) (hlb : b.length ≤ 1000) (hlc : C.length ≤ 1000) :
    Calls Tryz.prog 119 #[.int .i64 q, av, bv, cv] w00 (FndRes w00 q a b (fun v => v = .int .i64 0) (fun v => v = .int .i64 7 ∨ v = .int .i64 3)) := by
  obtain ⟨Aa, ca, rfl, hca, hca2⟩ := ha.form
  obtain ⟨Ab, cb, rfl, hcb, hcb2⟩ := hb.form
  obtain ⟨Ac, cc0, rfl, _, _⟩ := hc.form
  obtain ⟨gO, hgO⟩ : ∃ g, w00.heap.size = g := ⟨_, rfl⟩
  obtain ⟨w, hw⟩ : ∃ W, W = w00.alloc (.cells #[.int .i64 0, .int .i64 0, .int .i64 0, .slice none 0 0, .slice none 0 0, .slice none 0 0] 49) := ⟨_, rfl⟩
  have hX : Ext w00 w := by rw [hw]; exact Ext.alloc _ _
  have bO : Blk w gO 49 #[.int .i64 0, .int .i64 0, .int .i64 0, .slice none 0 0, .slice none 0 0, .slice none 0 0] := by rw [hw]; exact Blk.new _ _ _ _ hgO
  have HW := Lib.hid (And.intro hX (And.intro bO hgO))
  have HIN := Lib.hid (And.intro (hM.ext hX) (And.intro (ha.ext hX) (And.intro (hb.ext hX) (hc.ext hX))))
  have hw1 : IntKind.i64.wrap ((b.length : Int) - (a.length : Int)) = (b.length : Int) - (a.length : Int) := IntWalk.i64_in _ (by omega)
  have hw2 : IntKind.i64.wrap ((C.length : Int) - (b.length : Int)) = (C.length : Int) - (b.length : Int) := IntWalk.i64_in _ (by omega)
  clear hX bO hM ha hb hc
  go_enter Tryz.func119, Tryz.ntmps119
  go_upto_region 1 with fail
  try rw [← hw]
  try rw [hgO]
  clear hw hgO
  obtain ⟨x1, hx1⟩ : ∃ x, inB (a.length : Int) 1 40 = x := ⟨_, rfl⟩
  have HX1 := Lib.hid hx1
  go_upto_region 2 with fail
  go_cut [41] (fun u wx => u = .bool (!x1 || decide ((b.length : Int) - (a.length : Int) < 1) || decide (8 < (b.length : Int) - (a.length : Int)) || ((C.length : Int) - (b.length : Int) != (b.length : Int) - (a.length : Int))) ∧ w = wx)
  case first =>
    go_wp2_with fail
    refine (sizeIN_c _ _ _ _).mono ?_
    rintro e w2 ⟨rfl, hww⟩
    subst hww
    go_wp2_with fail
    refine (within_c _ _ _ _).mono ?_
    rintro e w3 ⟨rfl, hww⟩
    subst hww
    rw [hx1]
    clear hx1
    cases x1
    all_goals go_wp2_with fail
    all_goals (go_meet; exact ⟨by simp_all, rfl⟩)
  case rest =>
    obtain ⟨rfl, rfl⟩ := hcut
    obtain ⟨y, hy⟩ : ∃ y, (!x1 || decide ((b.length : Int) - (a.length : Int) < 1) || decide (8 < (b.length : Int) - (a.length : Int)) || ((C.length : Int) - (b.length : Int) != (b.length : Int) - (a.length : Int))) = y := ⟨_, rfl⟩
    have HY := Lib.hid hy
    rw [hy]
    clear hy
    cases y with
    | true =>
      have bO := HW.out.2.1
      have q0 := bO.cell 0
      have z0 := bO.frozen 0
      have q1 := bO.cell 1
      have z1 := bO.frozen 1
      have q2 := bO.cell 2
      have z2 := bO.frozen 2
      have q3 := bO.cell 3
      have z3 := bO.frozen 3
      have q4 := bO.cell 4
      have z4 := bO.frozen 4
      have q5 := bO.cell 5
      have z5 := bO.frozen 5
      simp only [List.getElem?_toArray, List.getElem?_cons_zero, List.getElem?_cons_succ] at q0 q1 q2 q3 q4 q5
      clear bO
      go_wp2
      refine bodyPost_ret (v := .tuple #[.agg #[.int .i64 0, .int .i64 0, .int .i64 0, .slice none 0 0, .slice none 0 0, .slice none 0 0], .int .i64 7]) (by simp [results, Tryz.results119, go_sem, q0, q1, q2, q3, q4, q5]) rfl ?_
      exact ⟨ext_set6 HW.out.1 (by have := HW.out.2.2; omega) _ _ _ _ _ _, _, _, rfl, .inl ⟨.inl rfl, rfl⟩⟩
    | false =>
      have hv := HY.out
      rw [← HX1.out] at hv
      simp only [Bool.or_eq_false_iff, Bool.not_eq_false', decide_eq_false_iff_not, bne_eq_false_iff_eq, inB_iff] at hv
      obtain ⟨g, hgd⟩ : ∃ g : Nat, b.length = a.length + g := ⟨b.length - a.length, by omega⟩
      have hal : 1 ≤ a.length ∧ a.length ≤ 40 := by omega
      have hg : 1 ≤ g ∧ g ≤ 8 := by omega
      have hbl : b.length = a.length + g := by omega
      have HBL := Lib.hid hbl
      have hbl2 : a.length + g ≤ b.length ∧ b.length ≤ a.length + g := by omega
      have hw1' : IntKind.i64.wrap ((b.length : Int) - (a.length : Int)) = (g : Int) := by rw [show (b.length : Int) - (a.length : Int) = (g : Int) by omega]; exact IntWalk.i64_in _ (by omega)
      clear hv hw1 hw2 hbl hgd HY hx1 HX1
      have hge : (b.length : Int) - (a.length : Int) = (g : Int) := by omega
      obtain ⟨ba, oa, rfl, _⟩ := HIN.out.2.1.at (k := 0) (by omega)
      obtain ⟨bb, ob, rfl, _⟩ := HIN.out.2.2.1.at (k := 0) (by omega)
      go_wp2_with fail
      rw [hge]
      clear hge hw1'
      go_loopw [45] (fun s wr => ∃ j : Nat, j ≤ a.length ∧ s = .int .i64 (j : Int) ∧ Hid (Ext w wr)) (fun s _ => a.length - (intOf s).toNat)
      case atStart => exact ⟨0, Nat.zero_le _, rfl, Lib.hid (Ext.refl _)⟩
      case round =>
        obtain ⟨j, hj, rfl, HXJ⟩ := hrel
        by_cases hja : j < a.length
        · have hdj : decide ((j : Int) < (a.length : Int)) = true := decide_eq_true (by omega)
          have hxr := HXJ.out
          obtain ⟨f0, hf0⟩ : ∃ f, bncF q (parts3 a b j g) = f := ⟨_, rfl⟩
          go_upto_region 7 with fail
          go_cut [12, 13] (fun u1 u2 wx => TryAt w f0 u1 u2 wx)
          case first =>
            have hwjg : IntKind.i64.wrap ((j : Int) + (g : Int)) = ((j + g : Nat) : Int) := by rw [show (j : Int) + (g : Int) = ((j + g : Nat) : Int) by omega]; exact IntWalk.i64_in _ (by omega)
            have BC : ∀ x, Ext w x → ∀ gP, Blk x gP 27 #[.slice (some ⟨ba, oa, none⟩) j ca, .slice (some ⟨bb, ob + j, none⟩) g (cb - j), .slice (some ⟨ba, oa + j, none⟩) (a.length - j) (ca - j)] → Calls Tryz.prog 158 #[.int .i64 q, .slice (some ⟨bb, ob, none⟩) b.length cb, .slice Ac C.length cc0, .slice (some ⟨gP, 0, none⟩) 3 3] x fun e w' => Ext x w' ∧ ∃ b v, e = .returned (.tuple #[v, .bool b]) ∧ OwnFo w.heap.size w' v f0 := fun x hx gP hP =>
              (bounced_c bm m mv q _ _ _ b C (parts3 a b j g) x (HIN.out.1.ext hx) (HIN.out.2.2.1.ext hx) (HIN.out.2.2.2.ext hx) (lists3 (HIN.out.2.1.ext hx) (HIN.out.2.2.1.ext hx) (by omega) (by omega) hP) (.inl rfl)
                (fun y hy => by have := ((tried3 hal.2 hja hg HBL.out).wl y hy).1; omega)).mono fun e w' h => ⟨h.1, by obtain ⟨b', v', e', o'⟩ := h.2; exact ⟨b', v', e', by rw [← hf0]; exact o'.base hx.size⟩⟩
            refine wp_region_ordT 22 (readsT [0, 1, 2, 3, 4, 5, 6, 7, 8, 9, 10, 11, 12, 13, 14] (.fork 15 (.fork 16 (readsT [17, 18, 19] (.stir 20 (.stir 21 .done))) 20 (.stir 16 (readsT [17, 18, 19] (.stir 21 .done)))) 20 (.stir 15 (.stir 16 (readsT [17, 18, 19] (.stir 21 .done)))))) (by kernel_rfl) (by kernel_rfl) (fun _ _ _ _ _ h => h) ?_
            simp only [readsT]
            refine wpOrdT_read (v := ?_) (by rfl) (Or.inl ⟨by rfl, fun x hx => ?_⟩) ?_; rotate_left; (· go_simp; try with_reducible rfl); try simp only [Act.put, List.setIfInBounds_toArray, List.set_cons_zero, List.set_cons_succ]
            refine wpOrdT_read (v := ?_) (by rfl) (Or.inl ⟨by rfl, fun x hx => ?_⟩) ?_; rotate_left; (· go_simp; try with_reducible rfl); try simp only [Act.put, List.setIfInBounds_toArray, List.set_cons_zero, List.set_cons_succ]
            refine wpOrdT_read (v := ?_) (by rfl) (Or.inl ⟨by rfl, fun x hx => ?_⟩) ?_; rotate_left; (· go_simp; try with_reducible rfl); try simp only [Act.put, List.setIfInBounds_toArray, List.set_cons_zero, List.set_cons_succ]
            refine wpOrdT_read (v := ?_) (by rfl) (Or.inl ⟨by rfl, fun x hx => ?_⟩) ?_; rotate_left; (· go_simp; try with_reducible rfl); try simp only [Act.put, List.setIfInBounds_toArray, List.set_cons_zero, List.set_cons_succ]
            refine wpOrdT_read (v := ?_) (by rfl) (Or.inl ⟨by rfl, fun x hx => ?_⟩) ?_; rotate_left; (· go_simp; try with_reducible rfl); try simp only [Act.put, List.setIfInBounds_toArray, List.set_cons_zero, List.set_cons_succ]
            refine wpOrdT_read (v := .slice (some ⟨ba, oa, none⟩) j ca) (by rfl) (Or.inl ⟨by rfl, fun x hx => ?_⟩) ?_
            · go_simp
              intro hh
              exact absurd hh (by omega)
            try simp only [Act.put, List.setIfInBounds_toArray, List.set_cons_zero, List.set_cons_succ]
            refine wpOrdT_read (v := ?_) (by rfl) (Or.inl ⟨by rfl, fun x hx => ?_⟩) ?_; rotate_left; (· go_simp; try with_reducible rfl); try simp only [Act.put, List.setIfInBounds_toArray, List.set_cons_zero, List.set_cons_succ]
            refine wpOrdT_read (v := ?_) (by rfl) (Or.inl ⟨by rfl, fun x hx => ?_⟩) ?_; rotate_left; (· go_simp; try with_reducible rfl); try simp only [Act.put, List.setIfInBounds_toArray, List.set_cons_zero, List.set_cons_succ]
            refine wpOrdT_read (v := ?_) (by rfl) (Or.inl ⟨by rfl, fun x hx => ?_⟩) ?_; rotate_left; (· go_simp; try with_reducible rfl); try simp only [Act.put, List.setIfInBounds_toArray, List.set_cons_zero, List.set_cons_succ]
            refine wpOrdT_read (v := ?_) (by rfl) (Or.inl ⟨by rfl, fun x hx => ?_⟩) ?_; rotate_left; (· go_simp; try with_reducible rfl); try simp only [Act.put, List.setIfInBounds_toArray, List.set_cons_zero, List.set_cons_succ]
            refine wpOrdT_read (v := ?_) (by rfl) (Or.inl ⟨by rfl, fun x hx => ?_⟩) ?_; rotate_left; (· go_simp; try with_reducible rfl); try simp only [Act.put, List.setIfInBounds_toArray, List.set_cons_zero, List.set_cons_succ]
            refine wpOrdT_read (v := .slice (some ⟨bb, ob + j, none⟩) g (cb - j)) (by rfl) (Or.inl ⟨by rfl, fun x hx => ?_⟩) ?_
            · go_simp
              repeat (first | rw [if_pos (by omega)] | rw [if_neg (by omega)])
              rw [show ((j : Int) + (g : Int)).toNat - j = g by omega]
            try simp only [Act.put, List.setIfInBounds_toArray, List.set_cons_zero, List.set_cons_succ]
            refine wpOrdT_read (v := ?_) (by rfl) (Or.inl ⟨by rfl, fun x hx => ?_⟩) ?_; rotate_left; (· go_simp; try with_reducible rfl); try simp only [Act.put, List.setIfInBounds_toArray, List.set_cons_zero, List.set_cons_succ]
            refine wpOrdT_read (v := ?_) (by rfl) (Or.inl ⟨by rfl, fun x hx => ?_⟩) ?_; rotate_left; (· go_simp; try with_reducible rfl); try simp only [Act.put, List.setIfInBounds_toArray, List.set_cons_zero, List.set_cons_succ]
            refine wpOrdT_read (v := .slice (some ⟨ba, oa + j, none⟩) (a.length - j) (ca - j)) (by rfl) (Or.inl ⟨by rfl, fun x hx => ?_⟩) ?_
            · go_simp
              intro hh
              omega
            try simp only [Act.put, List.setIfInBounds_toArray, List.set_cons_zero, List.set_cons_succ]
            have xD : Ext w wr.drew := hxr.trans (Ext.drew wr)
            generalize wr.drew = w0 at *
            refine wpOrdT_forks (by rfl) (by rfl) (fun K hK => ?_) (fun K hK => ?_)
            · go_simp
              have bB : Blk (w0.alloc (.cells #[.slice (some ⟨ba, oa, none⟩) j ca, .slice (some ⟨bb, ob + j, none⟩) g (cb - j), .slice (some ⟨ba, oa + j, none⟩) (a.length - j) (ca - j)] 27)) w0.heap.size 27 #[.slice (some ⟨ba, oa, none⟩) j ca, .slice (some ⟨bb, ob + j, none⟩) g (cb - j), .slice (some ⟨ba, oa + j, none⟩) (a.length - j) (ca - j)] := Blk.new _ _ _ _ (rfl)
              have xB : Ext w0 (w0.alloc (.cells #[.slice (some ⟨ba, oa, none⟩) j ca, .slice (some ⟨bb, ob + j, none⟩) g (cb - j), .slice (some ⟨ba, oa + j, none⟩) (a.length - j) (ca - j)] 27)) := Ext.alloc _ _
              refine hK (Ext w0) _ _ (fun _ h => h) xB ?_
              clear hK K
              try simp only [Act.put, List.setIfInBounds_toArray, List.set_cons_zero, List.set_cons_succ]
              refine wpOrdT_forks (by rfl) (by rfl) (fun K hK => ?_) (fun K hK => ?_)
              · go_simp
                go_at_call 158
                refine (BC _ (xD.trans xB) _ (bB)).mono ?_
                rintro e wC ⟨hxC, bq, vq, rfl, wv, rv, ov, rfl, oW, oR, oO⟩
                obtain ⟨A1, c1, rfl, _, _⟩ := oW.lists.form
                obtain ⟨A2, c2, rfl, _, _⟩ := oR.lists.form
                obtain ⟨A3, c3, rfl, _, _⟩ := oO.ints.form
                have xC : Ext w0 wC := xB.trans hxC
                refine hK (Ext w0) _ _ (fun _ h => h) xC ?_
                clear hK K
                try simp only [Act.put, List.setIfInBounds_toArray, List.set_cons_zero, List.set_cons_succ]
                iterate 3 (refine wpOrdT_read (v := ?_) (by rfl) (Or.inl ⟨by rfl, fun x hx => ?_⟩) ?_; rotate_left; (· go_simp; try with_reducible rfl); try simp only [Act.put, List.setIfInBounds_toArray, List.set_cons_zero, List.set_cons_succ])
                refine wpOrdT_keep (by rfl) (fun K hK => ?_)
                go_simp
                have bA : Blk (wC.alloc (.cells #[.int .i64 0, .int .i64 0, .int .i64 0, .slice none 0 0, .slice none 0 0, .slice none 0 0] 49)) wC.heap.size 49 #[.int .i64 0, .int .i64 0, .int .i64 0, .slice none 0 0, .slice none 0 0, .slice none 0 0] := Blk.new _ _ _ _ (rfl)
                have xA : Ext w0 (wC.alloc (.cells #[.int .i64 0, .int .i64 0, .int .i64 0, .slice none 0 0, .slice none 0 0, .slice none 0 0] 49)) := xC.trans (Ext.alloc _ _)
                have nA : w0.heap.size ≤ wC.heap.size := xC.size
                refine hK _ _ xA ?_
                clear hK K
                try simp only [Act.put, List.setIfInBounds_toArray, List.set_cons_zero, List.set_cons_succ]
                have oF0 : OwnFo w.heap.size wC (.agg #[.int .i64 f0.q, .int .i64 f0.hd, .int .i64 f0.at_, .slice A1 f0.ws.length c1, .slice A2 f0.rs.length c2, .slice A3 f0.os.length c3]) f0 := ⟨_, _, _, rfl, oW, oR, oO⟩
                have oF : OwnFo w.heap.size (wC.alloc (.cells #[.int .i64 0, .int .i64 0, .int .i64 0, .slice none 0 0, .slice none 0 0, .slice none 0 0] 49)) (.agg #[.int .i64 f0.q, .int .i64 f0.hd, .int .i64 f0.at_, .slice A1 f0.ws.length c1, .slice A2 f0.rs.length c2, .slice A3 f0.os.length c3]) f0 := oF0.ext (Ext.alloc wC (.cells #[.int .i64 0, .int .i64 0, .int .i64 0, .slice none 0 0, .slice none 0 0, .slice none 0 0] 49))
                generalize wC.alloc (.cells #[.int .i64 0, .int .i64 0, .int .i64 0, .slice none 0 0, .slice none 0 0, .slice none 0 0] 49) = wA at *
                generalize wC.heap.size = gN at *
                have y0 := bA.cell 0
                have z0 := bA.frozen 0
                have y1 := bA.cell 1
                have z1 := bA.frozen 1
                have y2 := bA.cell 2
                have z2 := bA.frozen 2
                have y3 := bA.cell 3
                have z3 := bA.frozen 3
                have y4 := bA.cell 4
                have z4 := bA.frozen 4
                have y5 := bA.cell 5
                have z5 := bA.frozen 5
                simp only [List.getElem?_toArray, List.getElem?_cons_zero, List.getElem?_cons_succ] at y0 y1 y2 y3 y4 y5
                have xF := xD.trans xA
                have HA := Lib.hid (And.intro bA (And.intro xA (And.intro nA (And.intro oF (And.intro xD xF)))))
                clear bA xA nA oF xF
                refine wpOrdT_keep (by rfl) (fun K hK => ?_)
                go_simp
                have nA := HA.out.2.2.1
                refine hK _ _ ((((((HA.out.2.1.setCell nA _).setCell nA _).setCell nA _).setCell nA _).setCell nA _).setCell nA _) ?_
                clear hK K
                try simp only [Act.put, List.setIfInBounds_toArray, List.set_cons_zero, List.set_cons_succ]
                refine wpOrdT_done ?_
                try simp only [List.drop_succ_cons, List.drop_zero]
                go_wp2_with fail
                go_meet
                have nA' : w.heap.size ≤ gN := Nat.le_trans HA.out.2.2.2.2.1.size nA
                have xF := HA.out.2.2.2.2.2
                have bA := HA.out.1
                have oF := HA.out.2.2.2.1
                exact ⟨_, _, rfl, rfl, Lib.hid ⟨(((((xF.setCell nA' _).setCell nA' _).setCell nA' _).setCell nA' _).setCell nA' _).setCell nA' _, _, _, _, _, _, _, _, _, _, (((((bA.set_ 0 _).set_ 1 _).set_ 2 _).set_ 3 _).set_ 4 _).set_ 5 _, oF.far6 bA (by decide) (by decide) _ _ _ _ _ _⟩⟩
              · go_simp
                have bA : Blk ((w0.alloc (.cells #[.slice (some ⟨ba, oa, none⟩) j ca, .slice (some ⟨bb, ob + j, none⟩) g (cb - j), .slice (some ⟨ba, oa + j, none⟩) (a.length - j) (ca - j)] 27)).alloc (.cells #[.int .i64 0, .int .i64 0, .int .i64 0, .slice none 0 0, .slice none 0 0, .slice none 0 0] 49)) (w0.heap.size + 1) 49 #[.int .i64 0, .int .i64 0, .int .i64 0, .slice none 0 0, .slice none 0 0, .slice none 0 0] := Blk.new _ _ _ _ (World.size_alloc _ _)
                have xA : Ext w0 ((w0.alloc (.cells #[.slice (some ⟨ba, oa, none⟩) j ca, .slice (some ⟨bb, ob + j, none⟩) g (cb - j), .slice (some ⟨ba, oa + j, none⟩) (a.length - j) (ca - j)] 27)).alloc (.cells #[.int .i64 0, .int .i64 0, .int .i64 0, .slice none 0 0, .slice none 0 0, .slice none 0 0] 49)) := xB.trans (Ext.alloc _ _)
                have nA : w0.heap.size ≤ (w0.heap.size + 1) := Nat.le_succ _
                refine hK (Ext w0) _ _ (fun _ h => h) xA ?_
                clear hK K
                try simp only [Act.put, List.setIfInBounds_toArray, List.set_cons_zero, List.set_cons_succ]
                refine wpOrdT_keep (by rfl) (fun K hK => ?_)
                go_simp
                go_at_call 158
                refine (BC _ (xD.trans xA) _ (bB.alloc _)).mono ?_
                rintro e wC ⟨hxC, bq, vq, rfl, wv, rv, ov, rfl, oW, oR, oO⟩
                obtain ⟨A1, c1, rfl, _, _⟩ := oW.lists.form
                obtain ⟨A2, c2, rfl, _, _⟩ := oR.lists.form
                obtain ⟨A3, c3, rfl, _, _⟩ := oO.ints.form
                have xC : Ext w0 wC := xA.trans hxC
                refine hK _ _ xC ?_
                clear hK K
                try simp only [Act.put, List.setIfInBounds_toArray, List.set_cons_zero, List.set_cons_succ]
                iterate 3 (refine wpOrdT_read (v := ?_) (by rfl) (Or.inl ⟨by rfl, fun x hx => ?_⟩) ?_; rotate_left; (· go_simp; try with_reducible rfl); try simp only [Act.put, List.setIfInBounds_toArray, List.set_cons_zero, List.set_cons_succ])
                replace bA := bA.ext hxC
                replace xA := xC
                have oF : OwnFo w.heap.size wC (.agg #[.int .i64 f0.q, .int .i64 f0.hd, .int .i64 f0.at_, .slice A1 f0.ws.length c1, .slice A2 f0.rs.length c2, .slice A3 f0.os.length c3]) f0 := ⟨_, _, _, rfl, oW, oR, oO⟩
                have y0 := bA.cell 0
                have z0 := bA.frozen 0
                have y1 := bA.cell 1
                have z1 := bA.frozen 1
                have y2 := bA.cell 2
                have z2 := bA.frozen 2
                have y3 := bA.cell 3
                have z3 := bA.frozen 3
                have y4 := bA.cell 4
                have z4 := bA.frozen 4
                have y5 := bA.cell 5
                have z5 := bA.frozen 5
                simp only [List.getElem?_toArray, List.getElem?_cons_zero, List.getElem?_cons_succ] at y0 y1 y2 y3 y4 y5
                have xF := xD.trans xA
                have HA := Lib.hid (And.intro bA (And.intro xA (And.intro nA (And.intro oF (And.intro xD xF)))))
                clear bA xA nA oF xF
                refine wpOrdT_keep (by rfl) (fun K hK => ?_)
                go_simp
                have nA := HA.out.2.2.1
                refine hK _ _ ((((((HA.out.2.1.setCell nA _).setCell nA _).setCell nA _).setCell nA _).setCell nA _).setCell nA _) ?_
                clear hK K
                try simp only [Act.put, List.setIfInBounds_toArray, List.set_cons_zero, List.set_cons_succ]
                refine wpOrdT_done ?_
                try simp only [List.drop_succ_cons, List.drop_zero]
                go_wp2_with fail
                go_meet
                have nA' : w.heap.size ≤ (w0.heap.size + 1) := Nat.le_trans HA.out.2.2.2.2.1.size nA
                have xF := HA.out.2.2.2.2.2
                have bA := HA.out.1
                have oF := HA.out.2.2.2.1
                exact ⟨_, _, rfl, rfl, Lib.hid ⟨(((((xF.setCell nA' _).setCell nA' _).setCell nA' _).setCell nA' _).setCell nA' _).setCell nA' _, _, _, _, _, _, _, _, _, _, (((((bA.set_ 0 _).set_ 1 _).set_ 2 _).set_ 3 _).set_ 4 _).set_ 5 _, oF.far6 bA (by decide) (by decide) _ _ _ _ _ _⟩⟩
            · go_simp
              have bA : Blk (w0.alloc (.cells #[.int .i64 0, .int .i64 0, .int .i64 0, .slice none 0 0, .slice none 0 0, .slice none 0 0] 49)) w0.heap.size 49 #[.int .i64 0, .int .i64 0, .int .i64 0, .slice none 0 0, .slice none 0 0, .slice none 0 0] := Blk.new _ _ _ _ (rfl)
              have xA : Ext w0 (w0.alloc (.cells #[.int .i64 0, .int .i64 0, .int .i64 0, .slice none 0 0, .slice none 0 0, .slice none 0 0] 49)) := Ext.alloc _ _
              have nA : w0.heap.size ≤ w0.heap.size := Nat.le_refl _
              refine hK (Ext w0) _ _ (fun _ h => h) xA ?_
              clear hK K
              try simp only [Act.put, List.setIfInBounds_toArray, List.set_cons_zero, List.set_cons_succ]
              refine wpOrdT_keep (by rfl) (fun K hK => ?_)
              go_simp
              have bB : Blk ((w0.alloc (.cells #[.int .i64 0, .int .i64 0, .int .i64 0, .slice none 0 0, .slice none 0 0, .slice none 0 0] 49)).alloc (.cells #[.slice (some ⟨ba, oa, none⟩) j ca, .slice (some ⟨bb, ob + j, none⟩) g (cb - j), .slice (some ⟨ba, oa + j, none⟩) (a.length - j) (ca - j)] 27)) (w0.heap.size + 1) 27 #[.slice (some ⟨ba, oa, none⟩) j ca, .slice (some ⟨bb, ob + j, none⟩) g (cb - j), .slice (some ⟨ba, oa + j, none⟩) (a.length - j) (ca - j)] := Blk.new _ _ _ _ (World.size_alloc _ _)
              have xB : Ext w0 ((w0.alloc (.cells #[.int .i64 0, .int .i64 0, .int .i64 0, .slice none 0 0, .slice none 0 0, .slice none 0 0] 49)).alloc (.cells #[.slice (some ⟨ba, oa, none⟩) j ca, .slice (some ⟨bb, ob + j, none⟩) g (cb - j), .slice (some ⟨ba, oa + j, none⟩) (a.length - j) (ca - j)] 27)) := xA.trans (Ext.alloc _ _)
              refine hK _ _ xB ?_
              clear hK K
              try simp only [Act.put, List.setIfInBounds_toArray, List.set_cons_zero, List.set_cons_succ]
              refine wpOrdT_keep (by rfl) (fun K hK => ?_)
              go_simp
              go_at_call 158
              refine (BC _ (xD.trans xB) _ (bB)).mono ?_
              rintro e wC ⟨hxC, bq, vq, rfl, wv, rv, ov, rfl, oW, oR, oO⟩
              obtain ⟨A1, c1, rfl, _, _⟩ := oW.lists.form
              obtain ⟨A2, c2, rfl, _, _⟩ := oR.lists.form
              obtain ⟨A3, c3, rfl, _, _⟩ := oO.ints.form
              have xC : Ext w0 wC := xB.trans hxC
              refine hK _ _ xC ?_
              clear hK K
              try simp only [Act.put, List.setIfInBounds_toArray, List.set_cons_zero, List.set_cons_succ]
              iterate 3 (refine wpOrdT_read (v := ?_) (by rfl) (Or.inl ⟨by rfl, fun x hx => ?_⟩) ?_; rotate_left; (· go_simp; try with_reducible rfl); try simp only [Act.put, List.setIfInBounds_toArray, List.set_cons_zero, List.set_cons_succ])
              replace bA := (bA.alloc _).ext hxC
              replace xA := xC
              have oF : OwnFo w.heap.size wC (.agg #[.int .i64 f0.q, .int .i64 f0.hd, .int .i64 f0.at_, .slice A1 f0.ws.length c1, .slice A2 f0.rs.length c2, .slice A3 f0.os.length c3]) f0 := ⟨_, _, _, rfl, oW, oR, oO⟩
              have y0 := bA.cell 0
              have z0 := bA.frozen 0
              have y1 := bA.cell 1
              have z1 := bA.frozen 1
              have y2 := bA.cell 2
              have z2 := bA.frozen 2
              have y3 := bA.cell 3
              have z3 := bA.frozen 3
              have y4 := bA.cell 4
              have z4 := bA.frozen 4
              have y5 := bA.cell 5
              have z5 := bA.frozen 5
              simp only [List.getElem?_toArray, List.getElem?_cons_zero, List.getElem?_cons_succ] at y0 y1 y2 y3 y4 y5
              have xF := xD.trans xA
              have HA := Lib.hid (And.intro bA (And.intro xA (And.intro nA (And.intro oF (And.intro xD xF)))))
              clear bA xA nA oF xF
              refine wpOrdT_keep (by rfl) (fun K hK => ?_)
              go_simp
              have nA := HA.out.2.2.1
              refine hK _ _ ((((((HA.out.2.1.setCell nA _).setCell nA _).setCell nA _).setCell nA _).setCell nA _).setCell nA _) ?_
              clear hK K
              try simp only [Act.put, List.setIfInBounds_toArray, List.set_cons_zero, List.set_cons_succ]
              refine wpOrdT_done ?_
              try simp only [List.drop_succ_cons, List.drop_zero]
              go_wp2_with fail
              go_meet
              have nA' : w.heap.size ≤ w0.heap.size := Nat.le_trans HA.out.2.2.2.2.1.size nA
              have xF := HA.out.2.2.2.2.2
              have bA := HA.out.1
              have oF := HA.out.2.2.2.1
              exact ⟨_, _, rfl, rfl, Lib.hid ⟨(((((xF.setCell nA' _).setCell nA' _).setCell nA' _).setCell nA' _).setCell nA' _).setCell nA' _, _, _, _, _, _, _, _, _, _, (((((bA.set_ 0 _).set_ 1 _).set_ 2 _).set_ 3 _).set_ 4 _).set_ 5 _, oF.far6 bA (by decide) (by decide) _ _ _ _ _ _⟩⟩
          case rest =>
            obtain ⟨gN, bb2, rfl, rfl, HT⟩ := hcut
            obtain ⟨xT, A1, A2, A3, n1, n2, n3, c1, c2, c3, bN, oN⟩ := HT.out
            cases bb2 with
            | true =>
              have HTR := Lib.hid (tried3 hal.2 hja hg HBL.out)
              have y0 := bN.cell 0
              have y1 := bN.cell 1
              have y2 := bN.cell 2
              have y3 := bN.cell 3
              have y4 := bN.cell 4
              have y5 := bN.cell 5
              have bO := HW.out.2.1.ext xT
              have q0 := bO.cell 0
              have q1 := bO.cell 1
              have q2 := bO.cell 2
              have q3 := bO.cell 3
              have q4 := bO.cell 4
              have q5 := bO.cell 5
              simp only [List.getElem?_toArray, List.getElem?_cons_zero, List.getElem?_cons_succ] at y0 y1 y2 y3 y4 y5 q0 q1 q2 q3 q4 q5
              have z0 := bO.frozen 0
              have z1 := bO.frozen 1
              have z2 := bO.frozen 2
              have z3 := bO.frozen 3
              have z4 := bO.frozen 4
              have z5 := bO.frozen 5
              have HO := Lib.hid (And.intro bO (And.intro oN xT))
              have HF0 := Lib.hid hf0
              clear bN bO oN xT hf0
              go_wp2
              refine bodyPost_ret (v := .tuple #[.agg #[.int .i64 f0.q, .int .i64 f0.hd, .int .i64 f0.at_, .slice A1 n1 c1, .slice A2 n2 c2, .slice A3 n3 c3], .int .i64 0]) (by simp [results, Tryz.results119, go_sem, q0, q1, q2, q3, q4, q5]) rfl ?_
              exact ⟨ext_set6 (HW.out.1.trans HO.out.2.2) (by have := HW.out.2.2; omega) _ _ _ _ _ _, _, _, rfl, .inr ⟨rfl, _, HTR.out, by rw [HF0.out]; exact (HO.out.2.1.far6 HO.out.1 (by decide) (by decide) _ _ _ _ _ _).base HW.out.1.size⟩⟩
            | false =>
              have hwj : IntKind.i64.wrap ((j : Int) + 1) = ((j + 1 : Nat) : Int) := by rw [show (j : Int) + 1 = ((j + 1 : Nat) : Int) by omega]; exact IntWalk.i64_in _ (by omega)
              have HXT := Lib.hid xT
              clear bN oN xT hf0 hxr
              go_wp2
              go_roundw
              case rel => exact ⟨j + 1, by omega, by go_num, HXT⟩
              case measure => simp [intOf]; omega
        · have hdj : decide ((j : Int) < (a.length : Int)) = false := decide_eq_false (by omega)
          have hxr := HXJ.out
          have TW := twoRepeats_c bm m mv q (.slice Ac C.length cc0) ba oa ca bb ob cb a b C g wr (HIN.out.1.ext hxr) (HIN.out.2.1.ext hxr) (HIN.out.2.2.1.ext hxr) (HIN.out.2.2.2.ext hxr) hal hg HBL.out
          go_wp2_with fail
          refine TW.mono ?_
          rintro e w5 ⟨hx5, v, cd, rfl, ⟨rfl, rfl⟩ | ⟨rfl, ps, hT, ho⟩⟩
          · have hxx := HXJ.out.trans hx5
            have bO := HW.out.2.1.ext hxx
            have q0 := bO.cell 0
            have z0 := bO.frozen 0
            have q1 := bO.cell 1
            have z1 := bO.frozen 1
            have q2 := bO.cell 2
            have z2 := bO.frozen 2
            have q3 := bO.cell 3
            have z3 := bO.frozen 3
            have q4 := bO.cell 4
            have z4 := bO.frozen 4
            have q5 := bO.cell 5
            have z5 := bO.frozen 5
            simp only [List.getElem?_toArray, List.getElem?_cons_zero, List.getElem?_cons_succ] at q0 q1 q2 q3 q4 q5
            have hlt := bO.lt
            have HO := Lib.hid (And.intro bO hxx)
            clear bO hxx hx5 TW hxr
            go_wp2
            refine bodyPost_ret (v := .tuple #[.agg #[.int .i64 0, .int .i64 0, .int .i64 0, .slice none 0 0, .slice none 0 0, .slice none 0 0], .int .i64 3]) (by
              have e0 := (((((((HO.out.1.set_ 0 (.int .i64 0)).set_ 1 (.int .i64 0)).set_ 2 (.int .i64 0)).set_ 3 (.slice none 0 0)).set_ 4 (.slice none 0 0)).set_ 5 (.slice none 0 0)).alloc (.cells #[.int .i64 0, .int .i64 0, .int .i64 0, .slice none 0 0, .slice none 0 0, .slice none 0 0] 49)).cell
              simp [results, Tryz.results119, go_sem, e0]) rfl ?_
            exact ⟨(ext_set6 (HW.out.1.trans HO.out.2) (by have := HW.out.2.2; omega) _ _ _ _ _ _).trans (Ext.alloc _ _), _, _, rfl, .inl ⟨.inr rfl, rfl⟩⟩
          · have hxx := HXJ.out.trans hx5
            obtain ⟨wv, rv, ov, rfl, oW, oR, oO⟩ := id ho
            obtain ⟨f0, hf0⟩ : ∃ f, bncF q ps = f := ⟨_, rfl⟩
            rw [hf0] at ho oW oR oO
            rw [hf0]
            obtain ⟨A1, c1, rfl, _, _⟩ := oW.lists.form
            obtain ⟨A2, c2, rfl, _, _⟩ := oR.lists.form
            obtain ⟨A3, c3, rfl, _, _⟩ := oO.ints.form
            generalize f0.ws.length = k1 at *
            generalize f0.rs.length = k2 at *
            generalize f0.os.length = k3 at *
            have bO := HW.out.2.1.ext hxx
            have q0 := bO.cell 0
            have z0 := bO.frozen 0
            have q1 := bO.cell 1
            have z1 := bO.frozen 1
            have q2 := bO.cell 2
            have z2 := bO.frozen 2
            have q3 := bO.cell 3
            have z3 := bO.frozen 3
            have q4 := bO.cell 4
            have z4 := bO.frozen 4
            have q5 := bO.cell 5
            have z5 := bO.frozen 5
            simp only [List.getElem?_toArray, List.getElem?_cons_zero, List.getElem?_cons_succ] at q0 q1 q2 q3 q4 q5
            have hlt := bO.lt
            have HO := Lib.hid (And.intro bO (And.intro hxx (And.intro ho hf0)))
            have HT := Lib.hid hT
            clear bO hxx hx5 TW ho hf0 oW oR oO hT
            go_wp2
            refine bodyPost_ret (v := .tuple #[.agg #[.int .i64 f0.q, .int .i64 f0.hd, .int .i64 f0.at_, .slice A1 k1 c1, .slice A2 k2 c2, .slice A3 k3 c3], .int .i64 0]) (by
              have e0 := (((((((HO.out.1.set_ 0 (.int .i64 f0.q)).set_ 1 (.int .i64 f0.hd)).set_ 2 (.int .i64 f0.at_)).set_ 3 (.slice A1 k1 c1)).set_ 4 (.slice A2 k2 c2)).set_ 5 (.slice A3 k3 c3)).alloc (.cells #[.int .i64 f0.q, .int .i64 f0.hd, .int .i64 f0.at_, .slice A1 k1 c1, .slice A2 k2 c2, .slice A3 k3 c3] 49)).cell
              simp [results, Tryz.results119, go_sem, e0]) rfl ?_
            exact ⟨(ext_set6 (HW.out.1.trans HO.out.2.1) (by have := HW.out.2.2; omega) _ _ _ _ _ _).trans (Ext.alloc _ _), _, _, rfl, .inr ⟨rfl, ps, HT.out, by rw [HO.out.2.2.2]; exact ((HO.out.2.2.1.far6 HO.out.1 (by decide) (by decide) _ _ _ _ _ _).base (Nat.le_trans HW.out.1.size hxr.size)).ext (Ext.alloc _ _)⟩⟩
end Go.Proofs.YtojiammendjpkaaGreat
end
section
set_option linter.unusedSimpArgs false
set_option linter.unusedVariables false
namespace Go.Proofs.YtojiammendjpkaaGreat
open Go Go.RowKit Go.Proofs
set_option maxHeartbeats 400000
/-- What the search for words says, in one form. -/
def RepOk (B : Nat) (q : Int) (a b : List Int) (v cd : Value) (w : World) : Prop := (cd = .int .i64 7 ∨ cd = .int .i64 3) ∨ cd = .int .i64 0 ∧ ∃ ps, Tried a b ps ∧ OwnFo B w v (bncF q ps)
theorem RepOk.ext {B : Nat} {q : Int} {a b : List Int} {v cd : Value} {w w' : World} (h : RepOk B q a b v cd w) (he : Ext w w') : RepOk B q a b v cd w' :=
  h.imp id fun ⟨h1, ps, h2, h3⟩ => ⟨h1, ps, h2, h3.ext he⟩
theorem RepOk.base {B B' : Nat} {q : Int} {a b : List Int} {v cd : Value} {w : World} (h : RepOk B q a b v cd w) (hB : B' ≤ B) : RepOk B' q a b v cd w :=
  h.imp id fun ⟨h1, ps, h2, h3⟩ => ⟨h1, ps, h2, h3.base hB⟩
theorem RepOk.set6 {B B' : Nat} {q : Int} {a b : List Int} {v cd : Value} {w : World} {g : Nat} {cs : Array Value} (h : RepOk B q a b v cd w) (hb : Blk w g 49 cs) (hB : B' ≤ B) {x0 x1 x2 x3 x4 x5 : Value} :
    RepOk B' q a b v cd ((((((w.setCell ⟨g, 0, none⟩ x0).setCell ⟨g, 1, none⟩ x1).setCell ⟨g, 2, none⟩ x2).setCell ⟨g, 3, none⟩ x3).setCell ⟨g, 4, none⟩ x4).setCell ⟨g, 5, none⟩ x5) :=
  h.imp id fun ⟨h1, ps, h2, h3⟩ => ⟨h1, ps, h2, (h3.far6 hb (by decide) (by decide) _ _ _ _ _ _).base hB⟩
theorem FndRes.rep {w w' : World} {q : Int} {a b : List Int} {e : Ending} (h : FndRes w q a b (fun v => v = .int .i64 0) (fun v => v = .int .i64 7 ∨ v = .int .i64 3) e w') :
    Ext w w' ∧ ∃ (x0 x1 x2 : Int) (A4 : Option Addr) (k4 j4 : Nat) (A5 : Option Addr) (k5 j5 : Nat) (A6 : Option Addr) (k6 j6 : Nat) (cd : Int), e = .returned (.tuple #[.agg #[.int .i64 x0, .int .i64 x1, .int .i64 x2, .slice A4 k4 j4, .slice A5 k5 j5, .slice A6 k6 j6], .int .i64 cd]) ∧ RepOk w.heap.size q a b (.agg #[.int .i64 x0, .int .i64 x1, .int .i64 x2, .slice A4 k4 j4, .slice A5 k5 j5, .slice A6 k6 j6]) (.int .i64 cd) w' := by
  obtain ⟨hx, v, cd, rfl, ⟨hb, rfl⟩ | ⟨rfl, ps, hT, ho⟩⟩ := h
  · refine ⟨hx, ?_⟩
    rcases hb with rfl | rfl
    · exact ⟨_, _, _, _, _, _, _, _, _, _, _, _, _, rfl, .inl (.inl rfl)⟩
    · exact ⟨_, _, _, _, _, _, _, _, _, _, _, _, _, rfl, .inl (.inr rfl)⟩
  · obtain ⟨wv, rv, ov, rfl, oW, oR, oO⟩ := id ho
    obtain ⟨A1, c1, rfl, _, _⟩ := oW.lists.form
    obtain ⟨A2, c2, rfl, _, _⟩ := oR.lists.form
    obtain ⟨A3, c3, rfl, _, _⟩ := oO.ints.form
    exact ⟨hx, _, _, _, _, _, _, _, _, _, _, _, _, _, rfl, .inr ⟨rfl, ps, hT, ho⟩⟩
theorem OwnLists.all {B : Nat} {w : World} {A : Option Addr} {c n : Nat} {xss : List (List Int)} (h : OwnLists B w (.slice A n c) xss) (hn : n = xss.length) (h0 : 0 < n) : ∃ b off, A = some ⟨b, off, none⟩ ∧ ∀ k, (hk : k < xss.length) → ∃ u, w.cell? ⟨b, off + k, none⟩ = some u ∧ OwnInts B w u xss[k] := by
  subst hn
  obtain ⟨vs, hr, hv⟩ := h
  obtain ⟨b, off, rfl, hc⟩ := Row.at (ownsRow_row hr) h0
  refine ⟨b, off, rfl, fun k hk => ?_⟩
  obtain ⟨u, h1, h2⟩ := hv k hk
  exact ⟨u, by rw [hc k (by omega)]; exact h1, h2⟩
theorem ps_ods {ps xs : List (List Int)} (h : xs = ods ps) {k : Nat} (hk : k < xs.length) : ps.getD (2 * k + 1) [] = xs[k] := by
  subst h
  have := ods_get ps k
  rw [List.getElem?_eq_getElem hk] at this
  rw [List.getD_eq_getElem?_getD, ← this]
  rfl
theorem ps_evs {ps xs : List (List Int)} (h : xs = evs ps) {k : Nat} (hk : k < xs.length) : ps.getD (2 * k) [] = xs[k] := by
  subst h
  have := evs_get ps k
  rw [List.getElem?_eq_getElem hk] at this
  rw [List.getD_eq_getElem?_getD, ← this]
  rfl
/-- The words that have been put together. -/
def Wds (B : Nat) (w5 : World) (ps : List (List Int)) (n : Nat) (us : List Value) : Prop := ∀ j, j < n → ∃ u, us[j]? = some u ∧ OwnInts B w5 u (ps.getD j [])
theorem Wds.snoc {B : Nat} {w5 : World} {ps : List (List Int)} {n : Nat} {us : List Value} {a b : Value} (h : Wds B w5 ps n us) (hl : us.length = n) (ha : OwnInts B w5 a (ps.getD n [])) (hb : OwnInts B w5 b (ps.getD (n + 1) [])) : Wds B w5 ps (n + 2) (us ++ [a, b]) := by
  intro j hj
  by_cases h1 : j < n
  · obtain ⟨u, e, r⟩ := h j h1
    exact ⟨u, by rw [List.getElem?_append_left (by omega)]; exact e, r⟩
  · by_cases h2 : j = n
    · subst h2
      exact ⟨a, by rw [List.getElem?_append_right (by omega), hl, Nat.sub_self]; rfl, ha⟩
    · obtain rfl : j = n + 1 := by omega
      exact ⟨b, by rw [List.getElem?_append_right (by omega), hl, show n + 1 - n = 1 by omega]; rfl, hb⟩
theorem low3 {B gO : Nat} {w : World} {e : TypeId} {size n : Nat} {v : Value} {xs : List Value} (h : w.ownsRow B e size v n xs) (hg : gO < B) (a b c : Value) : (((w.setCell ⟨gO, 0, none⟩ a).setCell ⟨gO, 1, none⟩ b).setCell ⟨gO, 2, none⟩ c).ownsRow B e size v n xs := by
  have f : ∀ k, v.ownBlock = some k → k ≠ gO := fun k hk => by have := (h.lt k hk).1; omega
  exact ownsRow_far (ownsRow_far (ownsRow_far h f _) f _) f _
theorem Wds.lists {B B0 B2 gO : Nat} {w5 w : World} {ps : List (List Int)} {us : List Value} {v : Value} {n : Nat} (h : Wds B w5 ps n us) (hn : n = ps.length) (he : Ext w5 w) (ho : w.ownsRow B2 27 1 v n us) (h1 : gO < B) (h2 : gO < B2) (h3 : B0 ≤ B) (h4 : B0 ≤ B2) (a b c : Value) : OwnLists B0 (((w.setCell ⟨gO, 0, none⟩ a).setCell ⟨gO, 1, none⟩ b).setCell ⟨gO, 2, none⟩ c) v ps := by
  subst hn
  refine ⟨us, ownsRow_base (low3 ho h2 a b c) h4, fun i hi => ?_⟩
  obtain ⟨u, e, o⟩ := h i hi
  have hd : ps.getD i [] = ps[i] := by rw [List.getD_eq_getElem?_getD, List.getElem?_eq_getElem hi]; rfl
  rw [hd] at o
  exact ⟨u, e, ownsRow_base (low3 (ownsRow_ext o he) h1 a b c) h3⟩
/-- Behind the search for words. -/
def BtAt (w : World) (q : Int) (a b : List Int) (u1 u2 : Value) (wx : World) : Prop :=
  ∃ (gF : Nat) (cd : Int), u1 = .pointer (some ⟨gF, 0, none⟩) ∧ u2 = .int .i64 cd ∧ Hid (Ext w wx ∧ ∃ (x0 x1 x2 : Int) (A4 : Option Addr) (k4 j4 : Nat) (A5 : Option Addr) (k5 j5 : Nat) (A6 : Option Addr) (k6 j6 : Nat), Blk wx gF 49 #[.int .i64 x0, .int .i64 x1, .int .i64 x2, .slice A4 k4 j4, .slice A5 k5 j5, .slice A6 k6 j6] ∧ w.heap.size ≤ gF ∧ RepOk w.heap.size q a b (.agg #[.int .i64 x0, .int .i64 x1, .int .i64 x2, .slice A4 k4 j4, .slice A5 k5 j5, .slice A6 k6 j6]) (.int .i64 cd) wx)
/-- What is returned. -/
def BtRes (w : World) (m : MachD) (n0 : Nat) (e : Ending) (w' : World) : Prop :=
  Ext w w' ∧ (e = .returned (.tuple #[.agg #[.int .i64 0, .slice none 0 0, .slice none 0 0], .bool false]) ∨ ∃ (n : Nat) (f : FoD) (cs : List Int) (ws : List (List Int)) (nv pv : Value), e = .returned (.tuple #[.agg #[.int .i64 6, nv, pv], .bool true]) ∧ BncOk m n0 n f cs ws ∧ OwnInts w.heap.size w' nv ((n0 : Int) :: (n : Int) :: f.hd :: f.at_ :: cs) ∧ OwnLists w.heap.size w' pv ws)
set_option maxRecDepth 20000 in
set_option maxHeartbeats 8000000 in
theorem bounceTo_c (m : MachD) (mv : Value) (x1 x2 x3 : RecV) (w00 : World) (hr : Rules w00 mv m.rules) (hm : machOk m = true) (g1 : RecG m w00 x1) (g2 : RecG m w00 x2) (g3 : RecG m w00 x3) :
    Calls Tryz.prog 65 #[.agg #[.int .i64 m.sy, .int .i64 m.st, mv], recVal x1, recVal x2, recVal x3] w00 (BtRes w00 m x3.n) := by
  obtain ⟨r0i, hri, rz0, rz1, rz2⟩ := info_parts rowInfo
  obtain ⟨Am, cm, rfl, _, _⟩ := id hr.form
  have G1 := Lib.hid g1
  have G2 := Lib.hid g2
  have G3 := Lib.hid g3
  obtain ⟨Xa, hX1⟩ : ∃ X, lineR x1 = X := ⟨_, rfl⟩
  obtain ⟨Xb, hX2⟩ : ∃ X, lineR x2 = X := ⟨_, rfl⟩
  obtain ⟨Xc, hX3⟩ : ∃ X, lineR x3 = X := ⟨_, rfl⟩
  obtain ⟨n1, s1, C1, l1, r1⟩ := x1
  obtain ⟨n2, s2, C2, l2, r2⟩ := x2
  obtain ⟨n3, s3, C3, l3, r3⟩ := x3
  have i1 : Ints w00 l1 C1.l := g1.l
  have i2 : Ints w00 l2 C2.l := g2.l
  have i3 : Ints w00 l3 C3.l := g3.l
  have j1 : Ints w00 r1 C1.r := g1.r
  have j2 : Ints w00 r2 C2.r := g2.r
  have j3 : Ints w00 r3 C3.r := g3.r
  clear g1 g2 g3
  obtain ⟨A1, k1, rfl, _, _⟩ := i1.form
  obtain ⟨A2, k2, rfl, _, _⟩ := i2.form
  obtain ⟨A3, k3, rfl, _, _⟩ := i3.form
  obtain ⟨B1, t1, rfl, _, _⟩ := j1.form
  obtain ⟨B2, t2, rfl, _, _⟩ := j2.form
  obtain ⟨B3, t3, rfl, _, _⟩ := j3.form
  clear i1 i2 i3 j1 j2 j3
  simp only [recVal]
  obtain ⟨gm, hgm⟩ : ∃ g, w00.heap.size = g := ⟨_, rfl⟩
  obtain ⟨w, hw⟩ : ∃ W, W = ((((w00.alloc (.cells #[.int .i64 m.sy, .int .i64 m.st, .slice Am m.rules.length cm] 26)).alloc (.cells #[.int .i64 n1, .int .i64 s1, .int .i64 C1.q, .slice A1 C1.l.length k1, .slice B1 C1.r.length t1] 105)).alloc (.cells #[.int .i64 n2, .int .i64 s2, .int .i64 C2.q, .slice A2 C2.l.length k2, .slice B2 C2.r.length t2] 105)).alloc (.cells #[.int .i64 n3, .int .i64 s3, .int .i64 C3.q, .slice A3 C3.l.length k3, .slice B3 C3.r.length t3] 105)).alloc (.cells #[.int .i64 0, .slice none 0 0, .slice none 0 0] 34) := ⟨_, rfl⟩
  have hX : Ext w00 w := by rw [hw]; exact ((((Ext.alloc _ _).trans (Ext.alloc _ _)).trans (Ext.alloc _ _)).trans (Ext.alloc _ _)).trans (Ext.alloc _ _)
  have bM : Blk w gm 26 #[.int .i64 m.sy, .int .i64 m.st, .slice Am m.rules.length cm] := by rw [hw]; exact ((((Blk.new _ _ _ _ hgm).alloc _).alloc _).alloc _).alloc _
  have q1 : Blk w (gm + 1) 105 #[.int .i64 n1, .int .i64 s1, .int .i64 C1.q, .slice A1 C1.l.length k1, .slice B1 C1.r.length t1] := by rw [hw]; exact (((Blk.new _ _ _ _ (by simp [hgm])).alloc _).alloc _).alloc _
  have q2 : Blk w (gm + 1 + 1) 105 #[.int .i64 n2, .int .i64 s2, .int .i64 C2.q, .slice A2 C2.l.length k2, .slice B2 C2.r.length t2] := by rw [hw]; exact ((Blk.new _ _ _ _ (by simp [hgm])).alloc _).alloc _
  have q3 : Blk w (gm + 1 + 1 + 1) 105 #[.int .i64 n3, .int .i64 s3, .int .i64 C3.q, .slice A3 C3.l.length k3, .slice B3 C3.r.length t3] := by rw [hw]; exact (Blk.new _ _ _ _ (by simp [hgm])).alloc _
  have bO : Blk w (gm + 1 + 1 + 1 + 1) 34 #[.int .i64 0, .slice none 0 0, .slice none 0 0] := by rw [hw]; exact Blk.new _ _ _ _ (by simp [hgm])
  have a0 := q1.cell 0
  have a1 := q1.cell 1
  have a2 := q1.cell 2
  have a3 := q1.cell 3
  have a4 := q1.cell 4
  have b0 := q2.cell 0
  have b1 := q2.cell 1
  have b2 := q2.cell 2
  have b3 := q2.cell 3
  have b4 := q2.cell 4
  have c0 := q3.cell 0
  have c1 := q3.cell 1
  have c2 := q3.cell 2
  have c3 := q3.cell 3
  have c4 := q3.cell 4
  simp only [List.getElem?_toArray, List.getElem?_cons_zero, List.getElem?_cons_succ] at a0 a1 a2 a3 a4 b0 b1 b2 b3 b4 c0 c1 c2 c3 c4
  have HB := Lib.hid (And.intro hX (And.intro bM (And.intro q3 (And.intro bO (And.intro hgm (And.intro hr hm))))))
  have L1 : ∀ x, Ext w x → Calls Tryz.prog 120 #[recVal ⟨n1, s1, C1, .slice A1 C1.l.length k1, .slice B1 C1.r.length t1⟩] x fun e w' => ∃ u, e = .returned u ∧ OwnInts x.heap.size w' u Xa ∧ Ext x w' := fun x hx => by
    rw [← hX1]
    exact lineOf_c ⟨n1, s1, C1, .slice A1 C1.l.length k1, .slice B1 C1.r.length t1⟩ x (G1.out.l.ext (HB.out.1.trans hx)) G1.out.fl (Nat.le_trans G1.out.len.1 (by decide))
  have L2 : ∀ x, Ext w x → Calls Tryz.prog 120 #[recVal ⟨n2, s2, C2, .slice A2 C2.l.length k2, .slice B2 C2.r.length t2⟩] x fun e w' => ∃ u, e = .returned u ∧ OwnInts x.heap.size w' u Xb ∧ Ext x w' := fun x hx => by
    rw [← hX2]
    exact lineOf_c ⟨n2, s2, C2, .slice A2 C2.l.length k2, .slice B2 C2.r.length t2⟩ x (G2.out.l.ext (HB.out.1.trans hx)) G2.out.fl (Nat.le_trans G2.out.len.1 (by decide))
  have L3 : ∀ x, Ext w x → Calls Tryz.prog 120 #[recVal ⟨n3, s3, C3, .slice A3 C3.l.length k3, .slice B3 C3.r.length t3⟩] x fun e w' => ∃ u, e = .returned u ∧ OwnInts x.heap.size w' u Xc ∧ Ext x w' := fun x hx => by
    rw [← hX3]
    exact lineOf_c ⟨n3, s3, C3, .slice A3 C3.l.length k3, .slice B3 C3.r.length t3⟩ x (G3.out.l.ext (HB.out.1.trans hx)) G3.out.fl (Nat.le_trans G3.out.len.1 (by decide))
  simp only [recVal] at L1 L2 L3
  have Z1 : Hid (Xa.length ≤ 201 ∧ ∀ z ∈ Xa, 0 ≤ z ∧ z < m.sy) := Lib.hid (by rw [← hX1]; exact G1.out.line hm)
  have Z2 : Hid (Xb.length ≤ 201 ∧ ∀ z ∈ Xb, 0 ≤ z ∧ z < m.sy) := Lib.hid (by rw [← hX2]; exact G2.out.line hm)
  have Z3 : Hid (Xc.length ≤ 201 ∧ ∀ z ∈ Xc, 0 ≤ z ∧ z < m.sy) := Lib.hid (by rw [← hX3]; exact G3.out.line hm)
  have RC := fun x (va vb vc : Value) (hx : Ext w x) (h1 : Ints x va Xa) (h2 : Ints x vb Xb) (h3 : Ints x vc Xc) =>
    (repeatsIn_c gm m _ C3.q va vb vc _ _ _ x (HB.out.2.1.ext hx) h1 h2 h3 (by have := Z1.out.1; omega) (by have := Z2.out.1; omega) (by have := Z3.out.1; omega)).mono fun e w' h => h.rep
  clear hX bM q1 q2 q3 bO hr hm hX1 hX2 hX3
  go_enter Tryz.func65, Tryz.ntmps65
  go_upto_region 1 with fail
  try rw [← hw]
  try rw [hgm]
  clear hw hgm
  go_cut [10, 11] (fun u1 u2 wx => BtAt w C3.q Xa Xb u1 u2 wx)
  case first =>
    refine wp_region_ordT 15 (readsT [0, 1, 2, 3, 5, 7] (.fork 4 (.fork 6 (.fork 8 (.fork 9 (readsT [10, 11, 12] (.stir 13 (.stir 14 .done))) 13 (.stir 9 (readsT [10, 11, 12] (.stir 14 .done)))) 13 (.stir 8 (.stir 9 (readsT [10, 11, 12] (.stir 14 .done))))) 13 (.stir 6 (.stir 8 (.stir 9 (readsT [10, 11, 12] (.stir 14 .done)))))) 13 (.stir 4 (.stir 6 (.stir 8 (.stir 9 (readsT [10, 11, 12] (.stir 14 .done)))))))) (by kernel_rfl) (by kernel_rfl) (fun _ _ _ _ _ h => h) ?_
    simp only [readsT]
    iterate 6 (refine wpOrdT_read (v := ?_) (by rfl) (Or.inl ⟨by rfl, fun x hx => ?_⟩) ?_; rotate_left; (· have d0 := hx.cell a0; have d1 := hx.cell a1; have d2 := hx.cell a2; have d3 := hx.cell a3; have d4 := hx.cell a4; have e0 := hx.cell b0; have e1 := hx.cell b1; have e2 := hx.cell b2; have e3 := hx.cell b3; have e4 := hx.cell b4; have f0 := hx.cell c0; have f1 := hx.cell c1; have f2 := hx.cell c2; have f3 := hx.cell c3; have f4 := hx.cell c4; go_simp; try with_reducible rfl); try simp only [Act.put, List.setIfInBounds_toArray, List.set_cons_zero, List.set_cons_succ])
    have hxr : Ext w w.drew := Ext.drew w
    generalize w.drew = w0 at *
    have x0 : Ext w0 w0 := Ext.refl w0
    refine wpOrdT_forks (by rfl) (by rfl) (fun K hK => ?_) (fun K hK => ?_)
    · go_simp
      go_at_call 120
      refine (L1 w0 (hxr.trans x0)).mono ?_
      rintro e w1 ⟨u1, rfl, o1, h1⟩
      have x1 : Ext w0 w1 := x0.trans h1
      obtain ⟨P1, q1, rfl, _, _⟩ := id o1.ints.form
      refine hK (Ext w0) _ _ (fun _ h => h) x1 ?_
      clear hK K
      try simp only [Act.put, List.setIfInBounds_toArray, List.set_cons_zero, List.set_cons_succ]
      refine wpOrdT_forks (by rfl) (by rfl) (fun K hK => ?_) (fun K hK => ?_)
      · go_simp
        go_at_call 120
        refine (L2 w1 (hxr.trans x1)).mono ?_
        rintro e w2 ⟨u2, rfl, o2, h2⟩
        have x2 : Ext w0 w2 := x1.trans h2
        obtain ⟨P2, q2, rfl, _, _⟩ := id o2.ints.form
        refine hK (Ext w0) _ _ (fun _ h => h) x2 ?_
        clear hK K
        try simp only [Act.put, List.setIfInBounds_toArray, List.set_cons_zero, List.set_cons_succ]
        refine wpOrdT_forks (by rfl) (by rfl) (fun K hK => ?_) (fun K hK => ?_)
        · go_simp
          go_at_call 120
          refine (L3 w2 (hxr.trans x2)).mono ?_
          rintro e w3 ⟨u3, rfl, o3, h3⟩
          have x3 : Ext w0 w3 := x2.trans h3
          obtain ⟨P3, q3, rfl, _, _⟩ := id o3.ints.form
          refine hK (Ext w0) _ _ (fun _ h => h) x3 ?_
          clear hK K
          try simp only [Act.put, List.setIfInBounds_toArray, List.set_cons_zero, List.set_cons_succ]
          refine wpOrdT_forks (by rfl) (by rfl) (fun K hK => ?_) (fun K hK => ?_)
          · go_simp
            have e1 : Ext w1 w3 := h2.trans h3
            have e2 : Ext w2 w3 := h3
            have e3 : Ext w3 w3 := Ext.refl _
            go_at_call 119
            refine (RC w3 _ _ _ (hxr.trans x3) (o1.ints.ext e1) (o2.ints.ext e2) (o3.ints.ext e3)).mono ?_
            rintro e w4 ⟨h4, x0i, x1i, x2i, A4, k4, j4, A5, k5, j5, A6, k6, j6, cd, rfl, hgood⟩
            replace hgood := hgood.base x3.size
            have x4 : Ext w0 w4 := x3.trans h4
            refine hK (Ext w0) _ _ (fun _ h => h) x4 ?_
            clear hK K
            try simp only [Act.put, List.setIfInBounds_toArray, List.set_cons_zero, List.set_cons_succ]
            iterate 3 (refine wpOrdT_read (v := ?_) (by rfl) (Or.inl ⟨by rfl, fun x hx => ?_⟩) ?_; rotate_left; (· go_simp; try with_reducible rfl); try simp only [Act.put, List.setIfInBounds_toArray, List.set_cons_zero, List.set_cons_succ])
            refine wpOrdT_keep (by rfl) (fun K hK => ?_)
            go_simp
            have bA : Blk (w4.alloc (.cells #[.int .i64 0, .int .i64 0, .int .i64 0, .slice none 0 0, .slice none 0 0, .slice none 0 0] 49)) w4.heap.size 49 #[.int .i64 0, .int .i64 0, .int .i64 0, .slice none 0 0, .slice none 0 0, .slice none 0 0] := Blk.new _ _ _ _ rfl
            have hA : Ext w4 (w4.alloc (.cells #[.int .i64 0, .int .i64 0, .int .i64 0, .slice none 0 0, .slice none 0 0, .slice none 0 0] 49)) := Ext.alloc _ _
            have xA : Ext w0 (w4.alloc (.cells #[.int .i64 0, .int .i64 0, .int .i64 0, .slice none 0 0, .slice none 0 0, .slice none 0 0] 49)) := x4.trans hA
            refine hK _ _ xA ?_
            clear hK K
            try simp only [Act.put, List.setIfInBounds_toArray, List.set_cons_zero, List.set_cons_succ]
            generalize w4.alloc (.cells #[.int .i64 0, .int .i64 0, .int .i64 0, .slice none 0 0, .slice none 0 0, .slice none 0 0] 49) = wA at *
            obtain ⟨gF, hgF⟩ : ∃ g, w4.heap.size = g := ⟨_, rfl⟩
            have nA : w0.heap.size ≤ gF := by rw [← hgF]; exact x4.size
            rw [hgF] at bA
            try rw [hgF]
            replace hgood := hgood.ext hA
            have y0 := bA.cell 0
            have z0 := bA.frozen 0
            have y1 := bA.cell 1
            have z1 := bA.frozen 1
            have y2 := bA.cell 2
            have z2 := bA.frozen 2
            have y3 := bA.cell 3
            have z3 := bA.frozen 3
            have y4 := bA.cell 4
            have z4 := bA.frozen 4
            have y5 := bA.cell 5
            have z5 := bA.frozen 5
            simp only [List.getElem?_toArray, List.getElem?_cons_zero, List.getElem?_cons_succ] at y0 y1 y2 y3 y4 y5
            have HA := Lib.hid (And.intro bA (And.intro xA (And.intro nA hgood)))
            clear bA xA hgood
            refine wpOrdT_keep (by rfl) (fun K hK => ?_)
            go_simp
            refine hK _ _ ((((((HA.out.2.1.setCell nA _).setCell nA _).setCell nA _).setCell nA _).setCell nA _).setCell nA _) ?_
            clear hK K
            try simp only [Act.put, List.setIfInBounds_toArray, List.set_cons_zero, List.set_cons_succ]
            refine wpOrdT_done ?_
            try simp only [List.drop_succ_cons, List.drop_zero]
            go_wp2_with fail
            go_meet
            have nA' : w.heap.size ≤ gF := Nat.le_trans hxr.size nA
            have xA := hxr.trans HA.out.2.1
            have bA := HA.out.1
            exact ⟨_, _, rfl, rfl, Lib.hid ⟨(((((xA.setCell nA' _).setCell nA' _).setCell nA' _).setCell nA' _).setCell nA' _).setCell nA' _, _, _, _, _, _, _, _, _, _, _, _, _, (((((bA.set_ 0 _).set_ 1 _).set_ 2 _).set_ 3 _).set_ 4 _).set_ 5 _, nA', HA.out.2.2.2.set6 bA hxr.size⟩⟩
          · go_simp
            have bA : Blk (w3.alloc (.cells #[.int .i64 0, .int .i64 0, .int .i64 0, .slice none 0 0, .slice none 0 0, .slice none 0 0] 49)) w3.heap.size 49 #[.int .i64 0, .int .i64 0, .int .i64 0, .slice none 0 0, .slice none 0 0, .slice none 0 0] := Blk.new _ _ _ _ rfl
            have hA : Ext w3 (w3.alloc (.cells #[.int .i64 0, .int .i64 0, .int .i64 0, .slice none 0 0, .slice none 0 0, .slice none 0 0] 49)) := Ext.alloc _ _
            have xA : Ext w0 (w3.alloc (.cells #[.int .i64 0, .int .i64 0, .int .i64 0, .slice none 0 0, .slice none 0 0, .slice none 0 0] 49)) := x3.trans hA
            refine hK (Ext w0) _ _ (fun _ h => h) xA ?_
            clear hK K
            try simp only [Act.put, List.setIfInBounds_toArray, List.set_cons_zero, List.set_cons_succ]
            generalize w3.alloc (.cells #[.int .i64 0, .int .i64 0, .int .i64 0, .slice none 0 0, .slice none 0 0, .slice none 0 0] 49) = wA at *
            obtain ⟨gF, hgF⟩ : ∃ g, w3.heap.size = g := ⟨_, rfl⟩
            have nA : w0.heap.size ≤ gF := by rw [← hgF]; exact x3.size
            rw [hgF] at bA
            try rw [hgF]
            refine wpOrdT_keep (by rfl) (fun K hK => ?_)
            go_simp
            have e1 : Ext w1 wA := (h2.trans h3).trans hA
            have e2 : Ext w2 wA := h3.trans hA
            have e3 : Ext w3 wA := hA
            go_at_call 119
            refine (RC wA _ _ _ (hxr.trans xA) (o1.ints.ext e1) (o2.ints.ext e2) (o3.ints.ext e3)).mono ?_
            rintro e w4 ⟨h4, x0i, x1i, x2i, A4, k4, j4, A5, k5, j5, A6, k6, j6, cd, rfl, hgood⟩
            replace hgood := hgood.base xA.size
            have x4 : Ext w0 w4 := xA.trans h4
            refine hK _ _ x4 ?_
            clear hK K
            try simp only [Act.put, List.setIfInBounds_toArray, List.set_cons_zero, List.set_cons_succ]
            replace bA := bA.ext h4
            iterate 3 (refine wpOrdT_read (v := ?_) (by rfl) (Or.inl ⟨by rfl, fun x hx => ?_⟩) ?_; rotate_left; (· go_simp; try with_reducible rfl); try simp only [Act.put, List.setIfInBounds_toArray, List.set_cons_zero, List.set_cons_succ])
            have y0 := bA.cell 0
            have z0 := bA.frozen 0
            have y1 := bA.cell 1
            have z1 := bA.frozen 1
            have y2 := bA.cell 2
            have z2 := bA.frozen 2
            have y3 := bA.cell 3
            have z3 := bA.frozen 3
            have y4 := bA.cell 4
            have z4 := bA.frozen 4
            have y5 := bA.cell 5
            have z5 := bA.frozen 5
            simp only [List.getElem?_toArray, List.getElem?_cons_zero, List.getElem?_cons_succ] at y0 y1 y2 y3 y4 y5
            have HA := Lib.hid (And.intro bA (And.intro x4 (And.intro nA hgood)))
            clear bA x4 hgood
            refine wpOrdT_keep (by rfl) (fun K hK => ?_)
            go_simp
            refine hK _ _ ((((((HA.out.2.1.setCell nA _).setCell nA _).setCell nA _).setCell nA _).setCell nA _).setCell nA _) ?_
            clear hK K
            try simp only [Act.put, List.setIfInBounds_toArray, List.set_cons_zero, List.set_cons_succ]
            refine wpOrdT_done ?_
            try simp only [List.drop_succ_cons, List.drop_zero]
            go_wp2_with fail
            go_meet
            have nA' : w.heap.size ≤ gF := Nat.le_trans hxr.size nA
            have x4 := hxr.trans HA.out.2.1
            have bA := HA.out.1
            exact ⟨_, _, rfl, rfl, Lib.hid ⟨(((((x4.setCell nA' _).setCell nA' _).setCell nA' _).setCell nA' _).setCell nA' _).setCell nA' _, _, _, _, _, _, _, _, _, _, _, _, _, (((((bA.set_ 0 _).set_ 1 _).set_ 2 _).set_ 3 _).set_ 4 _).set_ 5 _, nA', HA.out.2.2.2.set6 bA hxr.size⟩⟩
        · go_simp
          have bA : Blk (w2.alloc (.cells #[.int .i64 0, .int .i64 0, .int .i64 0, .slice none 0 0, .slice none 0 0, .slice none 0 0] 49)) w2.heap.size 49 #[.int .i64 0, .int .i64 0, .int .i64 0, .slice none 0 0, .slice none 0 0, .slice none 0 0] := Blk.new _ _ _ _ rfl
          have hA : Ext w2 (w2.alloc (.cells #[.int .i64 0, .int .i64 0, .int .i64 0, .slice none 0 0, .slice none 0 0, .slice none 0 0] 49)) := Ext.alloc _ _
          have xA : Ext w0 (w2.alloc (.cells #[.int .i64 0, .int .i64 0, .int .i64 0, .slice none 0 0, .slice none 0 0, .slice none 0 0] 49)) := x2.trans hA
          refine hK (Ext w0) _ _ (fun _ h => h) xA ?_
          clear hK K
          try simp only [Act.put, List.setIfInBounds_toArray, List.set_cons_zero, List.set_cons_succ]
          generalize w2.alloc (.cells #[.int .i64 0, .int .i64 0, .int .i64 0, .slice none 0 0, .slice none 0 0, .slice none 0 0] 49) = wA at *
          obtain ⟨gF, hgF⟩ : ∃ g, w2.heap.size = g := ⟨_, rfl⟩
          have nA : w0.heap.size ≤ gF := by rw [← hgF]; exact x2.size
          rw [hgF] at bA
          try rw [hgF]
          refine wpOrdT_keep (by rfl) (fun K hK => ?_)
          go_simp
          go_at_call 120
          refine (L3 wA (hxr.trans xA)).mono ?_
          rintro e w3 ⟨u3, rfl, o3, h3⟩
          have x3 : Ext w0 w3 := xA.trans h3
          obtain ⟨P3, q3, rfl, _, _⟩ := id o3.ints.form
          refine hK _ _ x3 ?_
          clear hK K
          try simp only [Act.put, List.setIfInBounds_toArray, List.set_cons_zero, List.set_cons_succ]
          replace bA := bA.ext h3
          refine wpOrdT_keep (by rfl) (fun K hK => ?_)
          go_simp
          have e1 : Ext w1 w3 := (h2.trans hA).trans h3
          have e2 : Ext w2 w3 := hA.trans h3
          have e3 : Ext w3 w3 := Ext.refl _
          go_at_call 119
          refine (RC w3 _ _ _ (hxr.trans x3) (o1.ints.ext e1) (o2.ints.ext e2) (o3.ints.ext e3)).mono ?_
          rintro e w4 ⟨h4, x0i, x1i, x2i, A4, k4, j4, A5, k5, j5, A6, k6, j6, cd, rfl, hgood⟩
          replace hgood := hgood.base x3.size
          have x4 : Ext w0 w4 := x3.trans h4
          refine hK _ _ x4 ?_
          clear hK K
          try simp only [Act.put, List.setIfInBounds_toArray, List.set_cons_zero, List.set_cons_succ]
          replace bA := bA.ext h4
          iterate 3 (refine wpOrdT_read (v := ?_) (by rfl) (Or.inl ⟨by rfl, fun x hx => ?_⟩) ?_; rotate_left; (· go_simp; try with_reducible rfl); try simp only [Act.put, List.setIfInBounds_toArray, List.set_cons_zero, List.set_cons_succ])
          have y0 := bA.cell 0
          have z0 := bA.frozen 0
          have y1 := bA.cell 1
          have z1 := bA.frozen 1
          have y2 := bA.cell 2
          have z2 := bA.frozen 2
          have y3 := bA.cell 3
          have z3 := bA.frozen 3
          have y4 := bA.cell 4
          have z4 := bA.frozen 4
          have y5 := bA.cell 5
          have z5 := bA.frozen 5
          simp only [List.getElem?_toArray, List.getElem?_cons_zero, List.getElem?_cons_succ] at y0 y1 y2 y3 y4 y5
          have HA := Lib.hid (And.intro bA (And.intro x4 (And.intro nA hgood)))
          clear bA x4 hgood
          refine wpOrdT_keep (by rfl) (fun K hK => ?_)
          go_simp
          refine hK _ _ ((((((HA.out.2.1.setCell nA _).setCell nA _).setCell nA _).setCell nA _).setCell nA _).setCell nA _) ?_
          clear hK K
          try simp only [Act.put, List.setIfInBounds_toArray, List.set_cons_zero, List.set_cons_succ]
          refine wpOrdT_done ?_
          try simp only [List.drop_succ_cons, List.drop_zero]
          go_wp2_with fail
          go_meet
          have nA' : w.heap.size ≤ gF := Nat.le_trans hxr.size nA
          have x4 := hxr.trans HA.out.2.1
          have bA := HA.out.1
          exact ⟨_, _, rfl, rfl, Lib.hid ⟨(((((x4.setCell nA' _).setCell nA' _).setCell nA' _).setCell nA' _).setCell nA' _).setCell nA' _, _, _, _, _, _, _, _, _, _, _, _, _, (((((bA.set_ 0 _).set_ 1 _).set_ 2 _).set_ 3 _).set_ 4 _).set_ 5 _, nA', HA.out.2.2.2.set6 bA hxr.size⟩⟩
      · go_simp
        have bA : Blk (w1.alloc (.cells #[.int .i64 0, .int .i64 0, .int .i64 0, .slice none 0 0, .slice none 0 0, .slice none 0 0] 49)) w1.heap.size 49 #[.int .i64 0, .int .i64 0, .int .i64 0, .slice none 0 0, .slice none 0 0, .slice none 0 0] := Blk.new _ _ _ _ rfl
        have hA : Ext w1 (w1.alloc (.cells #[.int .i64 0, .int .i64 0, .int .i64 0, .slice none 0 0, .slice none 0 0, .slice none 0 0] 49)) := Ext.alloc _ _
        have xA : Ext w0 (w1.alloc (.cells #[.int .i64 0, .int .i64 0, .int .i64 0, .slice none 0 0, .slice none 0 0, .slice none 0 0] 49)) := x1.trans hA
        refine hK (Ext w0) _ _ (fun _ h => h) xA ?_
        clear hK K
        try simp only [Act.put, List.setIfInBounds_toArray, List.set_cons_zero, List.set_cons_succ]
        generalize w1.alloc (.cells #[.int .i64 0, .int .i64 0, .int .i64 0, .slice none 0 0, .slice none 0 0, .slice none 0 0] 49) = wA at *
        obtain ⟨gF, hgF⟩ : ∃ g, w1.heap.size = g := ⟨_, rfl⟩
        have nA : w0.heap.size ≤ gF := by rw [← hgF]; exact x1.size
        rw [hgF] at bA
        try rw [hgF]
        refine wpOrdT_keep (by rfl) (fun K hK => ?_)
        go_simp
        go_at_call 120
        refine (L2 wA (hxr.trans xA)).mono ?_
        rintro e w2 ⟨u2, rfl, o2, h2⟩
        have x2 : Ext w0 w2 := xA.trans h2
        obtain ⟨P2, q2, rfl, _, _⟩ := id o2.ints.form
        refine hK _ _ x2 ?_
        clear hK K
        try simp only [Act.put, List.setIfInBounds_toArray, List.set_cons_zero, List.set_cons_succ]
        replace bA := bA.ext h2
        refine wpOrdT_keep (by rfl) (fun K hK => ?_)
        go_simp
        go_at_call 120
        refine (L3 w2 (hxr.trans x2)).mono ?_
        rintro e w3 ⟨u3, rfl, o3, h3⟩
        have x3 : Ext w0 w3 := x2.trans h3
        obtain ⟨P3, q3, rfl, _, _⟩ := id o3.ints.form
        refine hK _ _ x3 ?_
        clear hK K
        try simp only [Act.put, List.setIfInBounds_toArray, List.set_cons_zero, List.set_cons_succ]
        replace bA := bA.ext h3
        refine wpOrdT_keep (by rfl) (fun K hK => ?_)
        go_simp
        have e1 : Ext w1 w3 := (hA.trans h2).trans h3
        have e2 : Ext w2 w3 := h3
        have e3 : Ext w3 w3 := Ext.refl _
        go_at_call 119
        refine (RC w3 _ _ _ (hxr.trans x3) (o1.ints.ext e1) (o2.ints.ext e2) (o3.ints.ext e3)).mono ?_
        rintro e w4 ⟨h4, x0i, x1i, x2i, A4, k4, j4, A5, k5, j5, A6, k6, j6, cd, rfl, hgood⟩
        replace hgood := hgood.base x3.size
        have x4 : Ext w0 w4 := x3.trans h4
        refine hK _ _ x4 ?_
        clear hK K
        try simp only [Act.put, List.setIfInBounds_toArray, List.set_cons_zero, List.set_cons_succ]
        replace bA := bA.ext h4
        iterate 3 (refine wpOrdT_read (v := ?_) (by rfl) (Or.inl ⟨by rfl, fun x hx => ?_⟩) ?_; rotate_left; (· go_simp; try with_reducible rfl); try simp only [Act.put, List.setIfInBounds_toArray, List.set_cons_zero, List.set_cons_succ])
        have y0 := bA.cell 0
        have z0 := bA.frozen 0
        have y1 := bA.cell 1
        have z1 := bA.frozen 1
        have y2 := bA.cell 2
        have z2 := bA.frozen 2
        have y3 := bA.cell 3
        have z3 := bA.frozen 3
        have y4 := bA.cell 4
        have z4 := bA.frozen 4
        have y5 := bA.cell 5
        have z5 := bA.frozen 5
        simp only [List.getElem?_toArray, List.getElem?_cons_zero, List.getElem?_cons_succ] at y0 y1 y2 y3 y4 y5
        have HA := Lib.hid (And.intro bA (And.intro x4 (And.intro nA hgood)))
        clear bA x4 hgood
        refine wpOrdT_keep (by rfl) (fun K hK => ?_)
        go_simp
        refine hK _ _ ((((((HA.out.2.1.setCell nA _).setCell nA _).setCell nA _).setCell nA _).setCell nA _).setCell nA _) ?_
        clear hK K
        try simp only [Act.put, List.setIfInBounds_toArray, List.set_cons_zero, List.set_cons_succ]
        refine wpOrdT_done ?_
        try simp only [List.drop_succ_cons, List.drop_zero]
        go_wp2_with fail
        go_meet
        have nA' : w.heap.size ≤ gF := Nat.le_trans hxr.size nA
        have x4 := hxr.trans HA.out.2.1
        have bA := HA.out.1
        exact ⟨_, _, rfl, rfl, Lib.hid ⟨(((((x4.setCell nA' _).setCell nA' _).setCell nA' _).setCell nA' _).setCell nA' _).setCell nA' _, _, _, _, _, _, _, _, _, _, _, _, _, (((((bA.set_ 0 _).set_ 1 _).set_ 2 _).set_ 3 _).set_ 4 _).set_ 5 _, nA', HA.out.2.2.2.set6 bA hxr.size⟩⟩
    · go_simp
      have bA : Blk (w0.alloc (.cells #[.int .i64 0, .int .i64 0, .int .i64 0, .slice none 0 0, .slice none 0 0, .slice none 0 0] 49)) w0.heap.size 49 #[.int .i64 0, .int .i64 0, .int .i64 0, .slice none 0 0, .slice none 0 0, .slice none 0 0] := Blk.new _ _ _ _ rfl
      have hA : Ext w0 (w0.alloc (.cells #[.int .i64 0, .int .i64 0, .int .i64 0, .slice none 0 0, .slice none 0 0, .slice none 0 0] 49)) := Ext.alloc _ _
      have xA : Ext w0 (w0.alloc (.cells #[.int .i64 0, .int .i64 0, .int .i64 0, .slice none 0 0, .slice none 0 0, .slice none 0 0] 49)) := hA
      refine hK (Ext w0) _ _ (fun _ h => h) xA ?_
      clear hK K
      try simp only [Act.put, List.setIfInBounds_toArray, List.set_cons_zero, List.set_cons_succ]
      generalize w0.alloc (.cells #[.int .i64 0, .int .i64 0, .int .i64 0, .slice none 0 0, .slice none 0 0, .slice none 0 0] 49) = wA at *
      obtain ⟨gF, hgF⟩ : ∃ g, w0.heap.size = g := ⟨_, rfl⟩
      have nA : w0.heap.size ≤ gF := by rw [← hgF]; exact Nat.le_refl _
      rw [hgF] at bA
      try rw [hgF]
      refine wpOrdT_keep (by rfl) (fun K hK => ?_)
      go_simp
      go_at_call 120
      refine (L1 wA (hxr.trans xA)).mono ?_
      rintro e w1 ⟨u1, rfl, o1, h1⟩
      have x1 : Ext w0 w1 := xA.trans h1
      obtain ⟨P1, q1, rfl, _, _⟩ := id o1.ints.form
      refine hK _ _ x1 ?_
      clear hK K
      try simp only [Act.put, List.setIfInBounds_toArray, List.set_cons_zero, List.set_cons_succ]
      replace bA := bA.ext h1
      refine wpOrdT_keep (by rfl) (fun K hK => ?_)
      go_simp
      go_at_call 120
      refine (L2 w1 (hxr.trans x1)).mono ?_
      rintro e w2 ⟨u2, rfl, o2, h2⟩
      have x2 : Ext w0 w2 := x1.trans h2
      obtain ⟨P2, q2, rfl, _, _⟩ := id o2.ints.form
      refine hK _ _ x2 ?_
      clear hK K
      try simp only [Act.put, List.setIfInBounds_toArray, List.set_cons_zero, List.set_cons_succ]
      replace bA := bA.ext h2
      refine wpOrdT_keep (by rfl) (fun K hK => ?_)
      go_simp
      go_at_call 120
      refine (L3 w2 (hxr.trans x2)).mono ?_
      rintro e w3 ⟨u3, rfl, o3, h3⟩
      have x3 : Ext w0 w3 := x2.trans h3
      obtain ⟨P3, q3, rfl, _, _⟩ := id o3.ints.form
      refine hK _ _ x3 ?_
      clear hK K
      try simp only [Act.put, List.setIfInBounds_toArray, List.set_cons_zero, List.set_cons_succ]
      replace bA := bA.ext h3
      refine wpOrdT_keep (by rfl) (fun K hK => ?_)
      go_simp
      have e1 : Ext w1 w3 := h2.trans h3
      have e2 : Ext w2 w3 := h3
      have e3 : Ext w3 w3 := Ext.refl _
      go_at_call 119
      refine (RC w3 _ _ _ (hxr.trans x3) (o1.ints.ext e1) (o2.ints.ext e2) (o3.ints.ext e3)).mono ?_
      rintro e w4 ⟨h4, x0i, x1i, x2i, A4, k4, j4, A5, k5, j5, A6, k6, j6, cd, rfl, hgood⟩
      replace hgood := hgood.base x3.size
      have x4 : Ext w0 w4 := x3.trans h4
      refine hK _ _ x4 ?_
      clear hK K
      try simp only [Act.put, List.setIfInBounds_toArray, List.set_cons_zero, List.set_cons_succ]
      replace bA := bA.ext h4
      iterate 3 (refine wpOrdT_read (v := ?_) (by rfl) (Or.inl ⟨by rfl, fun x hx => ?_⟩) ?_; rotate_left; (· go_simp; try with_reducible rfl); try simp only [Act.put, List.setIfInBounds_toArray, List.set_cons_zero, List.set_cons_succ])
      have y0 := bA.cell 0
      have z0 := bA.frozen 0
      have y1 := bA.cell 1
      have z1 := bA.frozen 1
      have y2 := bA.cell 2
      have z2 := bA.frozen 2
      have y3 := bA.cell 3
      have z3 := bA.frozen 3
      have y4 := bA.cell 4
      have z4 := bA.frozen 4
      have y5 := bA.cell 5
      have z5 := bA.frozen 5
      simp only [List.getElem?_toArray, List.getElem?_cons_zero, List.getElem?_cons_succ] at y0 y1 y2 y3 y4 y5
      have HA := Lib.hid (And.intro bA (And.intro x4 (And.intro nA hgood)))
      clear bA x4 hgood
      refine wpOrdT_keep (by rfl) (fun K hK => ?_)
      go_simp
      refine hK _ _ ((((((HA.out.2.1.setCell nA _).setCell nA _).setCell nA _).setCell nA _).setCell nA _).setCell nA _) ?_
      clear hK K
      try simp only [Act.put, List.setIfInBounds_toArray, List.set_cons_zero, List.set_cons_succ]
      refine wpOrdT_done ?_
      try simp only [List.drop_succ_cons, List.drop_zero]
      go_wp2_with fail
      go_meet
      have nA' : w.heap.size ≤ gF := Nat.le_trans hxr.size nA
      have x4 := hxr.trans HA.out.2.1
      have bA := HA.out.1
      exact ⟨_, _, rfl, rfl, Lib.hid ⟨(((((x4.setCell nA' _).setCell nA' _).setCell nA' _).setCell nA' _).setCell nA' _).setCell nA' _, _, _, _, _, _, _, _, _, _, _, _, _, (((((bA.set_ 0 _).set_ 1 _).set_ 2 _).set_ 3 _).set_ 4 _).set_ 5 _, nA', HA.out.2.2.2.set6 bA hxr.size⟩⟩
  case rest =>
    obtain ⟨gF, cd, rfl, rfl, HT⟩ := hcut
    obtain ⟨xT, x0, x1, x2, A4, k4, j4, A5, k5, j5, A6, k6, j6, bF, nF, hgood⟩ := HT.out
    rcases hgood with hbad | ⟨hcd, ps, hTr, oF⟩
    · have hne : (cd == 0) = false := by
        rcases hbad with e | e <;> (injection e with _ e; subst e; rfl)
      have bO := HB.out.2.2.2.1.ext xT
      have p0 := bO.cell 0
      have p1 := bO.cell 1
      have p2 := bO.cell 2
      have z0 := bO.frozen 0
      have z1 := bO.frozen 1
      have z2 := bO.frozen 2
      simp only [List.getElem?_toArray, List.getElem?_cons_zero, List.getElem?_cons_succ] at p0 p1 p2
      have HO := Lib.hid (And.intro bO xT)
      clear bO xT bF hbad L1 L2 L3 RC
      go_wp2
      refine bodyPost_ret (v := .tuple #[.agg #[.int .i64 0, .slice none 0 0, .slice none 0 0], .bool false]) (by simp [results, Tryz.results65, go_sem, p0, p1, p2]) rfl ?_
      have hle := HB.out.2.2.2.2.1
      exact ⟨(((HB.out.1.trans HO.out.2).setCell (by simp only; omega) _).setCell (by simp only; omega) _).setCell (by simp only; omega) _, .inl rfl⟩
    · obtain rfl : cd = 0 := by injection hcd
      obtain ⟨f, hf⟩ : ∃ f, bncF C3.q ps = f := ⟨_, rfl⟩
      rw [hf] at oF
      obtain ⟨wv, rv, ov, hv, oW, oR, oO⟩ := oF
      simp only [Value.agg.injEq, Array.mk.injEq, List.cons.injEq, Value.int.injEq, and_true, true_and] at hv
      obtain ⟨rfl, rfl, rfl, rfl, rfl, rfl⟩ := hv
      obtain ⟨Ax, cx, ex, _, _⟩ := oW.lists.form
      injection ex with e1 e2 e3
      subst e1 e2 e3
      obtain ⟨Ax, cx, ex, _, _⟩ := oR.lists.form
      injection ex with e1 e2 e3
      subst e1 e2 e3
      obtain ⟨Ax, cx, ex, _, _⟩ := oO.ints.form
      injection ex with e1 e2 e3
      subst e1 e2 e3
      have hNN : (f.rs.length = 1 ∨ f.rs.length = 2) ∧ f.ws.length = f.rs.length + 1 ∧ f.os = List.replicate f.rs.length 0 ∧ f.rs = ods ps ∧ f.ws = evs ps ∧ f.q = C3.q ∧ ps.length = 2 * f.rs.length + 1 := by
        rw [← hf]
        have h1 := hTr.ln
        have h2 := evs_len ps
        have h3 := ods_len ps
        refine ⟨?_, ?_, rfl, rfl, rfl, rfl, ?_⟩
        · show (ods ps).length = 1 ∨ (ods ps).length = 2
          omega
        · show (evs ps).length = (ods ps).length + 1
          omega
        · show ps.length = 2 * (ods ps).length + 1
          omega
      obtain ⟨hN1, hN2, hN3, hN4, hN5, hN6, hN7⟩ := hNN
      have hcsl : List.replicate f.rs.length (2 : Int) = List.replicate (ods ps).length 2 := by rw [hN4]
      have hok := (hTr.ok ⟨(G3.out.good HB.out.2.2.2.2.2.2).q0, (G3.out.good HB.out.2.2.2.2.2.2).q1⟩ Z1.out.2 Z2.out.2).1
      have hok2 : foOk m f = true := by rw [← hf]; exact hok
      have FW : FoV wc (.agg #[.int .i64 f.q, .int .i64 f.hd, .int .i64 f.at_, .slice A4 f.ws.length j4, .slice A5 f.rs.length j5, .slice A6 f.os.length j6]) f (.slice A4 f.ws.length j4) (.slice A5 f.rs.length j5) (.slice A6 f.os.length j6) := ⟨rfl, oW.lists, oR.lists, oO.ints, oO.flat⟩
      have y0 := bF.cell 0
      have y1 := bF.cell 1
      have y2 := bF.cell 2
      have y3 := bF.cell 3
      have y4 := bF.cell 4
      have y5 := bF.cell 5
      simp only [List.getElem?_toArray, List.getElem?_cons_zero, List.getElem?_cons_succ] at y0 y1 y2 y3 y4 y5
      have bM := HB.out.2.1.ext xT
      have m0 := bM.cell 0
      have m1 := bM.cell 1
      have m2 := bM.cell 2
      simp only [List.getElem?_toArray, List.getElem?_cons_zero, List.getElem?_cons_succ] at m0 m1 m2
      replace c0 := xT.cell c0
      replace c2 := xT.cell c2
      replace c3 := xT.cell c3
      replace c4 := xT.cell c4
      obtain ⟨V1, hV1⟩ : ∃ V, V = wc.alloc (.cells #[.int .i64 2] 2) := ⟨_, rfl⟩
      have hx1 : Ext wc V1 := by rw [hV1]; exact Ext.alloc _ _
      have i2 : Ints V1 (.slice (some ⟨wc.heap.size, 0, none⟩) 1 1) [2] := by
        rw [hV1]
        have hb : Blk (wc.alloc (.cells #[.int .i64 2] 2)) wc.heap.size 2 ([.int .i64 2] : List Value).toArray := Blk.new _ _ _ _ rfl
        exact row_blk hb rfl (by omega)
      have RG := RepeatG_c wc.heap.size 0 1 f.rs.length [2] V1 i2 (by simp) (by omega) (by simp only [List.length_cons, List.length_nil]; omega)
      rw [repL_two] at RG
      simp only [List.length_cons, List.length_nil, Nat.zero_add] at RG
      have HK := Lib.hid (And.intro hf (And.intro hN1 (And.intro hN2 (And.intro hN3 (And.intro hN4 (And.intro hN5 (And.intro hN6 (And.intro hN7 (And.intro hok2 (And.intro hcsl (And.intro hTr (And.intro FW (And.intro xT (And.intro oW oR))))))))))))))
      have HX1 := Lib.hid hx1
      have HV1 := Lib.hid hV1
      clear hf hN1 hN2 hN3 hN4 hN5 hN6 hN7 hok hok2 hcsl hTr FW oW oR oO bF bM xT HT L1 L2 L3 RC i2 hx1 a0 a1 a2 a3 a4 b0 b1 b2 b3 b4 c1
      have y4a := (Ext.alloc wc (.cells #[.int .i64 2] 2)).cell y4
      go_wp2_with fail
      try rw [← hV1]
      clear hV1 y4a
      refine RG.mono ?_
      rintro e w2 ⟨u, rfl, oU, hx2⟩
      have hx12 := HX1.out.trans hx2
      obtain ⟨A7, j7, rfl, _, _⟩ := id oU.ints.form
      rw [List.length_replicate]
      clear RG
      replace y0 := hx12.cell y0
      replace y1 := hx12.cell y1
      replace y2 := hx12.cell y2
      replace y3 := hx12.cell y3
      replace y4 := hx12.cell y4
      replace y5 := hx12.cell y5
      replace m0 := hx12.cell m0
      replace m1 := hx12.cell m1
      replace m2 := hx12.cell m2
      replace c0 := hx12.cell c0
      replace c2 := hx12.cell c2
      replace c3 := hx12.cell c3
      replace c4 := hx12.cell c4
      go_upto_region 6 with fail
      rw [List.length_replicate] at oU
      obtain ⟨cs, hcs⟩ : ∃ cs, List.replicate f.rs.length (2 : Int) = cs := ⟨_, rfl⟩
      rw [hcs] at oU
      obtain ⟨V, hV⟩ : ∃ V, V = (w2.alloc (.cells #[.int .i64 0, .int .i64 f.q, .int .i64 f.hd, .int .i64 f.at_, .slice A4 f.ws.length j4, .slice A5 f.rs.length j5, .slice A6 f.os.length j6, .slice A7 f.rs.length j7, .int .i64 C3.q, .slice A3 C3.l.length k3, .slice B3 C3.r.length t3] 115)).alloc (.cells #[.int .i64 0] 2) := ⟨_, rfl⟩
      obtain ⟨gb, hgb⟩ : ∃ g, w2.heap.size = g := ⟨_, rfl⟩
      have hx3 : Ext w2 V := by rw [hV]; exact (Ext.alloc _ _).trans (Ext.alloc _ _)
      have bB : Blk V gb 115 #[.int .i64 0, .int .i64 f.q, .int .i64 f.hd, .int .i64 f.at_, .slice A4 f.ws.length j4, .slice A5 f.rs.length j5, .slice A6 f.os.length j6, .slice A7 f.rs.length j7, .int .i64 C3.q, .slice A3 C3.l.length k3, .slice B3 C3.r.length t3] := by rw [hV]; exact (Blk.new _ _ _ _ hgb).alloc _
      have bV : Blk V (gb + 1) 2 #[.int .i64 0] := by rw [hV]; exact Blk.new _ _ _ _ (by simp [hgb])
      have r0 := bB.cell 0
      have r1 := bB.cell 1
      have r2 := bB.cell 2
      have r3 := bB.cell 3
      have r4 := bB.cell 4
      have r5 := bB.cell 5
      have r6 := bB.cell 6
      have r7 := bB.cell 7
      have r8 := bB.cell 8
      have r9 := bB.cell 9
      have r10 := bB.cell 10
      simp only [List.getElem?_toArray, List.getElem?_cons_zero, List.getElem?_cons_succ] at r0 r1 r2 r3 r4 r5 r6 r7 r8 r9 r10
      replace m0 := hx3.cell m0
      replace m1 := hx3.cell m1
      replace m2 := hx3.cell m2
      obtain ⟨hf, hN1, hN2, hN3, hN4, hN5, hN6, hN7, hok2, hcsl, hTr, FW, xT, oW, oR⟩ := HK.out
      have hE2 : Ext w00 w2 := (HB.out.1.trans xT).trans hx12
      have hcl : cs.length = f.rs.length := by rw [← hcs, List.length_replicate]
      have hcz : ∀ z ∈ cs, z = 2 := fun z hz => by rw [← hcs] at hz; exact List.eq_of_mem_replicate hz
      have hoz : ∀ o ∈ f.os, 0 ≤ o := fun o ho => by rw [hN3] at ho; rw [List.eq_of_mem_replicate ho]; exact Int.le_refl _
      have AC := accepted2_c m (.slice Am m.rules.length cm) _ _ _ (.slice A7 f.rs.length j7) (.slice A3 C3.l.length k3) (.slice B3 C3.r.length t3) 0 f cs C3 w2 V ⟨rfl, FW.ws.ext hx12, FW.rs.ext hx12, FW.os.ext hx12, FW.fl⟩ oU.ints (G3.out.l.ext hE2) (G3.out.r.ext hE2) (HB.out.2.2.2.2.2.1.ext hE2) HB.out.2.2.2.2.2.2 hok2 hcl hoz (fun z hz => by rw [hcz z hz]; omega) hx3
        #[.pointer (some ⟨gb + 1, 0, none⟩)] (gb + 1) 2 (fun l => .int .i64 ((l.getLastD 0 : Nat) : Int)) (fun _ => false) (by omega) bV
        (fun pre k W hg hb hk => (visit2_c (gb + 1) _ k W hb).mono fun e W' h => ⟨h.1, h.2.1, by
          have h3 := h.2.2
          rw [List.getLastD_concat]
          exact h3⟩)
      have AF := acc_first HB.out.2.2.2.2.2.2 (c := C3) hok2 hcl hoz hcz
      obtain ⟨L0, hL0⟩ : ∃ L, accV (fun _ => false) m f cs C3 = L := ⟨_, rfl⟩
      rw [hL0] at AC AF
      have HU := Lib.hid (And.intro oU (And.intro hcs (And.intro hx3 (And.intro hx12 (And.intro hcl (And.intro hgb hE2))))))
      clear hL0 oU hcs hx3 hx12 hcl hcz hoz hf hN1 hN2 hN3 hN4 hN5 hN6 hN7 hok2 hcsl hTr FW xT oW oR bB bV hE2 hx2 y0 y5 c2 c3 c4
      try rw [← hV]
      try rw [hgb]
      clear hV hgb
      go_wp2_with fail
      refine AC.mono ?_
      rintro e w5 ⟨rfl, hg5, hb5⟩
      have d5 := hb5.cell 0
      simp only [List.getElem?_toArray, List.getElem?_cons_zero] at d5
      have hx5 : Ext w2 w5 := HU.out.2.2.1.grown hg5 (fun k hk => by injection hk with hk; subst hk; have := HU.out.2.2.2.2.2.1; omega)
      have HG5 := Lib.hid (And.intro hx5 hb5)
      clear AC hg5 hb5 r0 r1 r2 r3 r4 r5 r6 r7 r8 r9 r10 m0 m1 m2
      rcases AF with rfl | ⟨k, rfl, hk1, hk2, hst, hl⟩
      · have d6 : w5.cell? ⟨gb + 1, 0, none⟩ = some (.int .i64 0) := d5
        have bO := HB.out.2.2.2.1.ext ((HK.out.2.2.2.2.2.2.2.2.2.2.2.2.1.trans HU.out.2.2.2.1).trans hx5)
        have p0 := bO.cell 0
        have p1 := bO.cell 1
        have p2 := bO.cell 2
        have z0 := bO.frozen 0
        have z1 := bO.frozen 1
        have z2 := bO.frozen 2
        simp only [List.getElem?_toArray, List.getElem?_cons_zero, List.getElem?_cons_succ] at p0 p1 p2
        have HO := Lib.hid (And.intro bO (HU.out.2.2.2.2.2.2.trans hx5))
        clear bO d5 hx5 y1 y2 y3 y4 c0
        go_wp2
        refine bodyPost_ret (v := .tuple #[.agg #[.int .i64 0, .slice none 0 0, .slice none 0 0], .bool false]) (by simp [results, Tryz.results65, go_sem, p0, p1, p2]) rfl ?_
        have hle := HB.out.2.2.2.2.1
        exact ⟨((HO.out.2.setCell (by simp only; omega) _).setCell (by simp only; omega) _).setCell (by simp only; omega) _, .inl rfl⟩
      · have d6 : w5.cell? ⟨gb + 1, 0, none⟩ = some (.int .i64 (k : Int)) := d5
        obtain ⟨hf, hN1, hN2, hN3, hN4, hN5, hN6, hN7, hok2, hcsl, hTr, FW, xT, oW, oR⟩ := HK.out
        have hx25 := HU.out.2.2.2.1.trans hx5
        have hk0 : ((k : Int) == 0) = false := by simp only [beq_eq_false_iff_ne, ne_eq]; omega
        have HKK := Lib.hid (And.intro hk1 (And.intro hk2 (And.intro hst hl)))
        replace y1 := hx5.cell y1
        replace y2 := hx5.cell y2
        replace y3 := hx5.cell y3
        replace y4 := hx5.cell y4
        replace c0 := hx5.cell c0
        obtain ⟨bw, ow, rfl, hcw⟩ := (oW.ext hx25).all rfl (by omega)
        obtain ⟨br, orr, rfl, hcr⟩ := (oR.ext hx25).all rfl (by omega)
        obtain ⟨u0, hu0, iu0⟩ := hcw 0 (by omega)
        rw [Nat.add_zero] at hu0
        obtain ⟨B0, q0, eu0, g0, g00⟩ := iu0.ints.form
        have hw00 : Wds w.heap.size w5 ps 1 [u0] := fun j hj => by
          obtain rfl : j = 0 := by omega
          exact ⟨u0, rfl, by rw [show ps.getD 0 [] = ps.getD (2 * 0) [] from rfl, ps_evs hN5 (by omega)]; exact iu0⟩
        have HW0 := Lib.hid hw00
        have HCW := Lib.hid hcw
        have HCR := Lib.hid hcr
        rw [eu0] at hu0
        obtain ⟨nn, hnn⟩ : ∃ n, f.ws[0].length = n := ⟨_, rfl⟩
        rw [hnn] at hu0 eu0
        obtain ⟨B, hB⟩ : ∃ B, w5.heap.size = B := ⟨_, rfl⟩
        obtain ⟨W6, hW6⟩ : ∃ W, W = w5.alloc (.cells #[.slice B0 nn q0] 27) := ⟨_, rfl⟩
        have hx6 : Ext w5 W6 := by rw [hW6]; exact Ext.alloc _ _
        have own6 : W6.ownsRow B 27 1 (.slice (some ⟨B, 0, none⟩) 1 1) 1 [u0] := by
          rw [hW6, eu0]
          exact ⟨rfl, .inr ⟨B, 1, #[.slice B0 nn q0], rfl, Nat.le_refl _, Blk.new _ _ _ _ hB, Nat.le_refl _, by unfold maxLen; omega, rfl, rfl⟩⟩
        have HB5 := Lib.hid hB
        have HX6 := Lib.hid hx6
        have hlW : 0 < f.ws.length := by omega
        have HNN := Lib.hid (And.intro hN1 (And.intro hN2 (And.intro hN4 (And.intro hN5 hN7))))
        have y3a := (Ext.alloc w5 (.cells #[.slice B0 nn q0] 27)).cell y3
        have y4a := (Ext.alloc w5 (.cells #[.slice B0 nn q0] 27)).cell y4
        have hws : f.ws.length ≤ j4 := by have := FW.ws.form; obtain ⟨_, _, e, h, _⟩ := this; (injection e with _ _ e3) <;> omega
        have hrs : f.rs.length ≤ j5 := by have := FW.rs.form; obtain ⟨_, _, e, h, _⟩ := this; (injection e with _ _ e3) <;> omega
        have hr3 : f.rs.length ≤ 2 := by omega
        have hw3 : f.rs.length + 1 ≤ f.ws.length := by omega
        clear g0 g00 hf hN1 hN2 hN3 hN4 hN5 hN6 hN7 hok2 hcsl hTr FW xT oW oR hx25 hk1 hk2 hst hl hcw hcr iu0 hw00 eu0 hnn hx6 d5 hx5
        go_wp2_with fail
        try rw [← hW6]
        try rw [hB]
        clear hW6 hB y3a y4a hu0
        go_loopw [15, 59] (fun v i wr => ∃ (t : Nat) (us : List Value), t ≤ f.rs.length ∧ i = .int .i64 (t : Int) ∧ Hid (Ext w5 wr) ∧ wr.ownsRow B 27 1 v (2 * t + 1) us ∧ Hid (Wds w.heap.size w5 ps (2 * t + 1) us)) (fun _ i _ => f.rs.length - (intOf i).toNat)
        case atStart => exact ⟨0, [u0], Nat.zero_le _, rfl, HX6, own6, HW0⟩
        case round =>
          clear own6
          obtain ⟨t, us, ht, rfl, HXR, hown, HWD⟩ := hrel
          obtain ⟨Av, cv, rfl, hv1, hv2, _⟩ := (ownsRow_row hown).form
          by_cases hlt : t < f.rs.length
          · have hd : decide ((t : Int) < (f.rs.length : Int)) = true := decide_eq_true (by omega)
            have hwt : IntKind.i64.wrap ((t : Int) + 1) = ((t + 1 : Nat) : Int) := by rw [show (t : Int) + 1 = ((t + 1 : Nat) : Int) by omega]; exact IntWalk.i64_in _ (by omega)
            obtain ⟨ua, ha, ia⟩ := HCR.out t hlt
            obtain ⟨ub, hb, ib⟩ := HCW.out (t + 1) (by omega)
            obtain ⟨Aa, ca, eua, ga, gaa⟩ := ia.ints.form
            obtain ⟨Ab, cb, eub, gb1, gbb⟩ := ib.ints.form
            have HWN := Lib.hid (HWD.out.snoc (by have := hown.1; omega) (by rw [ps_ods HNN.out.2.2.1 hlt]; exact ia) (by rw [show 2 * t + 1 + 1 = 2 * (t + 1) by omega, ps_evs HNN.out.2.2.2.1 (by omega)]; exact ib))
            rw [eua] at ha
            rw [eub] at hb
            rw [eua, eub] at HWN
            generalize f.rs[t].length = na at *
            generalize f.ws[t + 1].length = nb at *
            replace ha := HXR.out.cell ha
            replace hb := HXR.out.cell hb
            have y3r := HXR.out.cell y3
            have hlu : us.length = 2 * t + 1 := by have := hown.1; omega
            have hBw : B ≤ wr.heap.size := by rw [← HB5.out]; exact HXR.out.size
            have hown2 := ownsRow_ext hown (Ext.alloc wr (.cells #[.slice Aa na ca, .slice Ab nb cb] 27))
            clear ia ib eua eub ga gaa gb1 gbb
            go_wp2_with (at_builtin; refine wpList_append_own_at _ rfl _ _ 32 rfl B 27 r0i (.slice none 0 0) 1 24 Tryz.underlying32 hri rz0 rz1 rz2 rfl (by decide) _ _ _ rfl hown2 ⟨wr.heap.size, 0, none⟩ 2 2 [.slice Aa na ca, .slice Ab nb cb] rfl rfl (World.news_of_block (heap_alloc_new wr _)) ?d2 ?d3 ?d4 ?d5 ?_)
            case d2 => intro u hu; simp at hu; rcases hu with rfl | rfl <;> rfl
            case d3 => unfold maxLen; omega
            case d4 => omega
            case d5 => simp; omega
            intro v' w9 hown9 hg9 _ _
            have HX9 : Hid (Ext w5 w9) := Lib.hid ((HXR.out.trans (Ext.alloc wr _)).grown hg9 (fun j hj => by have := (hown2.lt j hj).1; have := HB5.out; omega))
            have HO9 := Lib.hid hown9
            obtain ⟨A9, c9, rfl, _, _, _⟩ := (ownsRow_row hown9).form
            clear hown9 hg9 hown2 hown
            go_wp2
            go_roundw
            case rel => exact ⟨t + 1, _, by omega, by go_num, HX9, HO9.out, HWN⟩
            case measure => simp [intOf]; omega
          · have hd : decide ((t : Int) < (f.rs.length : Int)) = false := decide_eq_false (by omega)
            obtain rfl : t = f.rs.length := by omega
            replace c0 := HXR.out.cell c0
            replace d6 := HXR.out.cell d6
            replace y1 := HXR.out.cell y1
            replace y2 := HXR.out.cell y2
            obtain ⟨oU, hcs, hx3, hx12, hcl, hgb, hE2⟩ := HU.out
            obtain ⟨Wa, hWa⟩ : ∃ W, W = wr.alloc (.cells #[.int .i64 n3, .int .i64 k, .int .i64 f.hd, .int .i64 f.at_] 2) := ⟨_, rfl⟩
            obtain ⟨Wb, hWb⟩ : ∃ W, W = Wa.alloc (.cells #[.slice (some ⟨wr.heap.size, 0, none⟩) 4 4, .slice A7 f.rs.length j7] 27) := ⟨_, rfl⟩
            have hxa : Ext wr Wa := by rw [hWa]; exact Ext.alloc _ _
            have hx5r : Ext w2 Wa := (HG5.out.1.trans HXR.out).trans hxa
            have iN : Ints Wa (.slice (some ⟨wr.heap.size, 0, none⟩) 4 4) [(n3 : Int), (k : Int), f.hd, f.at_] := by
              rw [hWa]
              have hb : Blk (wr.alloc (.cells #[.int .i64 n3, .int .i64 k, .int .i64 f.hd, .int .i64 f.at_] 2)) wr.heap.size 2 ([.int .i64 n3, .int .i64 k, .int .i64 f.hd, .int .i64 f.at_] : List Value).toArray := Blk.new _ _ _ _ rfl
              exact row_blk hb rfl (by omega)
            have JC := joined2_c (some ⟨wr.heap.size, 0, none⟩) A7 4 j7 [(n3 : Int), (k : Int), f.hd, f.at_] cs Wa iN (by rw [hcl]; exact oU.ints.ext hx5r) (.inr ⟨_, _, _, _, rfl⟩) (by rw [hcl]; exact oU.flat) (by rw [hcl]; simp only [List.length_cons, List.length_nil]; omega)
            rw [hcl] at JC
            simp only [List.length_cons, List.length_nil, Nat.zero_add, Nat.reduceAdd] at JC
            rw [← hWb] at JC
            obtain ⟨L, hL⟩ : ∃ L, [(n3 : Int), (k : Int), f.hd, f.at_] ++ cs = L := ⟨_, rfl⟩
            rw [hL] at JC
            have HL := Lib.hid (And.intro hL (And.intro hx5r hxa))
            have hsz : Wa.heap.size = wr.heap.size + 1 := by rw [hWa]; simp
            rw [hsz] at JC
            have HSZ := Lib.hid hsz
            clear oU hcs hx3 hx12 hcl hgb hE2 hxa hx5r iN hL hsz
            go_wp2_with fail
            try rw [← hWa]
            try rw [← hWb]
            clear hWa hWb
            refine JC.mono ?_
            rintro e wj ⟨nv, rfl, oN, hxj⟩
            obtain ⟨An, cn, rfl, _, _⟩ := id oN.ints.form
            obtain ⟨ln, hln⟩ : ∃ n, L.length = n := ⟨_, rfl⟩
            rw [hln] at oN ⊢
            have hxw : Ext w5 wj := (HXR.out.trans HL.out.2.2).trans hxj
            have hwx : Ext w wj := ((HK.out.2.2.2.2.2.2.2.2.2.2.2.2.1.trans HU.out.2.2.2.1).trans HG5.out.1).trans hxw
            have bO := HB.out.2.2.2.1.ext hwx
            have p0 := bO.cell 0
            have p1 := bO.cell 1
            have p2 := bO.cell 2
            have z0 := bO.frozen 0
            have z1 := bO.frozen 1
            have z2 := bO.frozen 2
            simp only [List.getElem?_toArray, List.getElem?_cons_zero, List.getElem?_cons_succ] at p0 p1 p2
            have hownj := ownsRow_ext hown (HL.out.2.2.trans hxj)
            have HO := Lib.hid (And.intro bO (And.intro oN (And.intro hownj (And.intro hxw hwx))))
            clear bO oN hownj hxw hwx hown hxj c0 d6 y1 y2 y3 y4 JC hln
            go_wp2
            obtain ⟨bO, oN, hownj, hxw, hwx⟩ := HO.out
            have hle := HB.out.2.2.2.2.1
            have hw5 := HX6.out
            obtain ⟨hL, hx5r, hxa⟩ := HL.out
            have hszw : w.heap.size ≤ w5.heap.size := Nat.le_trans HK.out.2.2.2.2.2.2.2.2.2.2.2.2.1.size (Nat.le_trans HU.out.2.2.2.1.size HG5.out.1.size)
            have hgO : gm + 1 + 1 + 1 + 1 < w.heap.size := HB.out.2.2.2.1.lt
            have hw00 := HB.out.1.size
            have hB5 := HB5.out
            have hsz := HSZ.out
            have hxrs := HXR.out.size
            refine bodyPost_ret (v := .tuple #[.agg #[.int .i64 6, .slice An ln cn, .slice Av (2 * f.rs.length + 1) cv], .bool true]) (by simp [results, Tryz.results65, go_sem, p0, p1, p2]) rfl ?_
            refine ⟨(((HB.out.1.trans hwx).setCell (by simp only; omega) _).setCell (by simp only; omega) _).setCell (by simp only; omega) _, .inr ⟨k, f, cs, ps, .slice An ln cn, .slice Av (2 * f.rs.length + 1) cv, rfl, ?_, ?_, ?_⟩⟩
            · have e1 : cs = List.replicate (ods ps).length 2 := by rw [← HU.out.2.1]; exact HK.out.2.2.2.2.2.2.2.2.2.1
              rw [e1, ← HK.out.1]
              have hst := HKK.out.2.2.1
              have hl := HKK.out.2.2.2
              rw [e1, ← HK.out.1] at hst hl
              exact bnc_of HB.out.2.2.2.2.2.2 G3.out HK.out.2.2.2.2.2.2.2.2.2.2.1 Z1.out.2 Z2.out.2 HKK.out.2.1 hst hl
            · have o2 : OwnInts _ _ _ _ := low3 (gO := gm + 1 + 1 + 1 + 1) oN (by omega) (.int .i64 6) (.slice An ln cn) (.slice Av (2 * f.rs.length + 1) cv)
              rw [← hL] at o2
              exact ownsRow_base o2 (by omega)
            · exact HWD.out.lists HNN.out.2.2.2.2.symm hxw hownj hgO (by omega) hw00 (by omega) _ _ _
end Go.Proofs.YtojiammendjpkaaGreat
end
section
set_option linter.unusedSimpArgs false
set_option linter.unusedVariables false
namespace Go.Proofs.YtojiammendjpkaaGreat
open Go Go.RowKit Go.Proofs
set_option maxHeartbeats 400000
/-- The cells of records. -/
def encs (rs : List RecV) : List Value := rs.flatMap encC
theorem encs_len (rs : List RecV) : (encs rs).length = rs.length * 5 := by
  induction rs with
  | nil => rfl
  | cons r rs ih => simp only [encs, List.flatMap_cons, List.length_append, List.length_cons] at *; rw [ih]; simp [encC]; omega
theorem encs_get : ∀ (rs : List RecV) (k : Nat) (h : k < rs.length), (encs rs)[k * 5]? = some (.int .i64 rs[k].n) ∧ (encs rs)[k * 5 + 1]? = some (.int .i64 rs[k].side) ∧ (encs rs)[k * 5 + 2]? = some (.int .i64 rs[k].c.q) ∧ (encs rs)[k * 5 + 3]? = some rs[k].lv ∧ (encs rs)[k * 5 + 4]? = some rs[k].rv
  | r :: rs, 0, h => ⟨rfl, rfl, rfl, rfl, rfl⟩
  | r :: rs, k + 1, h => by
    have ih := encs_get rs k (by simpa using h)
    have e : ∀ j, (encs (r :: rs))[(k + 1) * 5 + j]? = (encs rs)[k * 5 + j]? := fun j => by
      show (encC r ++ encs rs)[(k + 1) * 5 + j]? = _
      rw [List.getElem?_append_right (by simp [encC]; omega)]
      congr 1
      simp [encC]
      omega
    refine ⟨(e 0).trans ih.1, (e 1).trans ih.2.1, (e 2).trans ih.2.2.1, (e 3).trans ih.2.2.2.1, (e 4).trans ih.2.2.2.2⟩
theorem encs_set (x : RecV) : ∀ (rs : List RecV) (k : Nat), k < rs.length → encs (rs.set k x) = (((((encs rs).set (k * 5) (.int .i64 x.n)).set (k * 5 + 1) (.int .i64 x.side)).set (k * 5 + 2) (.int .i64 x.c.q)).set (k * 5 + 3) x.lv).set (k * 5 + 4) x.rv
  | r :: rs, 0, h => rfl
  | r :: rs, k + 1, h => by
    have ih := encs_set x rs k (by simpa using h)
    have e : ∀ (l : List Value) (j : Nat) (v : Value), (encC r ++ l).set ((k + 1) * 5 + j) v = encC r ++ l.set (k * 5 + j) v := fun l j v => by
      rw [List.set_append_right _ _ (by simp [encC]; omega)]
      congr 2
      simp [encC]
      omega
    show encC r ++ encs (rs.set k x) = ((((((encC r ++ encs rs).set ((k + 1) * 5 + 0) _).set _ _).set _ _).set _ _).set _ _)
    rw [ih, e, e, e, e, e]
    rfl
/-- Records in a row. -/
def Recs (w : World) (v : Value) (rs : List RecV) : Prop := Row w 5 v rs.length (encs rs)
theorem Recs.ext {w w' : World} {v : Value} {rs : List RecV} (h : Recs w v rs) (he : Ext w w') : Recs w' v rs := Row.ext h he
theorem Recs.form {w : World} {v : Value} {rs : List RecV} (h : Recs w v rs) : ∃ A c, v = .slice A rs.length c ∧ rs.length ≤ c ∧ c ≤ 9223372036854775807 := by
  obtain ⟨A, c, hv, h1, h2, _⟩ := Row.form h
  exact ⟨A, c, hv, h1, h2⟩
theorem Recs.at {w : World} {c : Nat} {A : Option Addr} {rs : List RecV} (h : Recs w (.slice A rs.length c) rs) {k : Nat} (hk : k < rs.length) :
    ∃ b off, A = some ⟨b, off, none⟩ ∧ ∀ j, (hj : j < rs.length) → w.cell? ⟨b, off + j * 5, none⟩ = some (.int .i64 rs[j].n) ∧ w.cell? ⟨b, off + j * 5 + 1, none⟩ = some (.int .i64 rs[j].side) ∧ w.cell? ⟨b, off + j * 5 + 2, none⟩ = some (.int .i64 rs[j].c.q) ∧ w.cell? ⟨b, off + j * 5 + 3, none⟩ = some rs[j].lv ∧ w.cell? ⟨b, off + j * 5 + 4, none⟩ = some rs[j].rv := by
  obtain ⟨b, off, hA, hc⟩ := Row.at h hk
  refine ⟨b, off, hA, fun j hj => ?_⟩
  obtain ⟨e0, e1, e2, e3, e4⟩ := encs_get rs j hj
  refine ⟨by rw [hc (j * 5) (by omega), e0], ?_, ?_, ?_, ?_⟩
  · rw [Nat.add_assoc, hc (j * 5 + 1) (by omega), e1]
  · rw [Nat.add_assoc, hc (j * 5 + 2) (by omega), e2]
  · rw [Nat.add_assoc, hc (j * 5 + 3) (by omega), e3]
  · rw [Nat.add_assoc, hc (j * 5 + 4) (by omega), e4]
theorem encs_take (rs : List RecV) (k : Nat) (hk : k ≤ rs.length) : (encs rs).take (k * 5) = encs (rs.take k) := by
  have e : encs rs = encs (rs.take k) ++ encs (rs.drop k) := by
    unfold encs
    rw [← List.flatMap_append, List.take_append_drop]
  have hl : (encs (rs.take k)).length = k * 5 := by rw [encs_len, List.length_take, Nat.min_eq_left hk]
  rw [e, List.take_append_of_le_length (by omega), List.take_of_length_le (by omega)]
/-- The first of them. -/
theorem Recs.take {w : World} {A : Option Addr} {c : Nat} {rs : List RecV} (h : Recs w (.slice A rs.length c) rs) (k : Nat) (hk : k ≤ rs.length) : Recs w (.slice A k c) (rs.take k) := by
  obtain ⟨A', c', hv, h1, h1', h2, h3⟩ := h
  injection hv with e1 e2 e3
  subst e1 e3
  have hl : (rs.take k).length = k := by rw [List.length_take, Nat.min_eq_left hk]
  unfold Recs
  rw [hl]
  refine ⟨A, c, rfl, by omega, h1', by rw [encs_len, hl], fun hn => ?_⟩
  obtain ⟨b, off, rfl, hc⟩ := h3 (by omega)
  refine ⟨b, off, rfl, fun j hj => ?_⟩
  rw [encs_len, hl] at hj
  rw [hc j (by rw [encs_len]; omega), ← encs_take rs k hk, List.getElem?_take, if_pos hj]
/-- The closure of FindBouncer: whether a record is not on the right. -/
theorem side_c (x : RecV) (w : World) (hl : Flat x.lv) (hr : Flat x.rv) : Calls Tryz.prog 64 #[recVal x] w fun e w' => (∃ b, e = .returned (.bool b)) ∧ Ext w w' := by
  obtain ⟨n, side, c, lv, rv⟩ := x
  simp only [recVal] at *
  have fl : ∃ A n c, lv = .slice A n c := by
    rcases hl with rfl | ⟨_, _, _, _, rfl⟩
    · exact ⟨_, _, _, rfl⟩
    · exact ⟨_, _, _, rfl⟩
  have fr : ∃ A n c, rv = .slice A n c := by
    rcases hr with rfl | ⟨_, _, _, _, rfl⟩
    · exact ⟨_, _, _, rfl⟩
    · exact ⟨_, _, _, rfl⟩
  obtain ⟨A1, n1, c1, rfl⟩ := fl
  obtain ⟨A2, n2, c2, rfl⟩ := fr
  go_enter Tryz.func64, Tryz.ntmps64
  go_wp2
  go_ret
  exact ⟨⟨_, rfl⟩, Ext.alloc _ _⟩
abbrev fnSide : Value := .func (.func 64) #[] #[]
set_option maxRecDepth 20000 in
set_option maxHeartbeats 1000000 in
theorem indexR_c (v : Value) (rs : List RecV) (w : World) (hT : Recs w v rs) (hf : ∀ r ∈ rs, Flat r.lv ∧ Flat r.rv) :
    Calls Tryz.prog 118 #[v, fnSide] w fun e w' => ∃ z : Int, e = .returned (.int .i64 z) ∧ (z = -1 ∨ 0 ≤ z ∧ z < rs.length) ∧ Ext w w' := by
  obtain ⟨At, ct, rfl, h1, h2⟩ := hT.form
  go_enter Tryz.func118, Tryz.ntmps118
  go_wp2_with fail
  go_loopw [8] (fun u wr => ∃ k : Nat, k ≤ rs.length ∧ u = .int .i64 (k : Int) ∧ Ext w wr) (fun u _ => rs.length - (intOf u).toNat)
  case atStart => exact ⟨0, Nat.zero_le _, rfl, Ext.refl _⟩
  case round =>
    obtain ⟨k, hk, rfl, hx⟩ := hrel
    by_cases hlt : k < rs.length
    · obtain ⟨b, off, rfl, hc⟩ := (hT.ext hx).at hlt
      obtain ⟨c0, c1, c2, c3, c4⟩ := hc k hlt
      obtain ⟨f1, f2⟩ := hf rs[k] (List.getElem_mem hlt)
      have SC := side_c rs[k] wr f1 f2
      unfold recVal at SC
      have o1 : rs[k].lv.oneCell' = true := by
        rcases f1 with e | ⟨_, _, _, _, e⟩ <;> rw [e] <;> rfl
      have HF := Lib.hid (And.intro f1 f2)
      generalize rs[k] = X at *
      obtain ⟨n, side, c, lv, rv⟩ := X
      simp only at *
      have fl : ∃ A n c, lv = .slice A n c := by
        rcases f1 with rfl | ⟨_, _, _, _, rfl⟩
        · exact ⟨_, _, _, rfl⟩
        · exact ⟨_, _, _, rfl⟩
      have fr : ∃ A n c, rv = .slice A n c := by
        rcases f2 with rfl | ⟨_, _, _, _, rfl⟩
        · exact ⟨_, _, _, rfl⟩
        · exact ⟨_, _, _, rfl⟩
      obtain ⟨A1, n1, k1, rfl⟩ := fl
      obtain ⟨A2, n2, k2, rfl⟩ := fr
      clear hc f1 f2 o1 HF
      go_wp2_with fail
      refine SC.mono ?_
      rintro e w3 ⟨⟨y, rfl⟩, hx3⟩
      clear SC
      have HX := Lib.hid (hx.trans hx3)
      clear hx hx3
      cases y with
      | true =>
        go_wp2_with fail
        go_ret
        exact ⟨_, rfl, .inr ⟨by omega, by omega⟩, HX.out⟩
      | false =>
        go_wp2_with fail
        go_roundw
        case rel => exact ⟨k + 1, by omega, by go_num, HX.out⟩
        case measure => simp [intOf]; omega
    · obtain rfl : k = rs.length := by omega
      go_wp2_with fail
      go_ret
      exact ⟨_, rfl, .inl rfl, hx⟩
end Go.Proofs.YtojiammendjpkaaGreat
end
