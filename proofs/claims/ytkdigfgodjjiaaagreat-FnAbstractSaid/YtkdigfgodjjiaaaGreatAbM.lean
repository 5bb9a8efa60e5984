/- Contract of the program's product of two automata. -/
import Derived.Test.YtkdigfgodjjiaaaGreatAbL
import Derived.Test.YtkdigfgodjjiaaaGreatOrd
set_option linter.unusedSimpArgs false
set_option linter.unusedVariables false
set_option linter.unusedSectionVars false
set_option maxHeartbeats 4000000
namespace Go.Proofs.YtkdigfgodjjiaaaGreat
open Go Go.RowKit Go.Proofs
/-- The product of two automata that is being made, in block go. -/
structure PrdSt (w : World) (g go : Nat) (a b : DfaD) (av bv : Value) (st : Int) (rv : Value) (nx : List Int) (W : World) : Prop where
  ba : Blk W g 30 #[.int .i64 a.st, av]
  bb : Blk W (g + 1) 30 #[.int .i64 b.st, bv]
  rs : RecSt w (g + 1 + 1) go st rv nx W
theorem PrdSt.ext' {w : World} {g go : Nat} {a b : DfaD} {av bv : Value} {st : Int} {rv : Value} {nx : List Int} {W W' : World} (h : PrdSt w g go a b av bv st rv nx W) (he : Ext W W') : PrdSt w g go a b av bv st rv nx W' :=
  ⟨h.ba.ext he, h.bb.ext he, h.rs.ext' he⟩
theorem PrdSt.snoc {w : World} {g go : Nat} {a b : DfaD} {av bv : Value} {st : Int} {rv v' : Value} {nx ys : List Int} {W W' : World} (h : PrdSt w g go a b av bv st rv nx W) (hgo : g + 1 + 1 < go) (hw : w.heap.size ≤ go) (ho : OwnInts w.heap.size W' v' ys) (hg : W.grownBy W' rv.ownBlock) :
    PrdSt w g go a b av bv st v' ys (W'.setCell ⟨go, 1, none⟩ v') := by
  have a2 := Blk.apart h.ba h.rs.own (by decide) hg
  have b2 := Blk.apart h.bb h.rs.own (by decide) hg
  exact ⟨a2.far (p := ⟨go, 1, none⟩) (by show g ≠ go; omega) _, b2.far (p := ⟨go, 1, none⟩) (by show g + 1 ≠ go; omega) _, h.rs.snoc (by omega) hw ho hg⟩
def prodK (a b : DfaD) (sy : Int) (N : Nat) : List Int := (List.range N).map (prodE a b sy)
theorem prodK_len (a b : DfaD) (sy : Int) (N : Nat) : (prodK a b sy N).length = N := by simp [prodK]
theorem prodK_next (a b : DfaD) (sy : Int) (N : Nat) : prodK a b sy (N + 1) = prodK a b sy N ++ [prodE a b sy N] := by
  unfold prodK
  rw [List.range_succ, List.map_append]
  rfl
theorem prodE_at {a b : DfaD} {sy i k x : Int} {N : Nat} (hN : (N : Int) = (i * b.st + k) * sy + x) (k0 : 0 ≤ k) (k1 : k < b.st) (x0 : 0 ≤ x) (x1 : x < sy) : prodE a b sy N = toD a i x sy * b.st + toD b k x sy := by
  have d1 : (N : Int) / sy = i * b.st + k := by rw [hN, Int.add_comm, Int.add_mul_ediv_right _ _ (by omega), Int.ediv_eq_zero_of_lt x0 x1, Int.zero_add]
  have d2 : (N : Int) % sy = x := by rw [hN, Int.add_comm, Int.add_mul_emod_self_right, Int.emod_eq_of_lt x0 x1]
  have d3 : (i * b.st + k) / b.st = i := by rw [Int.add_comm, Int.add_mul_ediv_right _ _ (by omega), Int.ediv_eq_zero_of_lt k0 k1, Int.zero_add]
  have d4 : (i * b.st + k) % b.st = k := by rw [Int.add_comm, Int.add_mul_emod_self_right, Int.emod_eq_of_lt k0 k1]
  unfold prodE
  rw [d1, d2, d3, d4]
/-- What the product gives. -/
def ProdRes (w : World) (a b : DfaD) (sy : Int) (e : Ending) (w' : World) : Prop :=
  Ext w w' ∧ ((20 < a.st * b.st ∧ e = .returned (.tuple #[.agg #[.int .i64 0, .slice none 0 0], .int .i64 5])) ∨ (a.st * b.st ≤ 20 ∧ ∃ v, e = .returned (.tuple #[v, .int .i64 0]) ∧ Dfas w' v (prodD a b sy)))
set_option maxRecDepth 20000 in
theorem ProductDfa_c (a b : DfaD) (av bv : Value) (sy : Int) (w : World) (ha : Ints w av a.nx) (hb : Ints w bv b.nx) (oa : dfaOk a sy = true) (ob : dfaOk b sy = true) :
    Calls Tryz.prog 13 #[.agg #[.int .i64 a.st, av], .agg #[.int .i64 b.st, bv], .int .i64 sy] w (ProdRes w a b sy) := by
  obtain ⟨i0, hi0, hz0, hz1, hz2⟩ := info_parts intInfoW
  obtain ⟨⟨s1, s2⟩, ⟨a1, a2⟩, _, _, _⟩ := dfaOk_parts oa
  obtain ⟨_, ⟨b1, b2⟩, _, _, _⟩ := dfaOk_parts ob
  obtain ⟨Aa, ca, rfl, _, _⟩ := ha.form
  obtain ⟨Ab, cb, rfl, _, _⟩ := hb.form
  obtain ⟨W, hW⟩ : ∃ W, ((w.alloc (.cells #[.int .i64 a.st, .slice Aa a.nx.length ca] 30)).alloc (.cells #[.int .i64 b.st, .slice Ab b.nx.length cb] 30)).alloc (.cells #[.int .i64 0, .slice none 0 0] 30) = W := ⟨_, rfl⟩
  have hX : Ext w W := by rw [← hW]; exact ((Ext.alloc _ _).trans (Ext.alloc _ _)).trans (Ext.alloc _ _)
  have bA : Blk W w.heap.size 30 #[.int .i64 a.st, .slice Aa a.nx.length ca] := by rw [← hW]; exact ((Blk.new _ _ _ _ rfl).ext (Ext.alloc _ _)).ext (Ext.alloc _ _)
  have bB : Blk W (w.heap.size + 1) 30 #[.int .i64 b.st, .slice Ab b.nx.length cb] := by rw [← hW]; exact (Blk.new _ _ _ _ (by simp)).ext (Ext.alloc _ _)
  have bR : Blk W (w.heap.size + 1 + 1) 30 #[.int .i64 0, .slice none 0 0] := by rw [← hW]; exact Blk.new _ _ _ _ (by simp)
  generalize hg0 : w.heap.size = g at *
  have hmul : 1 ≤ a.st * b.st ∧ a.st * b.st ≤ 400 := by
    have e1 : 1 * 1 ≤ a.st * b.st := Int.mul_le_mul a1 b1 (by omega) (by omega)
    have e2 : a.st * b.st ≤ 20 * 20 := Int.mul_le_mul a2 b2 (by omega) (by omega)
    omega
  have hw1 : IntKind.i64.wrap (a.st * b.st) = a.st * b.st := IntWalk.i64_in _ (by omega)
  have p0 := bA.cell 0
  have p1 := bA.cell 1
  simp only [List.getElem?_toArray, List.getElem?_cons_zero, List.getElem?_cons_succ] at p0 p1
  go_enter Tryz.func13, Tryz.ntmps13
  go_wp2_with fail
  clear hW p0 p1
  refine (ValidDfa_c _ a sy W ⟨_, rfl, ha.ext hX⟩ oa).mono ?_
  rintro e w1 ⟨rfl, hx1⟩
  have q0 := (bB.ext hx1).cell 0
  have q1 := (bB.ext hx1).cell 1
  simp only [List.getElem?_toArray, List.getElem?_cons_zero, List.getElem?_cons_succ] at q0 q1
  have hX1 := hX.trans hx1
  go_wp2_with fail
  refine (ValidDfa_c _ b sy w1 ⟨_, rfl, hb.ext hX1⟩ ob).mono ?_
  rintro e w2 ⟨rfl, hx2⟩
  have bA2 := (bA.ext hx1).ext hx2
  have bB2 := (bB.ext hx1).ext hx2
  have bR2 := (bR.ext hx1).ext hx2
  have hX2 := hX1.trans hx2
  clear q0 q1
  have p0 := bA2.cell 0
  have p1 := bA2.cell 1
  have q0 := bB2.cell 0
  have q1 := bB2.cell 1
  have r0 := bR2.cell 0
  have r1 := bR2.cell 1
  have f0 := bR2.frozen 0
  have f1 := bR2.frozen 1
  simp only [List.getElem?_toArray, List.getElem?_cons_zero, List.getElem?_cons_succ] at p0 p1 q0 q1 r0 r1
  by_cases h20 : 20 < a.st * b.st
  · go_wp2
    refine bodyPost_ret (v := .tuple #[.agg #[.int .i64 0, .slice none 0 0], .int .i64 5]) (by simp [results, Tryz.results13, go_sem, r0, r1]) rfl ⟨?_, .inl ⟨h20, rfl⟩⟩
    exact (hX2.setCell (p := ⟨g + 1 + 1, 0, none⟩) (by simp; omega) _).setCell (p := ⟨g + 1 + 1, 1, none⟩) (by simp; omega) _
  · obtain ⟨go, hgo⟩ : ∃ go, go = w2.heap.size := ⟨_, rfl⟩
    obtain ⟨W3, hW3⟩ : ∃ W3, w2.alloc (.cells #[.int .i64 (a.st * b.st), .slice none 0 0] 30) = W3 := ⟨_, rfl⟩
    have hX3 : Ext w2 W3 := by rw [← hW3]; exact Ext.alloc _ _
    have hlt := bR2.lt
    have hwg : w.heap.size ≤ go := by omega
    have st0 : PrdSt w g go a b (.slice Aa a.nx.length ca) (.slice Ab b.nx.length cb) (a.st * b.st) (.slice none 0 0) (prodK a b sy 0) W3 :=
      ⟨bA2.ext hX3, bB2.ext hX3, bR2.ext hX3, by rw [← hW3]; exact Blk.new _ _ _ _ hgo.symm, ⟨by simp [ivs, prodK], .inl ⟨by simp [prodK], rfl⟩⟩, hX2.trans hX3⟩
    have hgo2 : g + 1 + 1 < go := by omega
    clear r0 r1 f0 f1
    have m0 := st0.ba.cell 0
    simp only [List.getElem?_toArray, List.getElem?_cons_zero, List.getElem?_cons_succ] at m0
    rw [← hW3] at m0
    have HG := Lib.hid hgo
    have HW := Lib.hid hW3
    clear hgo hW3
    obtain ⟨S, rfl⟩ : ∃ S : Nat, sy = (S : Int) := ⟨sy.toNat, by omega⟩
    obtain ⟨T, hT⟩ : ∃ T : Nat, a.st = (T : Int) := ⟨a.st.toNat, by omega⟩
    obtain ⟨U, hU⟩ : ∃ U : Nat, b.st = (U : Int) := ⟨b.st.toNat, by omega⟩
    have HT := Lib.hid hT
    have HU := Lib.hid hU
    clear hT hU
    have HA := Lib.hid oa
    have HB := Lib.hid ob
    have HIA := Lib.hid ha
    have HIB := Lib.hid hb
    have HST : Hid (a.st * b.st ≤ 20) := Lib.hid (by omega)
    clear oa ob bA bB bR bA2 bB2 bR2 hX1 hx1 hx2
    go_wp2
    rw [HW.out, ← HG.out]
    clear p0 p1 q0 q1 m0 HW HG
    go_loopw [38] (fun i wr => ∃ (n N : Nat) (rv : Value), n ≤ T ∧ i = .int .i64 (n : Int) ∧ Hid ((N : Int) = (n * b.st + 0) * (S : Int) + 0) ∧ PrdSt w g go a b (.slice Aa a.nx.length ca) (.slice Ab b.nx.length cb) (a.st * b.st) rv (prodK a b (S : Int) N) wr) (fun i _ => T - (intOf i).toNat)
    case atStart => exact ⟨0, 0, _, Nat.zero_le _, rfl, Lib.hid (by simp), st0⟩
    case round =>
      obtain ⟨n, N, rv, hn, rfl, HN, stn⟩ := hrel
      have p0 := stn.ba.cell 0
      have q0 := stn.bb.cell 0
      have r0 := stn.rs.res.cell 0
      have r1 := stn.rs.res.cell 1
      have f0 := stn.rs.res.frozen 0
      have f1 := stn.rs.res.frozen 1
      have o0 := stn.rs.out.cell 0
      have o1 := stn.rs.out.cell 1
      simp only [List.getElem?_toArray, List.getElem?_cons_zero, List.getElem?_cons_succ] at p0 q0 r0 r1 o0 o1
      by_cases hnT : n < T
      · have hi1 : (n : Int) < a.st := by have := HT.out; omega
        clear r0 r1 f0 f1 o0 o1
        go_wp2
        clear p0 q0
        go_loopw [43] (fun i wr => ∃ (k N : Nat) (rv : Value), k ≤ U ∧ i = .int .i64 (k : Int) ∧ Hid ((N : Int) = (n * b.st + k) * (S : Int) + 0) ∧ PrdSt w g go a b (.slice Aa a.nx.length ca) (.slice Ab b.nx.length cb) (a.st * b.st) rv (prodK a b (S : Int) N) wr) (fun i _ => U - (intOf i).toNat)
        case atStart => exact ⟨0, N, _, Nat.zero_le _, rfl, HN, stn⟩
        case round =>
          clear stn HN
          obtain ⟨k, N, rv, hk, rfl, HN, stn⟩ := hrel
          by_cases hkU : k < U
          · have hi2 : (k : Int) < b.st := by have := HU.out; omega
            go_wp2
            go_loopw [47] (fun i wr => ∃ (s N : Nat) (rv : Value), s ≤ S ∧ i = .int .i64 (s : Int) ∧ Hid ((N : Int) = (n * b.st + k) * (S : Int) + s) ∧ PrdSt w g go a b (.slice Aa a.nx.length ca) (.slice Ab b.nx.length cb) (a.st * b.st) rv (prodK a b (S : Int) N) wr) (fun i _ => S - (intOf i).toNat)
            case atStart => exact ⟨0, N, _, Nat.zero_le _, rfl, HN, stn⟩
            case round =>
              clear stn HN
              obtain ⟨s, N, rv, hs, rfl, HN, stn⟩ := hrel
              by_cases hsS : s < S
              · have hi3 : (s : Int) < (S : Int) := by omega
                have hN400 : N ≤ 120 := by
                  have e1 : (n * b.st + k) * (S : Int) + (S : Int) ≤ (a.st * b.st) * (S : Int) := by
                    have e0 : (n : Int) * b.st + b.st ≤ a.st * b.st := by
                      have := Int.mul_le_mul_of_nonneg_right (show (n : Int) + 1 ≤ a.st by omega) (show 0 ≤ b.st by omega)
                      rw [Int.add_mul, Int.one_mul] at this
                      exact this
                    have := Int.mul_le_mul_of_nonneg_right (show (n * b.st + k) + 1 ≤ a.st * b.st by omega) (show (0 : Int) ≤ (S : Int) by omega)
                    rw [Int.add_mul, Int.one_mul] at this
                    exact this
                  have e2 : (a.st * b.st) * (S : Int) ≤ 20 * 6 := Int.mul_le_mul HST.out s2 (by omega) (by omega)
                  have := HN.out
                  omega
                have hE := prodE_at (a := a) HN.out (by omega) hi2 (by omega) hi3
                have hp := toD_range HA.out (s := (n : Int)) (x := (s : Int)) (by omega) hi1 (by omega) hi3
                have hq := toD_range HB.out (s := (k : Int)) (x := (s : Int)) (by omega) hi2 (by omega) hi3
                have hnx := prodK_next a b (S : Int) N
                have TA := fun W' h => to_c (.agg #[.int .i64 a.st, .slice Aa a.nx.length ca]) a (S : Int) (n : Int) (s : Int) W' h HA.out (by omega) hi1 (by omega) hi3
                have TB := fun W' h => to_c (.agg #[.int .i64 b.st, .slice Ab b.nx.length cb]) b (S : Int) (k : Int) (s : Int) W' h HB.out (by omega) hi2 (by omega) hi3
                have hX1 := stn.rs.ext.trans (Ext.drew wr)
                have DA : ∀ W', Ext wr.drew W' → Dfas W' (.agg #[.int .i64 a.st, .slice Aa a.nx.length ca]) a := fun W' h => ⟨_, rfl, (HIA.out.ext hX1).ext h⟩
                have DB : ∀ W', Ext wr.drew W' → Dfas W' (.agg #[.int .i64 b.st, .slice Ab b.nx.length cb]) b := fun W' h => ⟨_, rfl, (HIB.out.ext hX1).ext h⟩
                rw [hE] at hnx
                have HNX := Lib.hid hnx
                clear hnx hE
                generalize toD a (n : Int) (s : Int) (S : Int) = u at *
                generalize toD b (k : Int) (s : Int) (S : Int) = v at *
                have hub : 0 ≤ u * b.st ∧ u * b.st ≤ 400 := by
                  have e1 : 0 ≤ u * b.st := Int.mul_nonneg hp.1 (by omega)
                  have e2 : u * b.st ≤ 20 * 20 := Int.mul_le_mul (by omega) b2 (by omega) (by omega)
                  omega
                have hw2 : IntKind.i64.wrap (u * b.st) = u * b.st := IntWalk.i64_in _ (by omega)
                have hw3 : IntKind.i64.wrap (u * b.st + v) = u * b.st + v := IntWalk.i64_in _ (by omega)
                obtain ⟨z, hz⟩ : ∃ z, u * b.st + v = z := ⟨_, rfl⟩
                have hw4 : IntKind.i64.wrap z = z := by rw [← hz]; exact hw3
                have hlen : (prodK a b (S : Int) N).length = N := prodK_len _ _ _ _
                have HZ := Lib.hid hz
                have HL := Lib.hid hlen
                obtain ⟨Ar, cr, hrv, _, _⟩ := stn.rs.own.ints.form
                rw [HL.out] at hrv
                subst hrv
                clear hlen
                generalize prodK a b (S : Int) N = nx at *
                have st1 := stn.ext' (Ext.drew wr)
                have xa0 := st1.ba.cell 0
                have xa1 := st1.ba.cell 1
                have xb0 := st1.bb.cell 0
                have xb1 := st1.bb.cell 1
                have xo1 := st1.rs.out.cell 1
                simp only [List.getElem?_toArray, List.getElem?_cons_zero, List.getElem?_cons_succ] at xa0 xa1 xb0 xb1 xo1
                have hwz : w.heap.size ≤ wr.heap.size := stn.rs.ext.size
                have HP : ∀ W' : World, OwnInts w.heap.size W' (.slice Ar N cr) nx → W'.ownsRow w.heap.size 2 1 (.slice Ar N cr) N (ivs nx) := fun W' h => by
                  unfold OwnInts at h
                  rw [HL.out] at h
                  exact h
                go_wp2_with fail
                refine wp_region_ord 17 [0, 1, 2, 3, 4, 5, 7, 8, 10, 11, 12, 13, 6, 9, 14, 15, 16] (by kernel_rfl) (by kernel_rfl) (fun _ _ _ _ _ h => h) ?_
                simp only [pickO, List.drop_succ_cons, List.drop_zero, List.head?_cons, Option.elim_some]
                repeat (refine wpOrd_read (v := ?_) (by rfl) (Or.inl ⟨by rfl, fun x hx => ?_⟩) ?_; rotate_left; (· have a0 := hx.cell xa0; have a1 := hx.cell xa1; have b0 := hx.cell xb0; have b1 := hx.cell xb1; have o1 := hx.cell xo1; go_simp; try with_reducible rfl); simp only [Act.put, List.setIfInBounds_toArray, List.set_cons_zero, List.set_cons_succ])
                refine wpOrd_stir (by rfl) (fun K hK => ?_)
                go_simp
                go_at_call 34
                refine (TA _ (DA _ (Ext.refl _))).mono ?_
                rintro e w3 ⟨rfl, hx3⟩
                refine hK _ _ hx3 ?_
                clear hK K
                try simp only [Act.put, List.setIfInBounds_toArray, List.set_cons_zero, List.set_cons_succ]
                repeat (refine wpOrd_read (v := ?_) (by rfl) (Or.inl ⟨by rfl, fun x hx => ?_⟩) ?_; rotate_left; (· go_simp; try with_reducible rfl); simp only [Act.put, List.setIfInBounds_toArray, List.set_cons_zero, List.set_cons_succ])
                refine wpOrd_stir (by rfl) (fun K hK => ?_)
                go_simp
                go_at_call 34
                refine (TB _ (DB _ hx3)).mono ?_
                rintro e w4 ⟨rfl, hx4⟩
                refine hK _ _ hx4 ?_
                clear hK K
                try simp only [Act.put, List.setIfInBounds_toArray, List.set_cons_zero, List.set_cons_succ]
                repeat (refine wpOrd_read (v := ?_) (by rfl) (Or.inl ⟨by rfl, fun x hx => ?_⟩) ?_; rotate_left; (· go_simp; try with_reducible rfl); simp only [Act.put, List.setIfInBounds_toArray, List.set_cons_zero, List.set_cons_succ])
                refine wpOrd_stir (by rfl) (fun K hK => ?_)
                go_simp
                refine hK _ _ (Ext.alloc _ _) ?_
                clear hK K
                try simp only [Act.put, List.setIfInBounds_toArray, List.set_cons_zero, List.set_cons_succ]
                refine wpOrd_done ?_
                try simp only [List.drop_succ_cons, List.drop_zero]
                have st5 := stn.ext' ((((Ext.drew wr).trans hx3).trans hx4).trans (Ext.alloc w4 (.cells #[.int .i64 z] 2)))
                have ho5 := HP _ st5.rs.own
                have hz4 : w.heap.size ≤ w4.heap.size := Nat.le_trans (Nat.le_trans hwz hx3.size) hx4.size
                clear st1 xa0 xa1 xb0 xb1 xo1 DA DB TA TB hx3 hx4 hX1 HP
                go_wp2_with (at_builtin; refine wpList_append_own_at _ rfl _ _ 28 rfl w.heap.size 2 i0 (.int .i64 0) 1 8 Tryz.underlying28 hi0 hz0 hz1 hz2 rfl (by decide) _ _ (ivs nx) rfl ho5 ⟨w4.heap.size, 0, none⟩ 1 1 [.int .i64 z] rfl rfl (cell_one_new _ _ _) ?c2 ?c3 ?c4 ?c5 ?_)
                case c2 => intro u hu; simp at hu; subst hu; rfl
                case c3 => unfold maxLen; omega
                case c4 => omega
                case c5 => simp; omega
                intro v' w9 hown9 hg9 _ _
                obtain ⟨A9, c9, rfl, _, _, _⟩ := (ownsRow_row hown9).form
                have B9 := Blk.apart st5.rs.out st5.rs.own (by decide) hg9
                have q3 := B9.cell 1
                have f3 := B9.frozen 1
                simp only [List.getElem?_toArray, List.getElem?_cons_zero, List.getElem?_cons_succ] at q3
                have hnx2 : OwnInts w.heap.size w9 (.slice A9 (N + 1) c9) (nx ++ [z]) := by
                  unfold OwnInts
                  rw [ivs_append, List.length_append, HL.out, hg0]
                  exact hown9
                have st6 := Lib.hid (st5.snoc hgo2 hwg hnx2 hg9)
                clear hnx2 hown9 hg9 ho5
                go_wp2
                go_roundw
                case rel => exact ⟨s + 1, N + 1, _, by omega, by go_num, Lib.hid (by have := HN.out; omega), by rw [HNX.out, HZ.out]; exact st6.out⟩
                case measure => simp [intOf]; omega
              · have hi3 : ¬ (s : Int) < (S : Int) := by omega
                have hsS2 : s = S := by omega
                subst hsS2
                go_wp2
                go_roundw
                case rel => exact ⟨k + 1, N, _, by omega, by go_num, Lib.hid (by have := HN.out; rw [Int.natCast_add, ← Int.add_assoc, Int.add_mul, this]; omega), stn⟩
                case measure => simp [intOf]; omega
          · have hi2 : ¬ (k : Int) < b.st := by have := HU.out; omega
            have hkU2 : k = U := by omega
            subst hkU2
            have HN2 : Hid ((N : Int) = ((n + 1 : Nat) * b.st + 0) * (S : Int) + 0) := Lib.hid (by
              have e0 := HN.out
              have e1 := HU.out
              rw [e0, e1]
              congr 2
              rw [Int.natCast_add, Int.add_mul]
              omega)
            go_wp2
            go_roundw
            case rel => exact ⟨n + 1, N, _, by omega, by go_num, HN2, stn⟩
            case measure => simp [intOf]; omega
      · have hi1 : ¬ (n : Int) < a.st := by have := HT.out; omega
        have hq : n = T := by omega
        have hX9 := stn.rs.ext
        have hown := stn.rs.own
        obtain ⟨Ar, cr, rfl, _, _⟩ := hown.ints.form
        have hpe : prodK a b (S : Int) N = (prodD a b (S : Int)).nx := by
          have e0 := HN.out
          have e1 := HT.out
          have e2 : N = (a.st * b.st * (S : Int)).toNat := by
            simp only [Int.add_zero] at e0
            rw [e1, ← hq]
            omega
          unfold prodK prodD
          rw [e2]
        have hfar := own_far_blk hown stn.rs.res (by decide)
        have hP := (ownsRow_far (ownsRow_far hown hfar (p := ⟨g + 1 + 1, 0, none⟩) (.int .i64 (a.st * b.st))) hfar (p := ⟨g + 1 + 1, 1, none⟩) (.slice Ar (prodK a b (S : Int) N).length cr))
        have hP2 := Lib.hid (OwnInts.ints hP)
        have hXX := Lib.hid ((hX9.setCell (p := ⟨g + 1 + 1, 0, none⟩) (by simp; omega) (.int .i64 (a.st * b.st))).setCell (p := ⟨g + 1 + 1, 1, none⟩) (by simp; omega) (.slice Ar (prodK a b (S : Int) N).length cr))
        have HPE := Lib.hid hpe
        clear hfar hP hpe
        go_wp2
        refine bodyPost_ret (v := .tuple #[.agg #[.int .i64 (a.st * b.st), .slice Ar (prodK a b (S : Int) N).length cr], .int .i64 0]) (by simp [results, Tryz.results13, go_sem, r0, r1]) rfl ⟨hXX.out, .inr ⟨HST.out, _, rfl, _, rfl, ?_⟩⟩
        rw [← HPE.out]
        exact hP2.out
end Go.Proofs.YtkdigfgodjjiaaaGreat
