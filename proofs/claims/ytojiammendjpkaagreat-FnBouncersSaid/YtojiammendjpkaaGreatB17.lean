/- Contracts: where the head of a formula tape is.
Contract: a formula tape without blanks at its ends.
Contract: symbols go over a repeater of a formula tape. -/
import Derived.Test.YtojiammendjpkaaGreatB16
import Derived.Deep.CutBlock
import Derived.Deep.DeepCutAuto
section
set_option linter.unusedSimpArgs false
set_option linter.unusedVariables false
namespace Go.Proofs.YtojiammendjpkaaGreat
open Go Go.RowKit Go.Proofs
set_option maxHeartbeats 400000
theorem under_c {base : Nat} {g : Nat} {f : FoD} {gw gr go cw cr co : Nat} {vw vr : List Value} (w : World) (h : FoAt base w g f gw gr go cw cr co vw vr) (a k : Int) :
    Calls Tryz.prog 188 #[.pointer (some ⟨g, 0, none⟩), .int .i64 a, .int .i64 k] w fun e w' => e = .returned (.bool (decide (f.hd = a) && decide (f.at_ = k))) ∧ w = w' := by
  have h1 := h.blk.cell 1
  have h2 := h.blk.cell 2
  simp only [List.getElem?_toArray, List.getElem?_cons_zero, List.getElem?_cons_succ] at h1 h2
  clear h
  by_cases e1 : f.hd = a
  · by_cases e2 : f.at_ = k
    · have b1 : (f.hd == a) = true := by simp [e1]
      have b2 : (f.at_ == k) = true := by simp [e2]
      have HR : Hid ((decide (f.hd = a) && decide (f.at_ = k)) = true) := Lib.hid (by simp [e1, e2])
      clear e1 e2
      go_enter Tryz.func188, Tryz.ntmps188
      go_wp2
      go_ret
      exact ⟨by rw [HR.out]; simp [b2], rfl⟩
    · have b1 : (f.hd == a) = true := by simp [e1]
      have b2 : (f.at_ == k) = false := by simp [e2]
      have HR : Hid ((decide (f.hd = a) && decide (f.at_ = k)) = false) := Lib.hid (by simp [e1, e2])
      clear e1 e2
      go_enter Tryz.func188, Tryz.ntmps188
      go_wp2
      go_ret
      exact ⟨by rw [HR.out]; simp [b2], rfl⟩
  · have b1 : (f.hd == a) = false := by simp [e1]
    have HR : Hid ((decide (f.hd = a) && decide (f.at_ = k)) = false) := Lib.hid (by simp [e1])
    clear e1
    go_enter Tryz.func188, Tryz.ntmps188
    go_wp2
    go_ret
    exact ⟨by rw [HR.out]; rfl, rfl⟩
theorem sizeLL_c (A : Option Addr) (n c : Nat) (w : World) : Calls Tryz.prog 111 #[.slice A n c] w fun e w' => e = .returned (.int .i64 n) ∧ w = w' := by
  go_enter Tryz.func111, Tryz.ntmps111
  go_wp2
  go_ret
  exact ⟨rfl, rfl⟩
theorem last_c (v wv rv ov : Value) (f : FoD) (w : World) (h : FoV w v f wv rv ov) (hn : f.ws.length ≤ 1000) :
    Calls Tryz.prog 187 #[v] w fun e w' => e = .returned (.int .i64 ((f.ws.length : Int) - 1)) ∧ Ext w w' := by
  obtain ⟨rfl, h1, h2, h3, h4⟩ := h
  obtain ⟨A, c, rfl, _, _⟩ := h1.form
  have hwr : IntKind.i64.wrap ((f.ws.length : Int) - 1) = (f.ws.length : Int) - 1 := IntWalk.i64_in _ (by omega)
  go_enter Tryz.func187, Tryz.ntmps187
  go_wp2_with fail
  refine (sizeLL_c _ _ _ _).mono ?_
  rintro e w1 ⟨rfl, rfl⟩
  go_wp2
  go_ret
  exact ⟨rfl, Ext.alloc _ _⟩
/-- On which repeater the head is, and from which side it has come. -/
def onB (f : FoD) : Int × Int := if f.at_ = -1 then (f.hd - 1, -1) else if f.at_ = ((f.ws.getD f.hd.toNat []).length : Int) then (f.hd, 1) else (0, 0)
theorem getD_get {α : Type} {xs : List α} {d : α} {i : Nat} (h : i < xs.length) : xs.getD i d = xs[i] := by rw [List.getD_eq_getElem?_getD, List.getElem?_eq_getElem h]; rfl
set_option maxRecDepth 20000 in
set_option maxHeartbeats 4000000 in
theorem onRepeater_c {base : Nat} {g : Nat} {f : FoD} {gw gr go cw cr co : Nat} {vw vr : List Value} (w : World) (h : FoAt base w g f gw gr go cw cr co vw vr) (h0 : 0 ≤ f.hd) (h1 : f.hd < f.ws.length) (hn : f.hd ≤ 1000) :
    Calls Tryz.prog 125 #[.pointer (some ⟨g, 0, none⟩)] w fun e w' => e = .returned (.tuple #[.int .i64 (onB f).1, .int .i64 (onB f).2]) ∧ Ext w w' := by
  have c1 := h.blk.cell 1
  have c2 := h.blk.cell 2
  have c3 := h.blk.cell 3
  simp only [List.getElem?_toArray, List.getElem?_cons_zero, List.getElem?_cons_succ] at c1 c2 c3
  obtain ⟨k, hk⟩ := Int.eq_ofNat_of_zero_le h0
  have hk : f.hd = (k : Int) := hk
  obtain ⟨u, cu, iu⟩ := h.wall (i := k) (by omega)
  have eg : (f.ws.getD f.hd.toNat []) = f.ws[k] := by rw [hk, Int.toNat_natCast]; exact getD_get _
  have hkl : k < f.ws.length := by omega
  have HO : Hid (onB f = if f.at_ = -1 then ((k : Int) - 1, -1) else if f.at_ = (f.ws[k].length : Int) then ((k : Int), 1) else (0, 0)) := Lib.hid (by unfold onB; rw [eg, hk])
  obtain ⟨Au, cu2, rfl, _, _⟩ := iu.ints.form
  have iu := iu.ints
  rw [hk] at c1
  generalize f.ws[k] = x at *
  generalize f.at_ = a at *
  have hwk : IntKind.i64.wrap ((k : Int) - 1) = (k : Int) - 1 := IntWalk.i64_in _ (by omega)
  clear h h0 h1 hk eg
  by_cases e1 : a = -1
  · have b1 : (a == -1) = true := by simp [e1]
    have HR : Hid (onB f = ((k : Int) - 1, -1)) := Lib.hid (by rw [HO.out, if_pos e1])
    clear e1
    go_enter Tryz.func125, Tryz.ntmps125
    go_wp2
    refine bodyPost_ret (v := .tuple #[.int .i64 ((k : Int) - 1), .int .i64 (-1)]) (by simp [results, Tryz.results125, go_sem]) rfl ⟨by rw [HR.out], Ext.refl _⟩
  · have b1 : (a == -1) = false := by simp [e1]
    go_enter Tryz.func125, Tryz.ntmps125
    go_wp2_with fail
    have q1 := cellR c1
    have q3 := cellR c3
    have qu := cellR cu
    have SZ := fun d os => sizeInt_c (.slice Au x.length cu2) x (Sort.grow (redrawn w d) os) (iu.ext (below_regrown w d os))
    refine wp_region_ext (by kernel_rfl) (by kernel_rfl) ?_
    repeat (go_big_quiet_step ((go_at_call 112; exact Calls.sameR (SZ _ _))))
    intro wq hwq
    have d1 := hwq.cell c1
    clear q1 q3 qu SZ cu c2 c3 iu
    by_cases e2 : a = (x.length : Int)
    · have b2 : (a == (x.length : Int)) = true := by simp [e2]
      have HR : Hid (onB f = ((k : Int), 1)) := Lib.hid (by rw [HO.out, if_neg e1, if_pos e2])
      clear e1 e2
      go_wp2
      refine bodyPost_ret (v := .tuple #[.int .i64 (k : Int), .int .i64 1]) (by simp [results, Tryz.results125, go_sem]) rfl ⟨by rw [HR.out], hwq⟩
    · have b2 : (a == (x.length : Int)) = false := by simp [e2]
      have HR : Hid (onB f = (0, 0)) := Lib.hid (by rw [HO.out, if_neg e1, if_neg e2])
      clear e1 e2
      go_wp2
      refine bodyPost_ret (v := .tuple #[.int .i64 0, .int .i64 0]) (by simp [results, Tryz.results125, go_sem]) rfl ⟨by rw [HR.out], hwq⟩
theorem touch_on (f : FoD) (i : Int) : touchB f i = (!decide ((onB f).2 = 0) && decide ((onB f).1 = i)) := by
  unfold touchB onB
  by_cases e1 : f.at_ = -1
  · rw [if_pos e1]
    simp [e1]
  · rw [if_neg e1]
    by_cases e2 : f.at_ = ((f.ws.getD f.hd.toNat []).length : Int)
    · rw [if_pos e2, decide_eq_false e1, decide_eq_true e2]
      simp
    · rw [if_neg e2, decide_eq_false e1, decide_eq_false e2]
      simp
set_option maxRecDepth 20000 in
set_option maxHeartbeats 4000000 in
theorem touched_c {base : Nat} {g : Nat} {f : FoD} {gw gr go cw cr co : Nat} {vw vr : List Value} (w : World) (h : FoAt base w g f gw gr go cw cr co vw vr) (h0 : 0 ≤ f.hd) (h1 : f.hd < f.ws.length) (hn : f.hd ≤ 1000) (i : Int) :
    Calls Tryz.prog 166 #[.pointer (some ⟨g, 0, none⟩), .int .i64 i] w fun e w' => e = .returned (.bool (touchB f i)) ∧ Ext w w' := by
  have OR := onRepeater_c w h h0 h1 hn
  have HT := Lib.hid (touch_on f i)
  generalize onB f = p at *
  obtain ⟨a, s⟩ := p
  simp only at OR HT
  clear h
  by_cases e1 : s = 0
  · have b1 : (s != 0) = false := by simp [e1]
    have HR : Hid (touchB f i = false) := Lib.hid (by rw [HT.out]; simp [e1])
    clear e1
    go_enter Tryz.func166, Tryz.ntmps166
    go_wp2_with fail
    refine OR.mono ?_
    rintro e w1 ⟨rfl, hx⟩
    go_wp2
    go_ret
    exact ⟨by rw [HR.out]; rfl, hx⟩
  · have b1 : (s != 0) = true := by simp [e1]
    by_cases e2 : a = i
    · have b2 : (a == i) = true := by simp [e2]
      have HR : Hid (touchB f i = true) := Lib.hid (by rw [HT.out]; simp [e1, e2])
      clear e1 e2
      go_enter Tryz.func166, Tryz.ntmps166
      go_wp2_with fail
      refine OR.mono ?_
      rintro e w1 ⟨rfl, hx⟩
      go_wp2
      go_ret
      exact ⟨by rw [HR.out]; simp [b2], hx⟩
    · have b2 : (a == i) = false := by simp [e2]
      have HR : Hid (touchB f i = false) := Lib.hid (by rw [HT.out]; simp [e2])
      clear e1 e2
      go_enter Tryz.func166, Tryz.ntmps166
      go_wp2_with fail
      refine OR.mono ?_
      rintro e w1 ⟨rfl, hx⟩
      go_wp2
      go_ret
      exact ⟨by rw [HR.out]; simp [b2], hx⟩
end Go.Proofs.YtojiammendjpkaaGreat
end
section
set_option linter.unusedSimpArgs false
set_option linter.unusedVariables false
namespace Go.Proofs.YtojiammendjpkaaGreat
open Go Go.RowKit Go.Proofs
set_option maxHeartbeats 400000
def lenAt2 (w : World) (p : Addr) : Nat := match w.cell? p with
  | some (.slice _ n _) => n
  | _ => 0
theorem lenAt2_of {w : World} {p : Addr} {A : Option Addr} {n c : Nat} (h : w.cell? p = some (.slice A n c)) : lenAt2 w p = n := by
  unfold lenAt2
  rw [h]
theorem IL.nil {w : World} {go c n : Nat} {A : Option Addr} {xs : List Int} (h : IL w go (.slice A n c) xs) (c' : Nat) (hc : c' ≤ c) : IL w go (.slice A 0 c') [] := by
  have ht := h.take (k := 0) (Nat.zero_le _)
  obtain ⟨A', c2, e, h1, h2⟩ := h.ints.form
  injection e with e1 e2 e3
  subst e1 e2 e3
  refine ⟨⟨A, c', rfl, Nat.zero_le _, by omega, rfl, fun h => absurd h (by simp)⟩, ?_, fun b hb => h.blk b (by cases A with | none => simp [Value.ownBlock] at hb | some p => simpa [Value.ownBlock] using hb)⟩
  rcases h.flat with e | ⟨b, off, n, c'', e⟩
  · injection e with e1 e2 e3
    subst e1 e3
    have : c' = 0 := by omega
    subst this
    exact .inl rfl
  · injection e with e1 e2 e3
    exact .inr ⟨b, off, 0, c', by rw [e1]⟩
theorem sizeIN_c (A : Option Addr) (n c : Nat) (w : World) : Calls Tryz.prog 112 #[.slice A n c] w fun e w' => e = .returned (.int .i64 n) ∧ w = w' := by
  go_enter Tryz.func112, Tryz.ntmps112
  go_wp2
  go_ret
  exact ⟨rfl, rfl⟩
theorem stF_len (h0 : Bool) : ∀ (w : List Int) (a : Int), (stF h0 w a).1.length ≤ w.length
  | [], a => Nat.le_refl _
  | z :: w, a => by
    unfold stF
    split
    · have := stF_len h0 w (if h0 then a - 1 else a)
      simp only [List.length_cons]
      omega
    · exact Nat.le_refl _
theorem stF_at (h0 : Bool) : ∀ (w : List Int) (a : Int), a - w.length ≤ (stF h0 w a).2 ∧ (stF h0 w a).2 ≤ a
  | [], a => by simp [stF]
  | z :: w, a => by
    unfold stF
    split
    · have := stF_at h0 w (if h0 then a - 1 else a)
      simp only [List.length_cons]
      cases h0 <;> simp at this ⊢ <;> omega
    · simp only [List.length_cons]
      omega
set_option maxRecDepth 20000 in
set_option maxHeartbeats 4000000 in
theorem stripEnds_c {g : Nat} {f : FoD} {gw gr go cw cr co : Nat} {vw vr : List Value} (w0 w : World) (h : FoAt w0.heap.size w g f gw gr go cw cr co vw vr) (hX : Ext w0 w) (hs : FoSmall f) (h0 : 0 ≤ f.hd) (h1 : f.hd < f.ws.length) (ha : -1000 ≤ f.at_ ∧ f.at_ ≤ 1000) :
    Calls Tryz.prog 163 #[.pointer (some ⟨g, 0, none⟩)] w fun e w' => e = .returned (.tuple #[]) ∧ (∃ vw', FoAt w0.heap.size w' g (stripFo f) gw gr go cw cr co vw' vr) ∧ Ext w0 w' := by
  obtain ⟨q, hd, a0, ws, rs, os⟩ := f
  obtain ⟨⟨n1, n2⟩, n3, n4, n5, n6⟩ := hs
  simp only at h0 h1 ha n1 n2 n3 n4 n5 n6
  obtain ⟨y0, W, rfl⟩ : ∃ y W, ws = y :: W := by
    cases ws with
    | nil => simp at n3
    | cons y W => exact ⟨y, W, rfl⟩
  have HWL : Hid (W.length = rs.length) := Lib.hid (by simpa using n3)
  clear n3
  have HNL := Lib.hid n5
  have HON := Lib.hid n4
  clear n4
  have hy0 : y0.length ≤ 1000 := n5 y0 (by simp)
  go_enter Tryz.func163, Tryz.ntmps163
  go_upto_block 0 with fail
  go_cut [] (fun wx => ∃ vw', FoAt w0.heap.size wx g ⟨q, hd, (stF (decide (hd = 0)) y0 a0).2, (stF (decide (hd = 0)) y0 a0).1 :: W, rs, os⟩ gw gr go cw cr co vw' vr ∧ Ext w0 wx)
  case first =>
    go_wp2
    go_loopw [] (fun wr => ∃ (y : List Int) (a : Int) (vw : List Value), FoAt w0.heap.size wr g ⟨q, hd, a, y :: W, rs, os⟩ gw gr go cw cr co vw vr ∧ Ext w0 wr ∧ y.length ≤ y0.length ∧ (a0 - (y0.length - y.length) ≤ a ∧ a ≤ a0) ∧ Hid (stF (decide (hd = 0)) y a = stF (decide (hd = 0)) y0 a0)) (fun wr => lenAt2 wr ⟨gw, 0, none⟩)
    case atStart => exact ⟨y0, a0, vw, h, hX, Nat.le_refl _, by omega, Lib.hid rfl⟩
    case round =>
      clear h hX
      obtain ⟨y, a, vw1, st, hx, hyl, hab, HST⟩ := hrel
      obtain ⟨u, cu, iu⟩ := st.wall (i := 0) (by simp)
      have iu : IL wr go u y := iu
      have k1 := st.blk.cell 1
      have k2 := st.blk.cell 2
      have k3 := st.blk.cell 3
      simp only [List.getElem?_toArray, List.getElem?_cons_zero, List.getElem?_cons_succ, List.length_cons] at k1 k2 k3
      obtain ⟨Au, c, rfl, hc1, hc2⟩ := iu.ints.form
      have hml := lenAt2_of cu
      cases y with
      | nil =>
        have HE : Hid (FoAt w0.heap.size wr g ⟨q, hd, (stF (decide (hd = 0)) y0 a0).2, (stF (decide (hd = 0)) y0 a0).1 :: W, rs, os⟩ gw gr go cw cr co vw1 vr) := Lib.hid (by rw [← HST.out]; exact st)
        clear st iu hab HST hml
        go_wp2
        go_meet
        exact ⟨_, HE.out, hx⟩
      | cons z y =>
        obtain ⟨b, off, rfl, hcz⟩ := iu.ints.at (k := 0) (by simp)
        have cz := hcz 0 (by simp)
        simp only [List.getElem_cons_zero, Nat.add_zero] at cz
        have US := under_c wr st 0 0
        simp only at US
        by_cases hz : z = 0
        · subst hz
          obtain ⟨ub, hub⟩ : ∃ ub, (decide (hd = 0) && decide (a = 0)) = ub := ⟨_, rfl⟩
          rw [hub] at US
          have HUB := Lib.hid hub
          clear hub
          cases ub with
          | true =>
            have HE : Hid (FoAt w0.heap.size wr g ⟨q, hd, (stF (decide (hd = 0)) y0 a0).2, (stF (decide (hd = 0)) y0 a0).1 :: W, rs, os⟩ gw gr go cw cr co vw1 vr) := Lib.hid (by
              have e : stF (decide (hd = 0)) (0 :: y) a = (0 :: y, a) := by
                unfold stF
                have := HUB.out
                simp only [Bool.and_eq_true] at this
                rw [if_neg (by rw [this.1]; simpa using this.2)]
              rw [← HST.out, e]
              exact st)
            clear st iu hab HST hml hcz
            go_wp2_with fail
            refine US.mono ?_
            rintro e w1 ⟨rfl, rfl⟩
            go_wp2
            go_meet
            exact ⟨_, HE.out, hx⟩
          | false =>
            have e : stF (decide (hd = 0)) (0 :: y) a = stF (decide (hd = 0)) y (if decide (hd = 0) then a - 1 else a) := by
              conv => lhs; unfold stF
              have := HUB.out
              rw [if_pos]
              refine ⟨rfl, fun hc => ?_⟩
              rw [hc.1] at this
              simp at this
              exact this hc.2
            have HST2 : Hid (stF (decide (hd = 0)) y (if decide (hd = 0) then a - 1 else a) = stF (decide (hd = 0)) y0 a0) := Lib.hid (by rw [← e]; exact HST.out)
            clear e HST
            go_wp2_with fail
            refine US.mono ?_
            rintro e w1 ⟨rfl, rfl⟩
            clear US
            go_wp2_with fail
            have q3 : wr.drew.cell? ⟨g, 3, none⟩ = some (.slice (some ⟨gw, 0, none⟩) (W.length + 1) cw) := k3
            have qu : wr.drew.cell? ⟨gw, 0, none⟩ = some (.slice (some ⟨b, off, none⟩) (y.length + 1) c) := cu
            refine wp_region_ordT 12 (readsT [0, 1, 2, 3, 4, 5, 6, 7, 8, 9, 10, 11] .done) (by kernel_rfl) (by kernel_rfl) (fun _ _ _ _ _ h => h) ?_
            simp only [readsT]
            iterate 12 (refine wpOrdT_read (v := ?_) (by rfl) (Or.inl ⟨by rfl, fun x hx => ?_⟩) ?_; rotate_left; (· have y3 := Ext.cell hx q3; have yu := Ext.cell hx qu; go_simp; try first | with_reducible rfl | (rw [if_pos (show (1 : Int) ≤ (y.length : Int) + 1 by omega)]; try with_reducible rfl)); try simp only [Act.put, List.setIfInBounds_toArray, List.set_cons_zero, List.set_cons_succ])
            refine wpOrdT_done ?_
            try simp only [List.drop_succ_cons, List.drop_zero]
            have hID : IL wr go (.slice (if c = 1 then some ⟨b, off, none⟩ else some ⟨b, off + 1, none⟩) y.length (c - 1)) y := by
              simp only [List.length_cons] at hc1
              split
              · have : y = [] := List.length_eq_zero_iff.1 (by omega)
                subst this
                exact iu.nil (c - 1) (by omega)
              · have := iu.drop (k := 1) (by simp)
                simpa using this
            obtain ⟨A', hA'⟩ : ∃ A', (if c = 1 then some (⟨b, off, none⟩ : Addr) else some ⟨b, off + 1, none⟩) = A' := ⟨_, rfl⟩
            rw [hA'] at hID
            try rw [hA']
            obtain ⟨vw2, st2⟩ := st.setW (i := 0) (by simp) hID
            have hgb : w0.heap.size ≤ gw := (own_blk st.ow).2
            have hx2 : Ext w0 (wr.setCell ⟨gw, 0, none⟩ (.slice A' y.length (c - 1))).drew := (hx.setCell (p := ⟨gw, 0, none⟩) hgb _).trans (Ext.drew _)
            have st3 := st2.ext (Ext.drew _)
            obtain ⟨⟨cs, hbw⟩, _⟩ := own_blk st.ow
            have hbw := hbw.ext (Ext.drew wr)
            have of_ := hbw.frozen
            have hyl2 : y.length + 1 ≤ y0.length := by simpa using hyl
            simp only [List.length_cons] at hab hml
            clear st iu hcz st2 hID hA' q3 cz hbw hyl k1 k2 k3 hc1
            go_upto_region 2 with fail
            generalize (wr.setCell ⟨gw, 0, none⟩ (.slice A' y.length (c - 1))).drew = W2 at *
            have st3 : FoAt w0.heap.size W2 g ⟨q, hd, a, y :: W, rs, os⟩ gw gr go cw cr co vw2 vr := st3
            clear of_ qu
            have k1 := st3.blk.cell 1
            have k2 := st3.blk.cell 2
            simp only [List.getElem?_toArray, List.getElem?_cons_zero, List.getElem?_cons_succ] at k1 k2
            obtain ⟨u2, cu2, iu2⟩ := st3.wall (i := 0) (by simp)
            obtain ⟨Au2, c2, rfl, _, _⟩ := iu2.ints.form
            by_cases hh : hd = 0
            · have hhb : (hd == 0) = true := by simp [hh]
              have st4 := st3.setA (a - 1)
              have hx4 := hx2.setCell (p := ⟨g, 2, none⟩) st3.bg (.int .i64 (a - 1))
              have ob := st3.blk.cell
              have of_ := st3.blk.frozen
              have hwa : IntKind.i64.wrap (a - 1) = a - 1 := IntWalk.i64_in _ (by omega)
              have HM : Hid (lenAt2 (W2.setCell ⟨g, 2, none⟩ (.int .i64 (a - 1))) ⟨gw, 0, none⟩ = y.length) := Lib.hid (by
                obtain ⟨u3, cu3, iu3⟩ := st4.wall (i := 0) (by simp)
                obtain ⟨Au3, c3, rfl, _, _⟩ := iu3.ints.form
                exact lenAt2_of cu3)
              have HS3 : Hid (stF (decide (hd = 0)) y (a - 1) = stF (decide (hd = 0)) y0 a0) := Lib.hid (by have := HST2.out; rwa [if_pos (by simpa using hh)] at this)
              have H4 := Lib.hid st4
              have HML := Lib.hid hml
              clear st3 st4 hh iu2 cu2 hml
              go_wp2
              go_roundw
              case rel => exact ⟨y, a - 1, _, H4.out, hx4, by omega, by omega, HS3.out⟩
              case measure => rw [HM.out, HML.out]; omega
            · have hhb : (hd == 0) = false := by simp [hh]
              have HS3 : Hid (stF (decide (hd = 0)) y a = stF (decide (hd = 0)) y0 a0) := Lib.hid (by have := HST2.out; rwa [if_neg (by simpa using hh)] at this)
              have HM : Hid (lenAt2 W2 ⟨gw, 0, none⟩ = y.length) := Lib.hid (lenAt2_of cu2)
              have H3 := Lib.hid st3
              have HML := Lib.hid hml
              clear st3 hh iu2 cu2 hml
              go_wp2
              go_roundw
              case rel => exact ⟨y, a, _, H3.out, hx2, by omega, by omega, HS3.out⟩
              case measure => rw [HM.out, HML.out]; omega
        · have HE : Hid (FoAt w0.heap.size wr g ⟨q, hd, (stF (decide (hd = 0)) y0 a0).2, (stF (decide (hd = 0)) y0 a0).1 :: W, rs, os⟩ gw gr go cw cr co vw1 vr) := Lib.hid (by
            have e : stF (decide (hd = 0)) (z :: y) a = (z :: y, a) := by
              unfold stF
              rw [if_neg (fun h => hz h.1)]
            rw [← HST.out, e]
            exact st)
          have hzb : (z == 0) = false := by simp [hz]
          clear st iu hab HST hml hcz hz
          go_wp2
          go_meet
          exact ⟨_, HE.out, hx⟩
  case rest =>
    clear h hX
    rename World => wx
    obtain ⟨vw1, st, hx⟩ := hcut
    obtain ⟨p, hp⟩ : ∃ p, stF (decide (hd = 0)) y0 a0 = p := ⟨_, rfl⟩
    rw [hp] at st
    obtain ⟨y1, a1⟩ := p
    simp only at st
    have HP := Lib.hid hp
    obtain ⟨A, x0, W', hA, lA⟩ := split_mid (xs := y1 :: W) (i := W.length) (by simp)
    have hW' : W' = [] := by
      have := congrArg List.length hA
      simp at this
      exact List.length_eq_zero_iff.1 (by omega)
    subst hW'
    rw [hA] at st
    have HA := Lib.hid hA
    have HLA := Lib.hid lA
    have hLn : A.length ≤ 3 := by have := HWL.out; omega
    have hx0 : x0.length ≤ 1000 := by
      have hm : x0 ∈ y1 :: W := by rw [hA]; simp
      rcases List.mem_cons.1 hm with e | e
      · rw [e]
        have := stF_len (decide (hd = 0)) y0 a0
        rw [hp] at this
        simp only at this
        omega
      · exact HNL.out _ (List.mem_cons_of_mem _ e)
    have ha1 : a0 - 1000 ≤ a1 ∧ a1 ≤ a0 := by
      have := stF_at (decide (hd = 0)) y0 a0
      rw [hp] at this
      simp only at this
      omega
    have LC := last_c _ _ _ _ _ wx st.val (by simp; omega)
    simp only [List.length_append, List.length_singleton] at LC
    have b0 := st.blk.cell 0
    have b1 := st.blk.cell 1
    have b2 := st.blk.cell 2
    have b3 := st.blk.cell 3
    have b4 := st.blk.cell 4
    have b5 := st.blk.cell 5
    simp only [List.getElem?_toArray, List.getElem?_cons_zero, List.getElem?_cons_succ, List.length_append, List.length_singleton] at b0 b1 b2 b3 b4 b5
    have eL : ((A.length + 1 : Nat) : Int) - 1 = (A.length : Int) := by omega
    rw [eL] at LC
    clear hp hA lA eL
    go_wp2_with fail
    refine LC.mono ?_
    rintro e w1 ⟨rfl, hx1⟩
    have st1 := st.ext hx1
    have hxx := hx.trans hx1
    clear st hx hx1 b0 b1 b2 b3 b4 b5 LC
    go_wp2_with fail
    go_loopw [] (fun wr => ∃ (n : Nat) (vw : List Value), n ≤ x0.length ∧ FoAt w0.heap.size wr g ⟨q, hd, a1, A ++ [x0.take n], rs, os⟩ gw gr go cw cr co vw vr ∧ Ext w0 wr ∧ Hid (stE (decide (hd = (A.length : Int))) a1 x0 n = stE (decide (hd = (A.length : Int))) a1 x0 x0.length)) (fun wr => lenAt2 wr ⟨gw, A.length, none⟩)
    case atStart => exact ⟨x0.length, _, Nat.le_refl _, by rw [List.take_length]; exact st1, hxx, Lib.hid rfl⟩
    case round =>
      clear st1 hxx
      obtain ⟨n, vw2, hn, st, hx, HST⟩ := hrel
      obtain ⟨P, hP⟩ : ∃ P, x0.take n = P := ⟨_, rfl⟩
      rw [hP] at st
      have hPL : P.length = n := by rw [← hP, List.length_take]; omega
      obtain ⟨u, cu, iu⟩ := st.wall (i := A.length) (by simp)
      have iu : IL wr go u P := by simpa using iu
      have k3 := st.blk.cell 3
      simp only [List.getElem?_toArray, List.getElem?_cons_zero, List.getElem?_cons_succ, List.length_append, List.length_singleton] at k3
      have US := under_c wr st (A.length : Int) ((n : Int) - 1)
      simp only at US
      obtain ⟨Au, c, rfl, hc1, hc2⟩ := iu.ints.form
      have HML : Hid (lenAt2 wr ⟨gw, A.length, none⟩ = n) := Lib.hid (by rw [← hPL]; exact lenAt2_of cu)
      have HFIN : Hid (stE (decide (hd = (A.length : Int))) a1 x0 n = P → ∃ vw', FoAt w0.heap.size wr g (stripFo ⟨q, hd, a0, y0 :: W, rs, os⟩) gw gr go cw cr co vw' vr) := Lib.hid (fun e => by
        refine ⟨vw2, ?_⟩
        have e2 : stripFo ⟨q, hd, a0, y0 :: W, rs, os⟩ = ⟨q, hd, a1, A ++ [P], rs, os⟩ := by
          unfold stripFo
          simp only [List.getD_cons_zero, List.set_cons_zero]
          rw [HP.out]
          simp only
          rw [HA.out, show (A ++ [x0]).length - 1 = A.length by simp, getD_mid A x0 [] [], set_mid A x0, ← HST.out, e]
        rw [e2]
        exact st)
      rw [hPL] at cu iu
      cases n with
      | zero =>
        have HF : Hid (∃ vw', FoAt w0.heap.size wr g (stripFo ⟨q, hd, a0, y0 :: W, rs, os⟩) gw gr go cw cr co vw' vr) := Lib.hid (HFIN.out (by rw [← hP]; rfl))
        clear st iu HFIN HST US hPL hP hc1
        go_wp2_with fail
        refine (sizeIN_c _ _ _ _).mono ?_
        rintro e w2 ⟨rfl, rfl⟩
        go_wp2
        exact bodyPost_ret (results_none rfl _ _ _) rfl ⟨rfl, HF.out, hx⟩
      | succ k =>
        have hkP : k < P.length := by omega
        have ii := iu.ints
        rw [← hPL] at ii
        obtain ⟨b, off, rfl, hcz⟩ := ii.at hkP
        clear ii
        have cz := hcz k (by omega)
        obtain ⟨z, hz⟩ : ∃ z, P[k]'(by omega) = z := ⟨_, rfl⟩
        rw [hz] at cz
        have hz0 : x0.getD k 0 = z := by
          have hk0 : k < x0.length := by omega
          rw [← hz, getD_get hk0]
          simp only [← hP, List.getElem_take]
        have hsub : ((k + 1 : Nat) : Int) - 1 = (k : Int) := by omega
        rw [hsub] at US
        have hn0 : ((k : Int) + 1 == 0) = false := beq_eq_false_iff_ne.2 (by omega)
        have hwk : IntKind.i64.wrap ((k : Int) + 1 - 1) = (k : Int) := by rw [show (k : Int) + 1 - 1 = (k : Int) by omega]; exact IntWalk.i64_in _ (by omega)
        have hwk0 : IntKind.i64.wrap (k : Int) = (k : Int) := IntWalk.i64_in _ (by omega)
        by_cases hzz : z = 0
        · subst hzz
          obtain ⟨ub, hub⟩ : ∃ ub, (decide (hd = (A.length : Int)) && decide (a1 = (k : Int))) = ub := ⟨_, rfl⟩
          rw [hub] at US
          have HUB := Lib.hid hub
          clear hub
          cases ub with
          | true =>
            have HF : Hid (∃ vw', FoAt w0.heap.size wr g (stripFo ⟨q, hd, a0, y0 :: W, rs, os⟩) gw gr go cw cr co vw' vr) := Lib.hid (HFIN.out (by
              unfold stE
              rw [if_neg, hP]
              have := HUB.out
              simp only [Bool.and_eq_true] at this
              rw [this.1]
              intro hc
              exact hc.2 ⟨rfl, by simpa using this.2⟩))
            clear st iu HFIN HST hPL hP hc1 hcz hz hz0 hsub
            go_wp2_with fail
            refine (sizeIN_c _ _ _ _).mono ?_
            rintro e w2 ⟨rfl, rfl⟩
            go_wp2_with fail
            refine US.mono ?_
            rintro e w2 ⟨rfl, rfl⟩
            go_wp2
            exact bodyPost_ret (results_none rfl _ _ _) rfl ⟨rfl, HF.out, hx⟩
          | false =>
            have HST2 : Hid (stE (decide (hd = (A.length : Int))) a1 x0 k = stE (decide (hd = (A.length : Int))) a1 x0 x0.length) := Lib.hid (by
              rw [← HST.out]
              conv => rhs; unfold stE
              rw [if_pos]
              refine ⟨hz0, fun hc => ?_⟩
              have := HUB.out
              rw [hc.1] at this
              simp at this
              exact this hc.2)
            have hID : IL wr go (.slice (some ⟨b, off, none⟩) k c) (x0.take k) := by
              have := iu.take (k := k) (by omega)
              rw [← hP, List.take_take, Nat.min_eq_left (by omega)] at this
              exact this
            obtain ⟨vw3, st2⟩ := st.setW (i := A.length) (by simp) hID
            have hgb : w0.heap.size ≤ gw := (own_blk st.ow).2
            have hx2 : Ext w0 (wr.setCell ⟨gw, A.length, none⟩ (.slice (some ⟨b, off, none⟩) k c)).drew := (hx.setCell (p := ⟨gw, A.length, none⟩) hgb _).trans (Ext.drew _)
            have st3 := st2.ext (Ext.drew _)
            simp only [set_mid] at st3
            have HM : Hid (lenAt2 (wr.setCell ⟨gw, A.length, none⟩ (.slice (some ⟨b, off, none⟩) k c)).drew ⟨gw, A.length, none⟩ = k) := Lib.hid (by
              obtain ⟨⟨cs, hbw⟩, _⟩ := own_blk st.ow
              have hb2 := hbw.set_ A.length (.slice (some ⟨b, off, none⟩) k c)
              have hl : A.length < cs.size := by
                have := (hbw.cell A.length).symm.trans cu
                exact (Array.getElem?_eq_some_iff.1 this).1
              refine lenAt2_of (A := some ⟨b, off, none⟩) (c := c) ?_
              have := hb2.cell A.length
              refine this.trans ?_
              rw [Array.getElem?_setIfInBounds_self]
              simp [hl])
            obtain ⟨⟨cs, hbw⟩, _⟩ := own_blk st.ow
            have hbw := hbw.ext (Ext.drew wr)
            have of_ := hbw.frozen
            have H3 := Lib.hid st3
            have hkl : k ≤ x0.length := by omega
            have hcc : k ≤ c := by omega
            clear st iu HFIN HST hPL hP hcz hz hz0 hsub st2 st3 hID hbw
            go_wp2_with fail
            refine (sizeIN_c _ _ _ _).mono ?_
            rintro e w2 ⟨rfl, rfl⟩
            go_wp2_with fail
            refine US.mono ?_
            rintro e w2 ⟨rfl, rfl⟩
            clear US
            go_wp2_with fail
            have q3 : wr.drew.cell? ⟨g, 3, none⟩ = some (.slice (some ⟨gw, 0, none⟩) (A.length + 1) cw) := k3
            have qu : wr.drew.cell? ⟨gw, A.length, none⟩ = some (.slice (some ⟨b, off, none⟩) (k + 1) c) := cu
            refine wp_region_ordT 16 (readsT [0, 1, 2, 3, 4, 5, 6, 7, 8, 9, 10, 11, 12, 13, 14, 15] .done) (by kernel_rfl) (by kernel_rfl) (fun _ _ _ _ _ h => h) ?_
            simp only [readsT]
            iterate 16 (refine wpOrdT_read (v := ?_) (by rfl) (Or.inl ⟨by rfl, fun x hx => ?_⟩) ?_; rotate_left; (· have y3 := Ext.cell hx q3; have yu := Ext.cell hx qu; go_simp; try first | with_reducible rfl | (rw [if_pos (by omega)]; try with_reducible rfl) | (rw [hwk0, Int.toNat_natCast, if_pos (by omega)]; try with_reducible rfl)); try simp only [Act.put, List.setIfInBounds_toArray, List.set_cons_zero, List.set_cons_succ])
            refine wpOrdT_done ?_
            try simp only [List.drop_succ_cons, List.drop_zero]
            go_wp2_with fail
            go_roundw
            case rel => exact ⟨k, _, hkl, H3.out, hx2, HST2.out⟩
            case measure => rw [HM.out, HML.out]; omega
        · have hzb : (z != 0) = true := by simp [hzz]
          have HF : Hid (∃ vw', FoAt w0.heap.size wr g (stripFo ⟨q, hd, a0, y0 :: W, rs, os⟩) gw gr go cw cr co vw' vr) := Lib.hid (HFIN.out (by
            unfold stE
            rw [if_neg (fun h => hzz (hz0.symm.trans h.1)), hP]))
          clear st iu HFIN HST US hPL hP hc1 hcz hz hz0 hsub hzz
          go_wp2_with fail
          refine (sizeIN_c _ _ _ _).mono ?_
          rintro e w2 ⟨rfl, rfl⟩
          go_wp2
          exact bodyPost_ret (results_none rfl _ _ _) rfl ⟨rfl, HF.out, hx⟩
end Go.Proofs.YtojiammendjpkaaGreat
end
section
set_option linter.unusedSimpArgs false
set_option linter.unusedVariables false
namespace Go.Proofs.YtojiammendjpkaaGreat
open Go Go.RowKit Go.Proofs
set_option maxHeartbeats 400000
/-- The lists at a repeater. -/
def foMid (q hd a : Int) (A : List (List Int)) (u x : List Int) (C B : List (List Int)) (v : List Int) (D : List (List Int)) (os : List Int) : FoD := ⟨q, hd, a, A ++ u :: x :: C, B ++ v :: D, os⟩
theorem FoAt.u {base : Nat} {w : World} {g : Nat} {q hd a : Int} {A : List (List Int)} {u x : List Int} {C B : List (List Int)} {v : List Int} {D : List (List Int)} {os : List Int} {gw gr go cw cr co : Nat} {vw vr : List Value} (h : FoAt base w g (foMid q hd a A u x C B v D os) gw gr go cw cr co vw vr) : ∃ z, w.cell? ⟨gw, A.length, none⟩ = some z ∧ IL w go z u := by
  obtain ⟨z, c, i⟩ := h.wall (i := A.length) (by simp [foMid])
  refine ⟨z, c, ?_⟩
  simpa [foMid] using i
theorem FoAt.x {base : Nat} {w : World} {g : Nat} {q hd a : Int} {A : List (List Int)} {u x : List Int} {C B : List (List Int)} {v : List Int} {D : List (List Int)} {os : List Int} {gw gr go cw cr co : Nat} {vw vr : List Value} (h : FoAt base w g (foMid q hd a A u x C B v D os) gw gr go cw cr co vw vr) : ∃ z, w.cell? ⟨gw, A.length + 1, none⟩ = some z ∧ IL w go z x := by
  obtain ⟨z, c, i⟩ := h.wall (i := A.length + 1) (by simp [foMid])
  refine ⟨z, c, ?_⟩
  simpa [foMid, List.getElem_append_right] using i
theorem FoAt.v {base : Nat} {w : World} {g : Nat} {q hd a : Int} {A : List (List Int)} {u x : List Int} {C B : List (List Int)} {v : List Int} {D : List (List Int)} {os : List Int} {gw gr go cw cr co : Nat} {vw vr : List Value} (h : FoAt base w g (foMid q hd a A u x C B v D os) gw gr go cw cr co vw vr) : ∃ z, w.cell? ⟨gr, B.length, none⟩ = some z ∧ IL w go z v := by
  obtain ⟨z, c, i⟩ := h.rep (i := B.length) (by simp [foMid])
  refine ⟨z, c, ?_⟩
  simpa [foMid] using i
theorem FoAt.putU {base : Nat} {w : World} {g : Nat} {q hd a : Int} {A : List (List Int)} {u x u' : List Int} {C B : List (List Int)} {v : List Int} {D : List (List Int)} {os : List Int} {gw gr go cw cr co : Nat} {vw vr : List Value} (h : FoAt base w g (foMid q hd a A u x C B v D os) gw gr go cw cr co vw vr) {z : Value} (hz : IL w go z u') : ∃ vw', FoAt base (w.setCell ⟨gw, A.length, none⟩ z) g (foMid q hd a A u' x C B v D os) gw gr go cw cr co vw' vr := by
  obtain ⟨vw', h'⟩ := h.setW (i := A.length) (by simp [foMid]) hz
  refine ⟨vw', ?_⟩
  simp only [foMid, set_mid] at h'
  exact h'
theorem FoAt.putX {base : Nat} {w : World} {g : Nat} {q hd a : Int} {A : List (List Int)} {u x x' : List Int} {C B : List (List Int)} {v : List Int} {D : List (List Int)} {os : List Int} {gw gr go cw cr co : Nat} {vw vr : List Value} (h : FoAt base w g (foMid q hd a A u x C B v D os) gw gr go cw cr co vw vr) {z : Value} (hz : IL w go z x') : ∃ vw', FoAt base (w.setCell ⟨gw, A.length + 1, none⟩ z) g (foMid q hd a A u x' C B v D os) gw gr go cw cr co vw' vr := by
  obtain ⟨vw', h'⟩ := h.setW (i := A.length + 1) (by simp [foMid]) hz
  refine ⟨vw', ?_⟩
  simp only [foMid, set_mid1] at h'
  exact h'
theorem FoAt.putV {base : Nat} {w : World} {g : Nat} {q hd a : Int} {A : List (List Int)} {u x v' : List Int} {C B : List (List Int)} {v : List Int} {D : List (List Int)} {os : List Int} {gw gr go cw cr co : Nat} {vw vr : List Value} (h : FoAt base w g (foMid q hd a A u x C B v D os) gw gr go cw cr co vw vr) {z : Value} (hz : IL w go z v') : ∃ vr', FoAt base (w.setCell ⟨gr, B.length, none⟩ z) g (foMid q hd a A u x C B v' D os) gw gr go cw cr co vw vr' := by
  obtain ⟨vr', h'⟩ := h.setR (i := B.length) (by simp [foMid]) hz
  refine ⟨vr', ?_⟩
  simp only [foMid, set_mid] at h'
  exact h'
theorem FoAt.putA {base : Nat} {w : World} {g : Nat} {q hd a : Int} {A : List (List Int)} {u x : List Int} {C B : List (List Int)} {v : List Int} {D : List (List Int)} {os : List Int} {gw gr go cw cr co : Nat} {vw vr : List Value} (h : FoAt base w g (foMid q hd a A u x C B v D os) gw gr go cw cr co vw vr) (a' : Int) : FoAt base (w.setCell ⟨g, 2, none⟩ (.int .i64 a')) g (foMid q hd a' A u x C B v D os) gw gr go cw cr co vw vr := h.setA a'
/-- The cells of the pointer. -/
theorem FoAt.cells {base : Nat} {w : World} {g : Nat} {q hd a : Int} {A : List (List Int)} {u x : List Int} {C B : List (List Int)} {v : List Int} {D : List (List Int)} {os : List Int} {gw gr go cw cr co : Nat} {vw vr : List Value} (h : FoAt base w g (foMid q hd a A u x C B v D os) gw gr go cw cr co vw vr) :
    w.cell? ⟨g, 1, none⟩ = some (.int .i64 hd) ∧ w.cell? ⟨g, 2, none⟩ = some (.int .i64 a) ∧ w.cell? ⟨g, 3, none⟩ = some (.slice (some ⟨gw, 0, none⟩) (A.length + (C.length + 2)) cw) ∧ w.cell? ⟨g, 4, none⟩ = some (.slice (some ⟨gr, 0, none⟩) (B.length + (D.length + 1)) cr) := by
  have b1 := h.blk.cell 1
  have b2 := h.blk.cell 2
  have b3 := h.blk.cell 3
  have b4 := h.blk.cell 4
  simp only [foMid, List.getElem?_toArray, List.getElem?_cons_zero, List.getElem?_cons_succ, List.length_append, List.length_cons] at b1 b2 b3 b4
  exact ⟨b1, b2, b3, b4⟩
theorem IL.one {w : World} {go base gx : Nat} {z : Int} (hb : Blk w gx 2 #[.int .i64 z]) (hg : gx ≠ go) : IL w go (.slice (some ⟨gx, 0, none⟩) 1 1) [z] :=
  ⟨⟨some ⟨gx, 0, none⟩, 1, rfl, Nat.le_refl _, by omega, rfl, fun _ => ⟨gx, 0, rfl, fun j hj => by
    have : j = 0 := by simpa [ivs] using hj
    subst this
    exact hb.cell 0⟩⟩, .inr ⟨gx, 0, 1, 1, rfl⟩, fun b hb' => by
    have e : gx = b := by simpa [Value.ownBlock] using hb'
    subst e
    exact ⟨hg, _, hb⟩⟩
theorem IL.cellAt {w : World} {go : Nat} {z : Value} {xs : List Int} (h : IL w go z xs) {k : Nat} (hk : k < xs.length) : ∃ b off c, z = .slice (some ⟨b, off, none⟩) xs.length c ∧ xs.length ≤ c ∧ c ≤ 9223372036854775807 ∧ w.cell? ⟨b, off + k, none⟩ = some (.int .i64 (xs.getD k 0)) := by
  obtain ⟨A, c, rfl, h1, h2⟩ := h.ints.form
  obtain ⟨b, off, rfl, hc⟩ := h.ints.at hk
  exact ⟨b, off, c, rfl, h1, h2, by rw [hc k hk, getD_get hk]⟩
/-- Nothing older than w0 has changed, and of the blocks of w only those of the formula tape. -/
structure XF (g gw gr go : Nat) (w0 w W : World) : Prop where
  ext : Ext w0 W
  keep : ∀ (b : Nat) (t : TypeId) (cs : Array Value), Blk w b t cs → b ≠ g → b ≠ gw → b ≠ gr → b ≠ go → Blk W b t cs
theorem XF.start {g gw gr go : Nat} {w0 w : World} (h : Ext w0 w) : XF g gw gr go w0 w w := ⟨h, fun _ _ _ h _ _ _ _ => h⟩
theorem XF.trans {g gw gr go : Nat} {w0 w W W' : World} (h : XF g gw gr go w0 w W) (e : Ext W W') : XF g gw gr go w0 w W' := ⟨h.ext.trans e, fun b t cs hb h1 h2 h3 h4 => (h.keep b t cs hb h1 h2 h3 h4).ext e⟩
theorem XF.setCell {g gw gr go : Nat} {w0 w W : World} (h : XF g gw gr go w0 w W) {p : Addr} (hp : w0.heap.size ≤ p.block) (v : Value) (hm : p.block = g ∨ p.block = gw ∨ p.block = gr ∨ p.block = go := by simp) : XF g gw gr go w0 w (W.setCell p v) :=
  ⟨h.ext.setCell hp v, fun b t cs hb h1 h2 h3 h4 => (h.keep b t cs hb h1 h2 h3 h4).far (p := p) (by rcases hm with e | e | e | e <;> rw [e] <;> assumption) v⟩
set_option maxRecDepth 20000 in
set_option maxHeartbeats 8000000 in
theorem rotate_c {g : Nat} {q hd a0 : Int} {A : List (List Int)} {u0 x0 : List Int} {C B : List (List Int)} {v0 : List Int} {D : List (List Int)} {os : List Int} {gw gr go cw cr co : Nat} {vw vr : List Value} (w0 w : World) (h : FoAt w0.heap.size w g (foMid q hd a0 A u0 x0 C B v0 D os) gw gr go cw cr co vw vr) (hX : Ext w0 w)
    (hAB : A.length = B.length) (hA3 : A.length ≤ 3) (hC3 : C.length ≤ 3) (hD3 : D.length ≤ 3) (hu : u0.length ≤ 1000) (hx : x0.length ≤ 5000) (hv1 : 1 ≤ v0.length) (hv : v0.length ≤ 1000) (ha : -2000 ≤ a0 ∧ a0 ≤ 2000) :
    Calls Tryz.prog 164 #[.pointer (some ⟨g, 0, none⟩), .int .i64 (A.length : Int)] w fun e w' => e = .returned (.tuple #[]) ∧ (∃ vw' vr', FoAt w0.heap.size w' g (foMid q hd (rotR (decide (hd = (A.length : Int))) (decide (hd = (A.length : Int) + 1)) u0.length u0 v0 x0 a0).a A (rotR (decide (hd = (A.length : Int))) (decide (hd = (A.length : Int) + 1)) u0.length u0 v0 x0 a0).u (rotR (decide (hd = (A.length : Int))) (decide (hd = (A.length : Int) + 1)) u0.length u0 v0 x0 a0).x C B (rotR (decide (hd = (A.length : Int))) (decide (hd = (A.length : Int) + 1)) u0.length u0 v0 x0 a0).v D os) gw gr go cw cr co vw' vr') ∧ XF g gw gr go w0 w w' := by
  obtain ⟨R, hR⟩ : ∃ R, rotR (decide (hd = (A.length : Int))) (decide (hd = (A.length : Int) + 1)) u0.length u0 v0 x0 a0 = R := ⟨_, rfl⟩
  rw [hR]
  obtain ⟨h0, hh0⟩ : ∃ h0, decide (hd = (A.length : Int)) = h0 := ⟨_, rfl⟩
  obtain ⟨h1, hh1⟩ : ∃ h1, decide (hd = (A.length : Int) + 1) = h1 := ⟨_, rfl⟩
  rw [hh0, hh1] at hR
  have HH0 := Lib.hid hh0
  have HH1 := Lib.hid hh1
  have HAB := Lib.hid hAB
  clear hh0 hh1 hAB
  obtain ⟨i, hi⟩ : ∃ i, A.length = i := ⟨_, rfl⟩
  have HI := Lib.hid hi
  have hi3 : i ≤ 3 := by omega
  rw [hi]
  clear hi hA3
  go_enter Tryz.func164, Tryz.ntmps164
  go_wp2_with fail
  go_loopw [] (fun wr => ∃ (u v x : List Int) (a : Int) (vw vr : List Value), FoAt w0.heap.size wr g (foMid q hd a A u x C B v D os) gw gr go cw cr co vw vr ∧ XF g gw gr go w0 w wr ∧ Hid (u.length + x.length = u0.length + x0.length ∧ v.length = v0.length ∧ u.length ≤ u0.length) ∧ (-2000 ≤ a ∧ a + u.length ≤ 2000 + u0.length) ∧ Hid (rotR h0 h1 u.length u v x a = R)) (fun wr => lenAt2 wr ⟨gw, i, none⟩)
  case atStart => exact ⟨u0, v0, x0, a0, _, _, h, XF.start hX, Lib.hid ⟨rfl, rfl, Nat.le_refl _⟩, by omega, Lib.hid hR⟩
  case round =>
    clear h hX
    obtain ⟨u, v, x, a, vw1, vr1, st, hxx, HLN, hab, HROT⟩ := hrel
    obtain ⟨uu, cu, iu⟩ := st.u
    obtain ⟨xv, cx, ix⟩ := st.x
    obtain ⟨vv, cv, iv⟩ := st.v
    obtain ⟨k1, k2, k3, k4⟩ := st.cells
    rw [HI.out] at cu cx k3
    rw [← HAB.out, HI.out] at cv k4
    have hul : u.length ≤ 1000 := by have := HLN.out; omega
    have hxl : x.length ≤ 6000 := by have := HLN.out; omega
    have HFIN : Hid (R = ⟨u, v, x, a⟩ → ∃ vw' vr', FoAt w0.heap.size wr g (foMid q hd R.a A R.u R.x C B R.v D os) gw gr go cw cr co vw' vr') := Lib.hid (fun e => ⟨_, _, by rw [e]; exact st⟩)
    obtain ⟨l, hl⟩ : ∃ l, v.length = l + 1 := ⟨v.length - 1, by have := HLN.out; omega⟩
    obtain ⟨y, hy⟩ : ∃ y, v.getD l 0 = y := ⟨_, rfl⟩
    have hll : l ≤ 1000 := by have := HLN.out; omega
    obtain ⟨bv, ov, cV, rfl, hcV1, hcV2, hcv⟩ := iv.cellAt (k := l) (by omega)
    rw [hy] at hcv
    have HL := Lib.hid hl
    rw [hl] at cv iv hcV1
    -- region 0
    have q3 : wr.drew.cell? ⟨g, 3, none⟩ = some (.slice (some ⟨gw, 0, none⟩) (i + (C.length + 2)) cw) := k3
    have q4 : wr.drew.cell? ⟨g, 4, none⟩ = some (.slice (some ⟨gr, 0, none⟩) (i + (D.length + 1)) cr) := k4
    have qu : wr.drew.cell? ⟨gw, i, none⟩ = some uu := cu
    have qv : wr.drew.cell? ⟨gr, i, none⟩ = some (.slice (some ⟨bv, ov, none⟩) (l + 1) cV) := cv
    obtain ⟨Au, cU, rfl, hcU1, hcU2⟩ := iu.ints.form
    go_wp2_with fail
    refine wp_region_ordT 15 (readsT [0, 1, 2, 3, 4, 5, 6, 7, 8, 9, 10, 11, 12, 13, 14] .done) (by kernel_rfl) (by kernel_rfl) (fun _ _ _ _ _ h => h) ?_
    simp only [readsT]
    iterate 15 (refine wpOrdT_read (v := ?_) (by rfl) (Or.inl ⟨by rfl, fun x hx => ?_⟩) ?_; rotate_left; (· have y3 := Ext.cell hx q3; have y4 := Ext.cell hx q4; have yu := Ext.cell hx qu; have yv := Ext.cell hx qv; go_simp; try first | with_reducible rfl | (rw [if_pos (by omega)]; try with_reducible rfl)); try simp only [Act.put, List.setIfInBounds_toArray, List.set_cons_zero, List.set_cons_succ])
    refine wpOrdT_done ?_
    try simp only [List.drop_succ_cons, List.drop_zero]
    have stD := st.ext (Ext.drew wr)
    have hxD := hxx.trans (Ext.drew wr)
    have HMD : Hid (lenAt2 wr ⟨gw, i, none⟩ = u.length) := Lib.hid (lenAt2_of cu)
    have HFD : Hid (R = ⟨u, v, x, a⟩ → ∃ vw' vr', FoAt w0.heap.size wr.drew g (foMid q hd R.a A R.u R.x C B R.v D os) gw gr go cw cr co vw' vr') := Lib.hid (fun e => ⟨_, _, by rw [e]; exact stD⟩)
    clear st k3 k4 cu cv HFIN hxx
    go_upto_region 1 with fail
    obtain ⟨W0, hW0⟩ : ∃ W, wr.drew = W := ⟨_, rfl⟩
    have cz : W0.cell? ⟨bv, ov + l, none⟩ = some (.int .i64 y) := by rw [← hW0]; exact hcv
    have d1 : W0.cell? ⟨g, 1, none⟩ = some (.int .i64 hd) := by rw [← hW0]; exact k1
    have dx : W0.cell? ⟨gw, i + 1, none⟩ = some xv := by rw [← hW0]; exact cx
    rw [hW0] at q3 q4 qu qv stD hxD HFD ⊢
    have iu := iu.ext (Ext.drew wr)
    have iv := iv.ext (Ext.drew wr)
    have ix := ix.ext (Ext.drew wr)
    rw [hW0] at iu iv ix
    clear hcv k1 k2 cx hW0
    cases hk : u.length with
    | zero =>
      have HF : Hid (∃ vw' vr', FoAt w0.heap.size W0 g (foMid q hd R.a A R.u R.x C B R.v D os) gw gr go cw cr co vw' vr') := Lib.hid (HFD.out (by have := HROT.out; rw [hk] at this; exact this.symm))
      clear stD HFD iu iv ix qu qv q3 q4 HROT
      go_wp2_with fail
      refine (sizeIN_c _ _ _ _).mono ?_
      rintro e w2 ⟨rfl, rfl⟩
      go_wp2_with fail
      refine wp_region_ext (by kernel_rfl) (by kernel_rfl) ?_
      repeat (go_big_quiet_step (fail))
      intro wq hwq
      have HG : Hid (∃ vw' vr', FoAt w0.heap.size wq g (foMid q hd R.a A R.u R.x C B R.v D os) gw gr go cw cr co vw' vr') := Lib.hid (by obtain ⟨p1, p2, p3⟩ := HF.out; exact ⟨p1, p2, p3.ext hwq⟩)
      go_wp2
      exact bodyPost_ret (results_none rfl _ _ _) rfl ⟨rfl, HG.out, hxD.trans hwq⟩
    | succ k =>
      obtain ⟨z, hz⟩ : ∃ z, u.getD k 0 = z := ⟨_, rfl⟩
      obtain ⟨bu, ou, cU', hAu, _, _, hcu⟩ := iu.cellAt (k := k) (by omega)
      injection hAu with e1 e2 e3
      subst e1 e3
      rw [hz] at hcu
      have HK := Lib.hid hk
      rw [hk] at qu iu hcU1
      have HROTk : Hid (rotR h0 h1 (k + 1) u v x a = R) := Lib.hid (by rw [← hk]; exact HROT.out)
      have hyv : v.getD (v.length - 1) 0 = y := by rw [HL.out]; exact hy
      have hn0 : ((k : Int) + 1 == 0) = false := beq_eq_false_iff_ne.2 (by omega)
      have hwk0 : IntKind.i64.wrap (k : Int) = (k : Int) := IntWalk.i64_in _ (by omega)
      have hwl0 : IntKind.i64.wrap (l : Int) = (l : Int) := IntWalk.i64_in _ (by omega)
      have hkk : k ≤ 1000 := by omega
      have hwi : IntKind.i64.wrap ((i : Int) + 1) = ((i + 1 : Nat) : Int) := by rw [show (i : Int) + 1 = ((i + 1 : Nat) : Int) by omega]; exact IntWalk.i64_in _ (by omega)
      have z1 := cellR hcu
      have z2 := cellR cz
      by_cases hzy : z = y
      · subst hzy
        obtain ⟨ub, hub⟩ : ∃ ub, (decide (hd = (i : Int)) && decide (a = (k : Int))) = ub := ⟨_, rfl⟩
        have US : ∀ (d : Nat) (ob : Array Obj), Calls Tryz.prog 188 #[.pointer (some ⟨g, 0, none⟩), .int .i64 (i : Int), .int .i64 (k : Int)] (Sort.grow (redrawn W0 d) ob) fun e w' => e = .returned (.bool (decide (hd = (i : Int)) && decide (a = (k : Int)))) ∧ Sort.grow (redrawn W0 d) ob = w' := fun d ob => under_c (Sort.grow (redrawn W0 d) ob) (stD.ext (below_regrown W0 d ob)) (i : Int) (k : Int)
        rw [hub] at US
        have hh0e : decide (hd = (i : Int)) = h0 := by have := HH0.out; rwa [HI.out] at this
        rw [hh0e] at hub
        have HUB := Lib.hid hub
        clear hub hh0e
        cases ub with
        | true =>
          have HF : Hid (∃ vw' vr', FoAt w0.heap.size W0 g (foMid q hd R.a A R.u R.x C B R.v D os) gw gr go cw cr co vw' vr') := Lib.hid (HFD.out (by
            rw [← HROTk.out]
            unfold rotR
            have := HUB.out
            simp only [Bool.and_eq_true, decide_eq_true_eq] at this
            rw [if_neg (fun hc => hc.2 this)]))
          clear stD HFD iu iv ix qu qv q3 q4 HROT HROTk
          go_wp2_with fail
          refine (sizeIN_c _ _ _ _).mono ?_
          rintro e w2 ⟨rfl, rfl⟩
          go_wp2_with fail
          refine wp_region_ext (by kernel_rfl) (by kernel_rfl) ?_
          repeat (go_big_quiet_step ((go_at_call 188; exact Calls.sameR (US _ _))))
          intro wq hwq
          have HG : Hid (∃ vw' vr', FoAt w0.heap.size wq g (foMid q hd R.a A R.u R.x C B R.v D os) gw gr go cw cr co vw' vr') := Lib.hid (by obtain ⟨p1, p2, p3⟩ := HF.out; exact ⟨p1, p2, p3.ext hwq⟩)
          go_wp2
          exact bodyPost_ret (results_none rfl _ _ _) rfl ⟨rfl, HG.out, hxD.trans hwq⟩
        | false =>
          have hstep : rotR h0 h1 (k + 1) u v x a = rotR h0 h1 k (u.take k) (v.drop l ++ v.take l) (z :: x) (if h1 then a + 1 else a) := by
            conv => lhs; unfold rotR
            rw [hyv, hz, HL.out, show l + 1 - 1 = l by omega]
            rw [if_pos]
            refine ⟨rfl, fun hc => ?_⟩
            have := HUB.out
            rw [hc.1] at this
            simp at this
            exact this hc.2
          have HROT2 : Hid (rotR h0 h1 k (u.take k) (v.drop l ++ v.take l) (z :: x) (if h1 then a + 1 else a) = R) := Lib.hid (by rw [← hstep]; exact HROTk.out)
          have hzz : (z != z) = false := by simp
          clear hstep HROT HROTk HFD hyv hy hz cz
          go_wp2_with fail
          refine (sizeIN_c _ _ _ _).mono ?_
          rintro e w2 ⟨rfl, rfl⟩
          go_wp2_with fail
          refine wp_region_ext (by kernel_rfl) (by kernel_rfl) ?_
          repeat (go_big_quiet_step ((go_at_call 188; exact Calls.sameR (US _ _))))
          intro wq hwq
          clear US z1 z2
          have q3 := hwq.cell q3
          have q4 := hwq.cell q4
          have qu := hwq.cell qu
          have qv := hwq.cell qv
          have dx := hwq.cell dx
          have d1 := hwq.cell d1
          have hcu := hwq.cell hcu
          have st1 := stD.ext hwq
          have hx1 := hxD.trans hwq
          have iu := iu.ext hwq
          have iv := iv.ext hwq
          have ix := ix.ext hwq
          clear stD hxD hwq
          go_wp2_with fail
          -- region 3: the symbol goes to the wall behind the repeater
          obtain ⟨Ax, cX, rfl, hcX1, hcX2⟩ := ix.ints.form
          have p3 : wq.drew.cell? ⟨g, 3, none⟩ = some (.slice (some ⟨gw, 0, none⟩) (i + (C.length + 2)) cw) := q3
          have px : wq.drew.cell? ⟨gw, i + 1, none⟩ = some (.slice Ax x.length cX) := dx
          have pz : wq.drew.cell? ⟨bu, ou + k, none⟩ = some (.int .i64 z) := hcu
          refine wp_region_ordT 23 (readsT [0, 1, 2, 3, 4, 5, 6, 7, 8, 9, 10, 12, 13, 14, 15, 16, 17, 18, 19] (.stir 11 (.stir 20 (.stir 21 (readsT [22] .done))))) (by kernel_rfl) (by kernel_rfl) (fun _ _ _ _ _ h => h) ?_
          simp only [readsT]
          iterate 19 (refine wpOrdT_read (v := ?_) (by rfl) (Or.inl ⟨by rfl, fun x hx => ?_⟩) ?_; rotate_left; (· have y3 := Ext.cell hx p3; have yx := Ext.cell hx px; have yz := Ext.cell hx pz; go_simp; try first | with_reducible rfl | (rw [if_pos (by omega)]; try with_reducible rfl) | (rw [hwk0, Int.toNat_natCast, if_pos (by omega)]; try with_reducible rfl) | (rw [hwi, Int.toNat_natCast, if_pos (by omega)]; try with_reducible rfl) | (rw [hwl0, Int.toNat_natCast, if_pos (by omega)]; try with_reducible rfl)); try simp only [Act.put, List.setIfInBounds_toArray, List.set_cons_zero, List.set_cons_succ])
          obtain ⟨gx, hgx⟩ : ∃ gx, wq.drew.heap.size = gx := ⟨_, rfl⟩
          have hgx' : wq.heap.size = gx := hgx
          obtain ⟨Wx, hWx⟩ : ∃ W, wq.drew.alloc (.cells #[.int .i64 z] 2) = W := ⟨_, rfl⟩
          have ex : Ext wq.drew Wx := by rw [← hWx]; exact Ext.alloc _ _
          have hWx' : (wq.alloc (.cells #[.int .i64 z] 2)).drew = Wx := hWx
          have bx : Blk Wx gx 2 #[.int .i64 z] := by rw [← hWx]; exact Blk.new _ _ _ _ hgx
          have hgxo : gx ≠ go := by
            obtain ⟨⟨cs, hb⟩, _⟩ := own_blk st1.oo
            have := hb.lt
            omega
          have i1 : IL Wx go (.slice (some ⟨gx, 0, none⟩) 1 1) [z] := IL.one (base := 0) bx hgxo
          have ix2 := (ix.ext (Ext.drew wq)).ext ex
          have JC := joinedA_c (some ⟨gx, 0, none⟩) Ax 1 cX [z] x Wx i1.ints ix2.ints i1.flat ix2.flat (by simp; omega)
          simp only [List.length_singleton] at JC
          refine wpOrdT_stir (by rfl) (fun K hK => ?_)
          go_simp
          try rw [hWx]
          try rw [hWx']
          try rw [hgx]
          try rw [hgx']
          clear hWx hWx' hgx hgx'
          refine hK _ _ ex ?_
          clear hK K
          try simp only [Act.put, List.setIfInBounds_toArray, List.set_cons_zero, List.set_cons_succ]
          refine wpOrdT_stir (by rfl) (fun K hK => ?_)
          go_simp
          refine hK _ _ (Ext.alloc _ _) ?_
          clear hK K
          try simp only [Act.put, List.setIfInBounds_toArray, List.set_cons_zero, List.set_cons_succ]
          refine wpOrdT_stir (by rfl) (fun K hK => ?_)
          go_simp
          go_at_call 44
          refine JC.mono ?_
          rintro e w6 ⟨uX, rfl, oX, hx6a⟩
          have hx6 := (Ext.alloc _ _).trans hx6a
          have hx6q : Ext wq w6 := ((Ext.drew wq).trans ex).trans hx6
          refine hK _ _ hx6a ?_
          clear hK K JC hx6a
          try simp only [Act.put, List.setIfInBounds_toArray, List.set_cons_zero, List.set_cons_succ]
          refine wpOrdT_read (v := ?_) (by rfl) (Or.inl ⟨by rfl, fun x hx => ?_⟩) ?_; rotate_left; (· go_simp; try first | with_reducible rfl | (rw [if_pos (by omega)]; try with_reducible rfl) | (rw [hwk0, Int.toNat_natCast, if_pos (by omega)]; try with_reducible rfl) | (rw [hwi, Int.toNat_natCast, if_pos (by omega)]; try with_reducible rfl) | (rw [hwl0, Int.toNat_natCast, if_pos (by omega)]; try with_reducible rfl)); try simp only [Act.put, List.setIfInBounds_toArray, List.set_cons_zero, List.set_cons_succ]
          refine wpOrdT_done ?_
          try simp only [List.drop_succ_cons, List.drop_zero]
          have iX : IL w6 go uX (z :: x) := IL.own oX (by
            obtain ⟨⟨cs, hb⟩, _⟩ := own_blk st1.oo
            have h1 := hb.lt
            have h2 := ((Ext.drew wq).trans ex).size
            omega)
          obtain ⟨gX, cX2, rfl⟩ := own_some oX (by simp)
          have st16 := st1.ext hx6q
          obtain ⟨⟨csw, hbw⟩, hgwb⟩ := own_blk st16.ow
          obtain ⟨vw2, st2⟩ := st16.putX iX
          rw [HI.out] at st2
          have hx7 := (hx1.trans hx6q).setCell (p := ⟨gw, i + 1, none⟩) hgwb (.slice (some ⟨gX, 0, none⟩) ([z] ++ x).length cX2)
          have iu7 := (iu.ext hx6q).set hbw (by decide) (i + 1) (.slice (some ⟨gX, 0, none⟩) ([z] ++ x).length cX2)
          have iv7 := (iv.ext hx6q).set hbw (by decide) (i + 1) (.slice (some ⟨gX, 0, none⟩) ([z] ++ x).length cX2)
          have m7 := (hx6q.cell dx)
          have f7 := hbw.frozen (i + 1)
          have hlx : ([z] ++ x).length = x.length + 1 := by simp
          rw [hlx] at st2 hx7 iu7 iv7
          clear st1 st16 hx1 iu iv ix oX iX bx i1 ix2 hx6 ex p3 px pz q3 q4 qu qv dx d1 hcu hbw
          go_upto_region 4 with fail
          try rw [hlx]
          obtain ⟨W7, hW7⟩ : ∃ W, w6.setCell ⟨gw, i + 1, none⟩ (.slice (some ⟨gX, 0, none⟩) (x.length + 1) cX2) = W := ⟨_, rfl⟩
          rw [hW7] at st2 hx7 iu7 iv7
          try rw [hW7]
          clear hW7 hx6q m7 f7
          -- region 4: the wall before the repeater
          obtain ⟨_, _, k3, _⟩ := st2.cells
          rw [HI.out] at k3
          have p3 : W7.drew.cell? ⟨g, 3, none⟩ = some (.slice (some ⟨gw, 0, none⟩) (i + (C.length + 2)) cw) := k3
          refine wp_region_ordT 10 (readsT [0, 1, 2, 3, 4, 5, 6, 7, 8, 9] .done) (by kernel_rfl) (by kernel_rfl) (fun _ _ _ _ _ h => h) ?_
          simp only [readsT]
          iterate 10 (refine wpOrdT_read (v := ?_) (by rfl) (Or.inl ⟨by rfl, fun x hx => ?_⟩) ?_; rotate_left; (· have y3 := Ext.cell hx p3; go_simp; try first | with_reducible rfl | (rw [if_pos (by omega)]; try with_reducible rfl) | (rw [hwk0, Int.toNat_natCast, if_pos (by omega)]; try with_reducible rfl) | (rw [hwi, Int.toNat_natCast, if_pos (by omega)]; try with_reducible rfl) | (rw [hwl0, Int.toNat_natCast, if_pos (by omega)]; try with_reducible rfl)); try simp only [Act.put, List.setIfInBounds_toArray, List.set_cons_zero, List.set_cons_succ])
          refine wpOrdT_done ?_
          try simp only [List.drop_succ_cons, List.drop_zero]
          have iuk := iu7.take (k := k) (by have := HK.out; omega)
          obtain ⟨⟨csw, hbw⟩, hgwb⟩ := own_blk st2.ow
          obtain ⟨vw3, st3⟩ := st2.putU iuk
          rw [HI.out] at st3
          have st3 := st3.ext (Ext.drew _)
          have hx8 := (hx7.setCell (p := ⟨gw, i, none⟩) hgwb (.slice (some ⟨bu, ou, none⟩) k cU)).trans (Ext.drew _)
          have iv8 := (iv7.set hbw (by decide) i (.slice (some ⟨bu, ou, none⟩) k cU)).ext (Ext.drew _)
          obtain ⟨zz, m7, _⟩ := st2.u
          rw [HI.out] at m7
          have m7d : W7.drew.cell? ⟨gw, i, none⟩ = some zz := m7
          have f7 : W7.drew.frozen? ⟨gw, i, none⟩ = false := hbw.frozen i
          clear st2 hx7 iu7 iv7 iuk p3 k3 m7 hbw
          go_upto_region 5 with fail
          obtain ⟨W8, hW8⟩ : ∃ W, (W7.setCell ⟨gw, i, none⟩ (.slice (some ⟨bu, ou, none⟩) k cU)).drew = W := ⟨_, rfl⟩
          rw [hW8] at st3 hx8 iv8
          try rw [hW8]
          clear hW8 m7d f7
          -- region 5: the repeater
          obtain ⟨_, _, _, k4⟩ := st3.cells
          rw [← HAB.out, HI.out] at k4
          have p4 : W8.drew.cell? ⟨g, 4, none⟩ = some (.slice (some ⟨gr, 0, none⟩) (i + (D.length + 1)) cr) := k4
          refine wp_region_ordT 14 (readsT [0, 1, 2, 3, 4, 5, 6, 7, 8, 9, 10] (.stir 11 (.stir 12 (readsT [13] .done)))) (by kernel_rfl) (by kernel_rfl) (fun _ _ _ _ _ h => h) ?_
          simp only [readsT]
          iterate 11 (refine wpOrdT_read (v := ?_) (by rfl) (Or.inl ⟨by rfl, fun x hx => ?_⟩) ?_; rotate_left; (· have y4 := Ext.cell hx p4; go_simp; try first | with_reducible rfl | (rw [if_pos (by omega)]; try with_reducible rfl) | (rw [hwk0, Int.toNat_natCast, if_pos (by omega)]; try with_reducible rfl) | (rw [hwi, Int.toNat_natCast, if_pos (by omega)]; try with_reducible rfl) | (rw [hwl0, Int.toNat_natCast, if_pos (by omega)]; try with_reducible rfl)); try simp only [Act.put, List.setIfInBounds_toArray, List.set_cons_zero, List.set_cons_succ])
          have hA' : (if cV = l then some (⟨bv, ov, none⟩ : Addr) else some ⟨bv, ov + l, none⟩) = some ⟨bv, ov + l, none⟩ := if_neg (by omega)
          have hl1 : l + 1 - l = 1 := by omega
          try rw [hA']
          try simp only [hl1]
          have hvl := HL.out
          have ivd := (iv8.ext (Ext.drew W8)).drop (k := l) (by omega)
          have ivt := (iv8.ext (Ext.drew W8)).take (k := l) (by omega)
          rw [hl1] at ivd
          have hdl : (v.drop l).length = 1 := by rw [List.length_drop]; omega
          have htl : (v.take l).length = l := by rw [List.length_take]; omega
          have JC := joinedA_c (some ⟨bv, ov + l, none⟩) (some ⟨bv, ov, none⟩) (cV - l) cV (v.drop l) (v.take l) W8.drew (by rw [hdl]; exact ivd.ints) (by rw [htl]; exact ivt.ints) (by rw [hdl]; exact ivd.flat) (by rw [htl]; exact ivt.flat) (by omega)
          rw [hdl, htl] at JC
          clear hvl
          refine wpOrdT_stir (by rfl) (fun K hK => ?_)
          go_simp
          refine hK _ _ (Ext.alloc _ _) ?_
          clear hK K
          try simp only [Act.put, List.setIfInBounds_toArray, List.set_cons_zero, List.set_cons_succ]
          refine wpOrdT_stir (by rfl) (fun K hK => ?_)
          go_simp
          go_at_call 44
          refine JC.mono ?_
          rintro e w9 ⟨uV, rfl, oV, hx9a⟩
          have hx9 := (Ext.alloc _ _).trans hx9a
          have hx9q : Ext W8 w9 := (Ext.drew W8).trans hx9
          refine hK _ _ hx9a ?_
          clear hK K JC hx9a
          try simp only [Act.put, List.setIfInBounds_toArray, List.set_cons_zero, List.set_cons_succ]
          refine wpOrdT_read (v := ?_) (by rfl) (Or.inl ⟨by rfl, fun x hx => ?_⟩) ?_; rotate_left; (· go_simp; try first | with_reducible rfl | (rw [if_pos (by omega)]; try with_reducible rfl) | (rw [hwk0, Int.toNat_natCast, if_pos (by omega)]; try with_reducible rfl) | (rw [hwi, Int.toNat_natCast, if_pos (by omega)]; try with_reducible rfl) | (rw [hwl0, Int.toNat_natCast, if_pos (by omega)]; try with_reducible rfl)); try simp only [Act.put, List.setIfInBounds_toArray, List.set_cons_zero, List.set_cons_succ]
          refine wpOrdT_done ?_
          try simp only [List.drop_succ_cons, List.drop_zero]
          have iV : IL w9 go uV (v.drop l ++ v.take l) := IL.own oV (by
            obtain ⟨⟨cs, hb⟩, _⟩ := own_blk st3.oo
            have h1 := hb.lt
            have h2 := (Ext.drew W8).size
            omega)
          have hvll : (v.drop l ++ v.take l).length = l + 1 := by rw [List.length_append, hdl, htl]; omega
          obtain ⟨gV, cV2, rfl⟩ := own_some oV (by omega)
          rw [hvll] at iV
          have st39 := st3.ext hx9q
          obtain ⟨⟨csr, hbr⟩, hgrb⟩ := own_blk st39.or
          obtain ⟨vr4, st4⟩ := st39.putV iV
          obtain ⟨zz, m9, _⟩ := st39.v
          rw [← HAB.out, HI.out] at st4 m9
          have hx10 := (hx8.trans hx9q).setCell (p := ⟨gr, i, none⟩) hgrb (.slice (some ⟨gV, 0, none⟩) (l + 1) cV2)
          have f9 := hbr.frozen i
          clear st3 st39 hx8 iv8 ivd ivt oV iV hx9 p4 k4 hbr hdl htl
          go_upto_region 6 with fail
          try rw [hvll]
          obtain ⟨W10, hW10⟩ : ∃ W, w9.setCell ⟨gr, i, none⟩ (.slice (some ⟨gV, 0, none⟩) (l + 1) cV2) = W := ⟨_, rfl⟩
          rw [hW10] at st4 hx10
          try rw [hW10]
          clear hW10 m9 f9 hx9q
          -- regions 6 and 7: the head
          obtain ⟨k1, k2, _, _⟩ := st4.cells
          have hkl2 : (u.take k).length = k := by rw [List.length_take]; have := HK.out; omega
          have hvn : (v.drop l ++ v.take l).length = v.length := by rw [hvll]; exact HL.out.symm
          have hlen2 : Hid ((u.take k).length + (z :: x).length = u0.length + x0.length ∧ (v.drop l ++ v.take l).length = v0.length ∧ (u.take k).length ≤ u0.length) := Lib.hid (by
            have e1 := HLN.out
            have e2 := HK.out
            rw [hkl2, List.length_cons, hvn]
            omega)
          have hwa : IntKind.i64.wrap (a + 1) = a + 1 := IntWalk.i64_in _ (by have := HLN.out; omega)
          have hh1e : decide (hd = (i : Int) + 1) = h1 := by have := HH1.out; rwa [HI.out] at this
          by_cases hh : hd = (i : Int) + 1
          · have hhb : (hd == (i : Int) + 1) = true := by simp [hh]
            have hb1 : h1 = true := by rw [← hh1e]; exact decide_eq_true hh
            have st5 := st4.putA (a + 1)
            have hx5 := hx10.setCell (p := ⟨g, 2, none⟩) st4.bg (.int .i64 (a + 1))
            have f10 := st4.blk.frozen 2
            have H5 := Lib.hid st5
            have HM : Hid (lenAt2 (W10.setCell ⟨g, 2, none⟩ (.int .i64 (a + 1))) ⟨gw, i, none⟩ = k) := Lib.hid (by
              obtain ⟨z5, c5, i5⟩ := st5.u
              obtain ⟨A5, cc5, rfl, _, _⟩ := i5.ints.form
              rw [HI.out] at c5
              rw [lenAt2_of c5, hkl2])
            have HRT : Hid (rotR h0 h1 (u.take k).length (u.take k) (v.drop l ++ v.take l) (z :: x) (a + 1) = R) := Lib.hid (by have := HROT2.out; rw [hb1] at this ⊢; rw [hkl2]; exact this)
            have hab2 : -2000 ≤ a + 1 ∧ a + 1 + ((u.take k).length : Int) ≤ 2000 + u0.length := by rw [hkl2]; have := HK.out; omega
            have HKK := Lib.hid hk
            clear st4 st5 hh hh1e hkl2 hvn hk
            go_wp2
            go_roundw
            case rel => exact ⟨_, _, _, _, _, _, H5.out, hx5, hlen2, hab2, HRT.out⟩
            case measure => rw [HM.out, HMD.out, HKK.out]; omega
          · have hhb : (hd == (i : Int) + 1) = false := by simp [hh]
            have hb1 : h1 = false := by rw [← hh1e]; exact decide_eq_false hh
            have H5 := Lib.hid st4
            have HM : Hid (lenAt2 W10 ⟨gw, i, none⟩ = k) := Lib.hid (by
              obtain ⟨z5, c5, i5⟩ := st4.u
              obtain ⟨A5, cc5, rfl, _, _⟩ := i5.ints.form
              rw [HI.out] at c5
              rw [lenAt2_of c5, hkl2])
            have HRT : Hid (rotR h0 h1 (u.take k).length (u.take k) (v.drop l ++ v.take l) (z :: x) a = R) := Lib.hid (by have := HROT2.out; rw [hb1] at this ⊢; rw [hkl2]; exact this)
            have hab2 : -2000 ≤ a ∧ a + ((u.take k).length : Int) ≤ 2000 + u0.length := by rw [hkl2]; have := HK.out; omega
            have HKK := Lib.hid hk
            clear st4 hh hh1e hkl2 hvn hk
            go_wp2
            go_roundw
            case rel => exact ⟨_, _, _, _, _, _, H5.out, hx10, hlen2, hab2, HRT.out⟩
            case measure => rw [HM.out, HMD.out, HKK.out]; omega
      · have hzb : (z != y) = true := by simp [hzy]
        have HF : Hid (∃ vw' vr', FoAt w0.heap.size W0 g (foMid q hd R.a A R.u R.x C B R.v D os) gw gr go cw cr co vw' vr') := Lib.hid (HFD.out (by
          rw [← HROTk.out]
          unfold rotR
          rw [if_neg (fun hc => hzy (by rw [← hz, ← hyv]; exact hc.1))]))
        clear stD HFD iu iv ix qu qv q3 q4 HROT HROTk hzy
        go_wp2_with fail
        refine (sizeIN_c _ _ _ _).mono ?_
        rintro e w2 ⟨rfl, rfl⟩
        go_wp2_with fail
        refine wp_region_ext (by kernel_rfl) (by kernel_rfl) ?_
        repeat (go_big_quiet_step (fail))
        intro wq hwq
        have HG : Hid (∃ vw' vr', FoAt w0.heap.size wq g (foMid q hd R.a A R.u R.x C B R.v D os) gw gr go cw cr co vw' vr') := Lib.hid (by obtain ⟨p1, p2, p3⟩ := HF.out; exact ⟨p1, p2, p3.ext hwq⟩)
        go_wp2
        exact bodyPost_ret (results_none rfl _ _ _) rfl ⟨rfl, HG.out, hxD.trans hwq⟩
end Go.Proofs.YtojiammendjpkaaGreat
end
