/- Contracts of the program's test whether a configuration comes again, moved. -/
import Derived.Test.YtpdnmhhieokogaaShA
import Derived.Test.YtpdnmhhieokogaaConf
import Derived.Test.YtpdnmhhieokogaaTrim
set_option linter.unusedSimpArgs false
set_option linter.unusedVariables false
namespace Go.Proofs.Ytpdnmhhieokogaa
open Go Go.RowKit Go.Proofs
set_option maxHeartbeats 400000
theorem sameBeg_no {a b : List Int} {k : Int} {i : Nat} (hi : (i : Int) < k) (hne : a.getD i 0 ≠ b.getD i 0) : sameBeg a b k = false := by
  cases h : sameBeg a b k with
  | false => rfl
  | true => exact absurd (sameBeg_get h hi) hne
theorem sameBeg_yes {a b : List Int} {k : Int} (h : ∀ i : Nat, (i : Int) < k → a.getD i 0 = b.getD i 0) : sameBeg a b k = true := by
  simp only [sameBeg, List.all_eq_true, List.mem_range, beq_iff_eq]
  intro i hi
  exact h i (by omega)
set_option maxRecDepth 20000 in
theorem sameBeginning_c (u v : Value) (xs ys : List Int) (k : Int) (w : World) (h : Ints w u xs) (h' : Ints w v ys) (hk : k ≤ 1000000) :
    Calls Try.prog 36 #[u, v, .int .i64 k] w fun e w' => e = .returned (.bool (sameBeg xs ys k)) ∧ w = w' := by
  have HU := Lib.hid h
  have HV := Lib.hid h'
  have HW : Hid (k.toNat = k.toNat) := rfl
  clear h h'
  go_enter Try.func36, Try.ntmps36
  go_wp2
  go_loopw [9] (fun i wr => ∃ n : Nat, n ≤ k.toNat ∧ i = .int .i64 (n : Int) ∧ wr = w ∧ Hid (∀ i : Nat, i < n → xs.getD i 0 = ys.getD i 0)) (fun i _ => k.toNat - (intOf i).toNat)
  case atStart => exact ⟨0, Nat.zero_le _, rfl, rfl, Lib.hid (fun i hi => by omega)⟩
  case round =>
    obtain ⟨n, hn, rfl, rfl, hall⟩ := hrel
    by_cases hlt : (n : Int) < k
    · have hd : decide ((n : Int) < k) = true := by simp [hlt]
      obtain ⟨x, hx⟩ : ∃ x, xs.getD n 0 = x := ⟨_, rfl⟩
      obtain ⟨y, hy⟩ : ∃ y, ys.getD n 0 = y := ⟨_, rfl⟩
      have HN : ¬ x = y → Hid (sameBeg xs ys k = false) := fun he => Lib.hid (sameBeg_no hlt (by rw [hx, hy]; exact he))
      have HK := Lib.hid hlt
      have sx := symbolAt_c u xs n wr HU.out
      have sy := symbolAt_c v ys n wr HV.out
      rw [hx] at sx
      rw [hy] at sy
      have HX := Lib.hid hx
      have HY := Lib.hid hy
      clear hx hy
      go_wp2_with fail
      refine sx.mono ?_
      rintro e w' ⟨rfl, rfl⟩
      go_wp2_with fail
      refine sy.mono ?_
      rintro e w' ⟨rfl, rfl⟩
      clear sx sy
      by_cases he : x = y
      · have hb : (x != y) = false := by simp [he]
        have HE := Lib.hid he
        clear he HN
        go_wp2
        go_roundw
        case rel => exact ⟨n + 1, by have := HK.out; omega, by go_num, by first | rfl | trivial, Lib.hid (fun i hi => by
          by_cases e : i = n
          · subst e; rw [HX.out, HY.out]; exact HE.out
          · exact hall.out i (by omega))⟩
        case measure => have := HK.out; simp [intOf]; omega
      · have hb : (x != y) = true := by simp [he]
        have HN2 := HN he
        clear he HN
        go_wp2
        go_ret
        exact ⟨by rw [HN2.out]; rfl, by first | rfl | trivial⟩
    · have hd : decide ((n : Int) < k) = false := by simp [hlt]
      have HY := Lib.hid (sameBeg_yes (k := k) (a := xs) (b := ys) (fun i hi => hall.out i (by omega)))
      go_wp2
      go_ret
      exact ⟨by rw [HY.out]; rfl, by first | rfl | trivial⟩
/-- A slice without its first element. -/
def beyV (v : Value) (n : Nat) : Value :=
  match v with
  | .slice A _ c => if n = 0 then .slice A 0 c else if c = 1 then .slice A 0 0 else .slice (A.map fun x => x.add 1) (n - 1) (c - 1)
  | v => v
theorem beyond_c (v : Value) (xs : List Int) (w : World) (h : Ints w v xs) :
    Calls Try.prog 38 #[v] w fun e w' => e = .returned (beyV v xs.length) ∧ w = w' := by
  obtain ⟨A, c, rfl, h2, h2'⟩ := id h.form
  by_cases h0 : xs.length = 0
  · have hm0 : min (1 : Int) 0 = 0 := by decide
    by_cases hc : c = 0
    · have HV : Hid (beyV (.slice A xs.length c) xs.length = .slice A 0 0) := Lib.hid (by simp [beyV, h0, hc])
      rw [h0, hc] at *
      clear h
      go_enter Try.func38, Try.ntmps38
      go_wp2
      go_ret
      exact ⟨by rw [HV.out]; rfl, rfl⟩
    · have HV : Hid (beyV (.slice A xs.length c) xs.length = .slice A 0 c) := Lib.hid (by simp [beyV, h0])
      have hc0 : (0 : Int) ≤ (c : Int) := by omega
      rw [h0] at *
      clear h
      go_enter Try.func38, Try.ntmps38
      go_wp2
      go_ret
      exact ⟨by rw [HV.out]; rfl, rfl⟩
  · obtain ⟨b, off, rfl, hb⟩ := h.at (k := 0) (by omega)
    have hc1 : (1 : Int) ≤ (c : Int) := by omega
    have hl1 : (1 : Int) ≤ (xs.length : Int) := by omega
    have hmin : min (1 : Int) (xs.length : Int) = 1 := by omega
    clear hb
    by_cases hcc : c = 1
    · subst hcc
      have hl : xs.length = 1 := by omega
      have HV : Hid (beyV (.slice (some ⟨b, off, none⟩) xs.length 1) xs.length = .slice (some ⟨b, off, none⟩) 0 0) := Lib.hid (by rw [hl]; rfl)
      rw [hl] at *
      clear h
      go_enter Try.func38, Try.ntmps38
      go_wp2
      go_ret
      exact ⟨by rw [HV.out]; rfl, rfl⟩
    · have HV : Hid (beyV (.slice (some ⟨b, off, none⟩) xs.length c) xs.length = .slice (some ⟨b, off + 1, none⟩) (xs.length - 1) (c - 1)) := Lib.hid (by simp [beyV, h0, hcc, Addr.add])
      generalize xs.length = n at *
      clear h
      go_enter Try.func38, Try.ntmps38
      go_wp2
      go_ret
      exact ⟨by rw [HV.out]; rfl, rfl⟩
theorem beyV_ints {w : World} {v : Value} {xs : List Int} (h : Ints w v xs) : Ints w (beyV v xs.length) (xs.drop 1) := by
  obtain ⟨A, c, rfl, h2, h2'⟩ := id h.form
  by_cases h0 : xs.length = 0
  · have hx : xs = [] := by simpa using h0
    subst hx
    simp only [beyV, List.length_nil, if_true, List.drop_nil]
    exact ⟨_, c, rfl, h2, h2', rfl, fun hh => absurd hh (by simp)⟩
  · obtain ⟨b, off, rfl, hc⟩ := h.at (k := 0) (by omega)
    have hd := h.drop 1 (by omega)
    by_cases hcc : c = 1
    · have hx : xs.drop 1 = [] := List.drop_eq_nil_of_le (by omega)
      rw [hx]
      simp only [beyV, h0, hcc, if_true, if_false]
      exact ⟨_, 0, rfl, Nat.le_refl _, by omega, rfl, fun hh => absurd hh (by simp)⟩
    · simp only [beyV, h0, hcc, if_false]
      exact hd
/-- A call that answers v, in every world that a quiet region may come to. -/
abbrev QCall (f : FuncId) (args : Array Value) (W : World) (v : Value) : Prop := ∀ (d : Nat) (os : Array Obj), Calls Try.prog f args (Sort.grow (redrawn W d) os) fun e w'' => e = .returned v ∧ ∃ p : Regrown, w'' = Sort.grow (redrawn W p.d) p.os
theorem symbolAt0_c (v : Value) (zs : List Int) (w : World) (h : Ints w v zs) :
    Calls Try.prog 37 #[v, .int .i64 0] w fun e w' => e = .returned (.int .i64 (hdD zs)) ∧ w = w' := by
  have := symbolAt_c v zs 0 w h
  simpa [hdD] using this
set_option maxRecDepth 20000 in
set_option maxHeartbeats 4000000 in
theorem shiftFits_c (u v : Value) (c e : ConfD) (d k : Int) (w : World) (hc : Conf w u c) (he : Conf w v e) (hk : k ≤ 1000000) :
    Calls Try.prog 19 #[u, v, .int .i64 d, .int .i64 k] w fun e' w' => e' = .returned (.bool (shFits c e d k)) ∧ Ext w w' := by
  obtain ⟨cq, cl, cr⟩ := c
  obtain ⟨eq, el, er⟩ := e
  obtain ⟨lv, rv, rfl, hl, hr⟩ := hc
  obtain ⟨lv2, rv2, rfl, hl2, hr2⟩ := he
  simp only at hl hr hl2 hr2
  obtain ⟨A1, c1, rfl, _, _⟩ := id hl.form
  obtain ⟨A2, c2, rfl, _, _⟩ := id hr.form
  obtain ⟨A3, c3, rfl, _, _⟩ := id hl2.form
  obtain ⟨A4, c4, rfl, _, _⟩ := id hr2.form
  obtain ⟨W, hW⟩ : ∃ W, W = (w.alloc (.cells #[.int .i64 cq, .slice A1 cl.length c1, .slice A2 cr.length c2] 36)).alloc (.cells #[.int .i64 eq, .slice A3 el.length c3, .slice A4 er.length c4] 36) := ⟨_, rfl⟩
  have hX : Ext w W := by rw [hW]; exact (Ext.alloc _ _).trans (Ext.alloc _ _)
  have b1 : Blk W w.heap.size 36 #[.int .i64 cq, .slice A1 cl.length c1, .slice A2 cr.length c2] := by rw [hW]; exact (Blk.new _ _ _ _ rfl).alloc _
  have b2 : Blk W (w.heap.size + 1) 36 #[.int .i64 eq, .slice A3 el.length c3, .slice A4 er.length c4] := by rw [hW]; exact Blk.new _ _ _ _ (by simp)
  have HL := Lib.hid (hl.ext hX)
  have HR := Lib.hid (hr.ext hX)
  have HL2 := Lib.hid (hl2.ext hX)
  have HR2 := Lib.hid (hr2.ext hX)
  have p0 := b1.cell 0
  have p1 := b1.cell 1
  have p2 := b1.cell 2
  have q0 := b2.cell 0
  have q1 := b2.cell 1
  have q2 := b2.cell 2
  simp only [List.getElem?_toArray, List.getElem?_cons_zero, List.getElem?_cons_succ] at p0 p1 p2 q0 q1 q2
  have HX := Lib.hid hX
  clear hl hr hl2 hr2 hX b1 b2
  generalize hg : w.heap.size = g at *
  rw [hW] at p0 p1 p2 q0 q1 q2
  by_cases hq : cq = eq
  · subst hq
    by_cases hd : 0 < d
    · have hdd : decide (0 < d) = true := by simp [hd]
      have HD := Lib.hid hd
      clear hd
      go_enter Try.func19, Try.ntmps19
      go_wp2_with fail
      rw [← hW]
      rw [← hW] at p0 p1 p2 q0 q1 q2
      clear hW hg
      refine (slicesEqual_c W _ _ cr er HR.out HR2.out).mono ?_
      rintro e w2 ⟨rfl, hx2⟩
      have p1' := hx2.cell p1
      have q1' := hx2.cell q1
      cases hb : lEq cr er with
      | false =>
        have HF : Hid (shFits ⟨cq, cl, cr⟩ ⟨cq, el, er⟩ d k = false) := Lib.hid (by
          have : ¬ cr = er := by simpa [lEq] using hb
          simp [shFits, HD.out, this])
        clear hb
        go_wp2
        go_ret
        exact ⟨by rw [HF.out]; rfl, HX.out.trans hx2⟩
      | true =>
        have HF : Hid (shFits ⟨cq, cl, cr⟩ ⟨cq, el, er⟩ d k = sameBeg cl el k) := Lib.hid (by
          have : cr = er := by simpa [lEq] using hb
          simp [shFits, HD.out, this])
        clear hb
        go_wp2_with fail
        refine (sameBeginning_c _ _ cl el k w2 (HL.out.ext hx2) (HL2.out.ext hx2) hk).mono ?_
        rintro e w3 ⟨rfl, rfl⟩
        go_wp2
        go_ret
        exact ⟨by rw [HF.out]; rfl, HX.out.trans hx2⟩
    · have hdd : decide (0 < d) = false := by simp [hd]
      have HD := Lib.hid hd
      clear hd
      obtain ⟨x, hx⟩ : ∃ x, hdD cr = x := ⟨_, rfl⟩
      obtain ⟨y, hy⟩ : ∃ y, hdD er = y := ⟨_, rfl⟩
      have sy1 : QCall 37 #[.slice A2 cr.length c2, .int .i64 0] W (.int .i64 x) := fun d' os => Calls.sameR (by rw [← hx]; exact symbolAt0_c _ cr _ (HR.out.ext (below_regrown _ _ _)))
      have sy2 : QCall 37 #[.slice A4 er.length c4, .int .i64 0] W (.int .i64 y) := fun d' os => Calls.sameR (by rw [← hy]; exact symbolAt0_c _ er _ (HR2.out.ext (below_regrown _ _ _)))
      have eqs' : QCall 35 #[.slice A1 cl.length c1, .slice A3 el.length c3] W (.bool (lEq cl el)) := fun d' os => Calls.extR (slicesEqual_c _ _ _ cl el (HL.out.ext (below_regrown _ _ _)) (HL2.out.ext (below_regrown _ _ _)))
      obtain ⟨e1, he1⟩ : ∃ v, beyV (.slice A2 cr.length c2) cr.length = v := ⟨_, rfl⟩
      obtain ⟨e2, he2⟩ : ∃ v, beyV (.slice A4 er.length c4) er.length = v := ⟨_, rfl⟩
      have be1 : QCall 38 #[.slice A2 cr.length c2] W e1 := fun d' os => Calls.sameR (by rw [← he1]; exact beyond_c _ cr _ (HR.out.ext (below_regrown _ _ _)))
      have be2 : QCall 38 #[.slice A4 er.length c4] W e2 := fun d' os => Calls.sameR (by rw [← he2]; exact beyond_c _ er _ (HR2.out.ext (below_regrown _ _ _)))
      have sab : QCall 36 #[e1, e2, .int .i64 k] W (.bool (sameBeg (cr.drop 1) (er.drop 1) k)) := fun d' os => Calls.sameR (sameBeginning_c _ _ (cr.drop 1) (er.drop 1) k _ (by rw [← he1]; exact beyV_ints (HR.out.ext (below_regrown _ _ _))) (by rw [← he2]; exact beyV_ints (HR2.out.ext (below_regrown _ _ _))) hk)
      have HV : Hid (shFits ⟨cq, cl, cr⟩ ⟨cq, el, er⟩ d k = ((x == y) && lEq cl el && sameBeg (cr.drop 1) (er.drop 1) k)) := Lib.hid (by simp [shFits, HD.out, hx, hy, lEq])
      clear he1 he2 hx hy
      generalize sameBeg (cr.drop 1) (er.drop 1) k = bc at *
      cases hb : (x == y) with
      | false =>
        have HF : Hid (shFits ⟨cq, cl, cr⟩ ⟨cq, el, er⟩ d k = false) := Lib.hid (by rw [HV.out, hb]; rfl)
        have eqs := eqs'
        clear HV eqs'
        go_enter Try.func19, Try.ntmps19
        go_wp2_with fail
        rw [← hW]
        rw [← hW] at p0 p1 p2 q0 q1 q2
        clear hW hg
        have r1 := cellR p1
        have r2 := cellR p2
        have s1 := cellR q1
        have s2 := cellR q2
        refine wp_region_ext (by kernel_rfl) (by kernel_rfl) ?_
        repeat (go_big_quiet_step ((first | (go_at_call 37; with_reducible exact sy1 _ _) | (go_at_call 37; with_reducible exact sy2 _ _) | (go_at_call 35; with_reducible exact eqs _ _) | (go_at_call 38; with_reducible exact be1 _ _) | (go_at_call 38; with_reducible exact be2 _ _) | (go_at_call 36; with_reducible exact sab _ _))))
        refine wpQuiet_nil ?_
        intro w2 hx2
        go_wp2
        go_ret
        exact ⟨by rw [HF.out]; rfl, HX.out.trans hx2⟩
      | true =>
        cases hb2 : lEq cl el with
        | false =>
          have HF : Hid (shFits ⟨cq, cl, cr⟩ ⟨cq, el, er⟩ d k = false) := Lib.hid (by rw [HV.out, hb, hb2]; rfl)
          have eqs := eqs'
          rw [hb2] at eqs
          clear HV eqs'
          go_enter Try.func19, Try.ntmps19
          go_wp2_with fail
          rw [← hW]
          rw [← hW] at p0 p1 p2 q0 q1 q2
          clear hW hg
          have r1 := cellR p1
          have r2 := cellR p2
          have s1 := cellR q1
          have s2 := cellR q2
          refine wp_region_ext (by kernel_rfl) (by kernel_rfl) ?_
          repeat (go_big_quiet_step ((first | (go_at_call 37; with_reducible exact sy1 _ _) | (go_at_call 37; with_reducible exact sy2 _ _) | (go_at_call 35; with_reducible exact eqs _ _) | (go_at_call 38; with_reducible exact be1 _ _) | (go_at_call 38; with_reducible exact be2 _ _) | (go_at_call 36; with_reducible exact sab _ _))))
          refine wpQuiet_nil ?_
          intro w2 hx2
          go_wp2
          go_ret
          exact ⟨by rw [HF.out]; rfl, HX.out.trans hx2⟩
        | true =>
          have HF : Hid (shFits ⟨cq, cl, cr⟩ ⟨cq, el, er⟩ d k = bc) := Lib.hid (by rw [HV.out, hb, hb2]; simp)
          have eqs := eqs'
          rw [hb2] at eqs
          clear HV eqs'
          go_enter Try.func19, Try.ntmps19
          go_wp2_with fail
          rw [← hW]
          rw [← hW] at p0 p1 p2 q0 q1 q2
          clear hW hg
          have r1 := cellR p1
          have r2 := cellR p2
          have s1 := cellR q1
          have s2 := cellR q2
          refine wp_region_ext (by kernel_rfl) (by kernel_rfl) ?_
          repeat (go_big_quiet_step ((first | (go_at_call 37; with_reducible exact sy1 _ _) | (go_at_call 37; with_reducible exact sy2 _ _) | (go_at_call 35; with_reducible exact eqs _ _) | (go_at_call 38; with_reducible exact be1 _ _) | (go_at_call 38; with_reducible exact be2 _ _) | (go_at_call 36; with_reducible exact sab _ _))))
          refine wpQuiet_nil ?_
          intro w2 hx2
          go_wp2
          go_ret
          exact ⟨by rw [HF.out]; rfl, HX.out.trans hx2⟩
  · have hqq : (cq != eq) = true := by simp [hq]
    have HF : Hid (shFits ⟨cq, cl, cr⟩ ⟨eq, el, er⟩ d k = false) := Lib.hid (by simp [shFits, hq])
    clear hq
    go_enter Try.func19, Try.ntmps19
    go_wp2_with fail
    go_wp2
    go_ret
    exact ⟨by rw [HF.out]; rfl, by rw [← hW]; exact HX.out⟩
end Go.Proofs.Ytpdnmhhieokogaa
