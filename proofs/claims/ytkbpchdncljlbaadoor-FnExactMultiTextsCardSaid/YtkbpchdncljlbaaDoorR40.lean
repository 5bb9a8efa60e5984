/- Contract of the reference's question about a number of steps.
Contract of the reference's texts of a run of a machine with several tapes.
Contracts of the laws' comparison of machines with several tapes. -/
import Derived.Test.YtkbpchdncljlbaaDoorR02
import Derived.Test.YtkbpchdncljlbaaDoorR21
import Derived.Test.YtkbpchdncljlbaaDoorR38
import Derived.Test.YtkbpchdncljlbaaDoorR39
import Derived.Test.YtkbpchdncljlbaaDoorR17
import Derived.Test.YtkbpchdncljlbaaDoorR08
section
set_option linter.unusedSimpArgs false
set_option linter.unusedVariables false
namespace Go.Proofs.YtkbpchdncljlbaaDoor
open Go Go.RowKit Go.Proofs
set_option maxHeartbeats 400000
theorem l19Steps_c (n : Int) (w : World) : Calls Tryd.prog 20 #[.int .i64 n] w fun e w' => e = .returned (.bool (inB n 0 599)) ∧ w = w' := by
  have hI := l00In_c n 0 599 w
  generalize inB n 0 599 = b at *
  go_enter Tryd.func20, Tryd.ntmps20
  go_wp2_with fail
  refine hI.mono ?_
  rintro e w' ⟨rfl, rfl⟩
  go_wp2
  go_ret
  exact ⟨rfl, rfl⟩
end Go.Proofs.YtkbpchdncljlbaaDoor
end
section
set_option linter.unusedVariables false
set_option linter.unusedSimpArgs false
namespace Go.Proofs.YtkbpchdncljlbaaDoor
open Go Go.RowKit Go.Proofs Go.Maps
set_option maxHeartbeats 400000
/-- Tapes stay where a row of another kind grows. -/
theorem OwnT.grown {base base' n : Nat} {w w' : World} {v tv : Value} {ts : List TapeD} {xs : List Value} {e : TypeId} {size : Nat} (h : OwnT base w v ts) (ho : w.ownsRow base' e size tv n xs) (hg : w.grownBy w' tv.ownBlock) (h1 : 79 ≠ e) (h2 : 2 ≠ e) : OwnT base w' v ts := by
  obtain ⟨cl, a, b⟩ := h
  refine ⟨cl, own_same a (fun g hgv => ?_), b.same fun g cs hb => hg.block g hb.lt (blk_ne_row hb ho h2)⟩
  rcases a.2 with ⟨rfl, _⟩ | ⟨g', cap, cur, rfl, _, hh, _⟩
  · simp [Value.ownBlock] at hgv
  · simp [Value.ownBlock] at hgv
    subst hgv
    have hb : Blk w g' 79 cur := hh
    exact hg.block g' hb.lt (blk_ne_row hb ho h1)
theorem OwnT.base {base base' : Nat} {w : World} {v : Value} {ts : List TapeD} (h : OwnT base w v ts) (hb : base' ≤ base) : OwnT base' w v ts := by
  obtain ⟨cl, p1, p2⟩ := h
  exact ⟨cl, ownsRow_base p1 hb, p2.1, fun i hi => by
    obtain ⟨x, y, c0, c1, o1, o2⟩ := p2.2 i hi
    exact ⟨x, y, c0, c1, ownsRow_base o1 hb, ownsRow_base o2 hb⟩⟩
/-- How far the reference's texts of a run have come. -/
structure TxS (w0 : World) (m : MultiD) (ws : List (List Int)) (g gc : Nat) (A : Option Addr) (cA N i : Nat) (tv : Value) (w : World) : Prop where
  le : i ≤ N
  runs : MRuns m.rules (startM ws) i
  ext : Ext w0 w
  blk : Blk w g 33 #[.int .i64 m.tp, .int .i64 m.sy, .int .i64 m.st, .slice A m.rules.length cA]
  cfg : ∃ vt, Blk w gc 50 #[.int .i64 (cfgM m.rules (startM ws) i).q, vt] ∧ OwnT w0.heap.size w vt (cfgM m.rules (startM ws) i).tapes
  own : w.ownsRow w0.heap.size 9 1 tv (i + 1) (svB (firstM m.rules (startM ws) (i + 1)))
set_option maxRecDepth 20000 in
set_option maxHeartbeats 4000000 in
theorem MultiTextsS_c (m : MultiD) (mv wv : Value) (ws : List (List Int)) (vs : List Value) (n : Int) (w : World) (hM : Mult w mv m) (hW : Row w 1 wv ws.length vs) (hI : ∀ i, (h : i < ws.length) → ∃ u, vs[i]? = some u ∧ Ints w u ws[i] ∧ ws[i].length ≤ 1048576) :
    Calls Tryd.prog 6 #[mv, wv, .int .i64 n] w fun e w' => MTOut w m ws n e w' ∧ Ext w w' := by
  obtain ⟨rv, rfl, hR⟩ := id hM
  obtain ⟨A, cA, rfl, _, _⟩ := hR.form
  obtain ⟨B, cB, rfl, hB1, hB2, hvl⟩ := hW.form
  obtain ⟨i0, hi0, hz0, hz1, hz2⟩ := info_parts strInfoV
  obtain ⟨g, hg⟩ : ∃ g, w.heap.size = g := ⟨_, rfl⟩
  obtain ⟨V, hV⟩ : ∃ V, V = w.alloc (.cells #[.int .i64 m.tp, .int .i64 m.sy, .int .i64 m.st, .slice A m.rules.length cA] 33) := ⟨_, rfl⟩
  have hX : Ext w V := by rw [hV]; exact Ext.alloc _ _
  have bM : Blk V g 33 #[.int .i64 m.tp, .int .i64 m.sy, .int .i64 m.st, .slice A m.rules.length cA] := by rw [hV]; exact Blk.new _ _ _ _ hg
  have VM := l06Is_c g m _ V bM (hR.ext hX)
  cases hm : multiOk m with
  | false =>
    rw [hm] at VM
    have HR : Hid (MTR m ws n [] 1) := .inl ⟨hm, rfl, rfl⟩
    clear hm
    go_enter Tryd.func6, Tryd.ntmps6
    go_wp2_with fail
    try rw [← hV]
    try rw [hg]
    clear hV
    refine VM.mono ?_
    rintro e w1 ⟨rfl, hx1⟩
    have HX := Lib.hid (hX.trans hx1)
    go_wp2_with fail
    exact bodyPost_ret (v := .tuple #[.slice none 0 0, .int .i64 1]) (by simp [results, Tryd.results6, go_sem]) rfl ⟨⟨[], 1, _, rfl, HR.out, World.ownsRow_nil ..⟩, HX.out⟩
  | true =>
    rw [hm] at VM
    have HVM := Lib.hid hm
    clear hm
    have TC := fun w => l19Steps_c n w
    cases hbn : inB n 0 599 with
    | false =>
      simp only [hbn] at TC
      have HR : Hid (MTR m ws n [] 2) := .inr (.inl ⟨HVM.out, fun h => (by rw [hbn] at h; cases h.1), rfl, rfl⟩)
      clear hbn
      go_enter Tryd.func6, Tryd.ntmps6
      go_wp2_with fail
      try rw [← hV]
      try rw [hg]
      clear hV
      refine VM.mono ?_
      rintro e w1 ⟨rfl, hx1⟩
      have HX := Lib.hid (hX.trans hx1)
      go_wp2_with fail
      refine (TC w1).mono ?_
      rintro e _ ⟨rfl, rfl⟩
      go_wp2_with fail
      exact bodyPost_ret (v := .tuple #[.slice none 0 0, .int .i64 2]) (by simp [results, Tryd.results6, go_sem]) rfl ⟨⟨[], 2, _, rfl, HR.out, World.ownsRow_nil ..⟩, HX.out⟩
    | true =>
      simp only [hbn] at TC
      have HBN := Lib.hid hbn
      clear hbn
      go_enter Tryd.func6, Tryd.ntmps6
      go_wp2_with fail
      try rw [← hV]
      try rw [hg]
      clear hV
      refine VM.mono ?_
      rintro e w1 ⟨rfl, hx1⟩
      have bM1 := bM.ext hx1
      have hX1 := hX.trans hx1
      clear VM
      go_wp2_with fail
      refine (TC w1).mono ?_
      rintro e _ ⟨rfl, rfl⟩
      have m0 := bM1.cell 0
      have m1 := bM1.cell 1
      have m2 := bM1.cell 2
      have m3 := bM1.cell 3
      simp only [List.getElem?_toArray, List.getElem?_cons_zero, List.getElem?_cons_succ] at m0 m1 m2 m3
      have SM := StartMultiS_c m (.agg #[.int .i64 m.tp, .int .i64 m.sy, .int .i64 m.st, .slice A m.rules.length cA]) (.slice B ws.length cB) ws vs w1 (hM.ext hX1) (hW.ext hX1) (fun i hi => by
        obtain ⟨u, e, iu, hl⟩ := hI i hi
        exact ⟨u, e, iu.ext hX1, hl⟩)
      clear hI hW TC
      go_wp2_with fail
      refine SM.mono ?_
      rintro e w2 ⟨hS | hS | hS, hx2⟩
      · exact absurd hS.1 (by rw [HVM.out]; simp)
      · obtain ⟨_, hno, rfl⟩ := hS
        have HNO : Hid (MTR m ws n [] 2) := .inr (.inl ⟨HVM.out, fun h => hno h.2, rfl, rfl⟩)
        have HX := Lib.hid ((hX1.trans hx2).trans (Ext.alloc w2 (.cells #[.int .i64 0, .slice none 0 0] 50)))
        clear SM hno
        go_wp2_with fail
        refine bodyPost_ret (v := .tuple #[.slice none 0 0, .int .i64 2]) (by simp [results, Tryd.results6, go_sem]) rfl ⟨⟨[], 2, _, rfl, HNO.out, World.ownsRow_nil ..⟩, HX.out⟩
      · obtain ⟨_, hn, hwo, v, rfl, hT⟩ := hS
        obtain ⟨⟨tp1, tp2⟩, ⟨sy1, sy2⟩, ⟨st1, st2⟩, _⟩ := multi_all HVM.out
        have hml : (ws.map startT).length = ws.length := by simp
        have hts := start_ok sy1 hwo
        have hsq : inB (startM ws).q 0 (m.st - 1) = true := inB_iff.2 ⟨by show (0 : Int) ≤ 0; omega, by show (0 : Int) ≤ m.st - 1; omega⟩
        have hsn : ((startM ws).tapes.length : Int) = m.tp := by show (((ws.map startT).length : Nat) : Int) = m.tp; rw [hml]; exact hn
        have hroom := room_of_ok hts
        have HDG : Hid (∀ i, MRuns m.rules (startM ws) i → MDig (cfgM m.rules (startM ws) i) ∧ ((cfgM m.rules (startM ws) i).tapes.length : Int) = m.tp ∧ ∀ t ∈ (cfgM m.rules (startM ws) i).tapes, t.l.length ≤ 1000 ∧ t.r.length ≤ 1000) := Lib.hid fun i hr => by
          obtain ⟨a, b⟩ := cfg_ok HVM.out hsq hsn hts i hr
          have hl : ((cfgM m.rules (startM ws) i).tapes.length : Int) = m.tp := by rw [cfgM_tapes]; exact hsn
          have hD := digs_of HVM.out a hl b
          exact ⟨hD, hl, fun t ht => by have := hD.t t ht; omega⟩
        obtain ⟨N, hN⟩ : ∃ N : Nat, n = (N : Int) := ⟨n.toNat, by have := (inB_iff.1 HBN.out).1; omega⟩
        have hN2 : N ≤ 599 := by have := (inB_iff.1 HBN.out).2; omega
        have HNT : Hid (n.toNat = N) := by unfold Hid; rw [hN]; simp
        have HCND : Hid (inB n 0 599 = true ∧ (ws.length : Int) = m.tp ∧ ws.all (wordOk m) = true) := ⟨HBN.out, hn, hwo⟩
        obtain ⟨gc, hgc⟩ : ∃ bc, w2.heap.size = bc := ⟨_, rfl⟩
        obtain ⟨W3, hW3⟩ : ∃ W3, W3 = w2.alloc (.cells #[.int .i64 0, v] 50) := ⟨_, rfl⟩
        have hX3 : Ext w2 W3 := by rw [hW3]; exact Ext.alloc _ _
        have bC3 : Blk W3 gc 50 #[.int .i64 0, v] := by rw [hW3]; exact Blk.new _ _ _ _ hgc
        have hT3 := hT.ext hX3
        have c0 := bC3.cell 0
        have c1 := bC3.cell 1
        simp only [List.getElem?_toArray, List.getElem?_cons_zero, List.getElem?_cons_succ] at c0 c1
        have D0 := HDG.out 0 (MRuns.zero hroom)
        have LM := l19Multi_c gc (startM ws) v W3 c0 c1 hT3.tapes D0.1
        obtain ⟨Av, cv, rfl, _, _⟩ := hT.form
        have bM3 := bM1.ext (hx2.trans hX3)
        have hX03 := hX1.trans (hx2.trans hX3)
        have HRZ : Hid (MRuns m.rules (startM ws) 0) := MRuns.zero hroom
        have hw1s := hX1.size
        have hgw : w.heap.size ≤ gc := by rw [← hgc]; exact (hX1.trans hx2).size
        have hggc : g < gc := by rw [← hgc]; exact (bM1.ext hx2).lt
        rw [hml] at hW3
        subst hN
        clear SM hT c0 c1 D0 hts hsq hsn hroom hml hX3
        go_wp2_with fail
        try rw [← hW3]
        try rw [hgc]
        clear hW3 m0 m1 m2 m3
        refine LM.mono ?_
        rintro e w4 ⟨rfl, hx4⟩
        obtain ⟨W5, hW5⟩ : ∃ W5, W5 = w4.alloc (.cells #[.string (bsS (mconT (startM ws)))] 9) := ⟨_, rfl⟩
        have e5 : Ext w4 W5 := by rw [hW5]; exact Ext.alloc _ _
        have bS5 : Blk W5 w4.heap.size 9 #[.string (bsS (mconT (startM ws)))] := by rw [hW5]; exact Blk.new _ _ _ _ rfl
        have hX04 := hX03.trans hx4
        have st0 : TxS w m ws g gc A cA N 0 (.slice (some ⟨w4.heap.size, 0, none⟩) 1 1) W5 :=
          ⟨Nat.zero_le _, HRZ.out, hX04.trans e5, bM3.ext (hx4.trans e5), ⟨_, bC3.ext (hx4.trans e5), (hT3.ext (hx4.trans e5)).base hw1s⟩, ownsRow_blk 1 1 bS5 hX04.size rfl (by omega)⟩
        clear LM bS5 bC3 hT3 bM3 hX04 hX03 hx4 e5 bM1 hX1
        go_wp2_with fail
        try rw [← hW5]
        clear hW5
        go_loopw [2, 10] (fun u tv wr => ∃ (i r : Nat), N = i + r ∧ u = .int .i64 (r : Int) ∧ TxS w m ws g gc A cA N i tv wr) (fun u _ _ => (intOf u).toNat)
        case atStart => exact ⟨0, N, by omega, rfl, st0⟩
        case round =>
          clear st0
          obtain ⟨i, r, hNi, rfl, st⟩ := hrel
          obtain ⟨At, ct, rfl, _, _, _⟩ := (ownsRow_row st.own).form
          obtain ⟨vt, bC, hTt⟩ := st.cfg
          obtain ⟨Av, cv, rfl, _, _⟩ := hTt.form
          obtain ⟨dg, dn, dl⟩ := HDG.out i st.runs
          have hx := st.ext
          have bMr := st.blk
          have own := st.own
          have HRN := Lib.hid st.runs
          have HLE := Lib.hid st.le
          have HLN : Hid ((firstM m.rules (startM ws) (i + 1)).length = i + 1) := by unfold Hid; simp [firstM]
          have HFM := Lib.hid (firstM_svB m.rules (startM ws) (i + 1))
          have HCS : Hid (cfgM m.rules (startM ws) (i + 1) = stepM m.rules (cfgM m.rules (startM ws) i)) := rfl
          obtain ⟨ci, hci⟩ : ∃ c, cfgM m.rules (startM ws) i = c := ⟨_, rfl⟩
          rw [hci] at bC hTt dg dn dl HCS
          have HCI := Lib.hid hci
          have q0 := bC.cell 0
          have q1 := bC.cell 1
          simp only [List.getElem?_toArray, List.getElem?_cons_zero, List.getElem?_cons_succ] at q0 q1
          have hend : Hid (∀ x, Ext wr x → (i = N ∨ lookM m.rules ci = none) → MTOut w m ws (N : Int) (.returned (.tuple #[.slice At (i + 1) ct, .int .i64 0])) x) := Lib.hid fun x hxx h =>
            ⟨firstM m.rules (startM ws) (i + 1), 0, _, rfl, .inr (.inr ⟨HVM.out, HCND.out, .inl ⟨i, by rw [HNT.out]; exact ⟨HRN.out, HLE.out, by rw [HCI.out]; exact h⟩, rfl, rfl⟩⟩), by rw [HLN.out]; exact ownsRow_ext own hxx⟩
          have HX := Lib.hid hx
          have HNI := Lib.hid hNi
          clear hci st hNi
          cases r with
          | zero =>
            have HE := Lib.hid (hend.out wr (Ext.refl _) (.inl (by have := HNI.out; omega)))
            go_wp2_with fail
            exact bodyPost_ret (v := .tuple #[.slice At (i + 1) ct, .int .i64 0]) (by simp [results, Tryd.results6, go_sem]) rfl ⟨HE.out, HX.out⟩
          | succ r =>
            have hpos : (0 : Int) < ((r + 1 : Nat) : Int) := by omega
            have RU := l06Rule_c g gc m ci _ _ wr HVM.out dn bMr (hR.ext hx) q0 q1 hTt.tapes
            cases hlk : lookM m.rules ci with
            | none =>
              rw [hlk] at RU
              simp only [ixOf] at RU
              have HLK := Lib.hid hlk
              clear own hlk
              go_wp2_with fail
              refine RU.mono ?_
              rintro e w5 ⟨rfl, hx5⟩
              have HE := Lib.hid (hend.out w5 hx5 (.inr HLK.out))
              have HX5 := Lib.hid (HX.out.trans hx5)
              go_wp2_with fail
              exact bodyPost_ret (v := .tuple #[.slice At (i + 1) ct, .int .i64 0]) (by simp [results, Tryd.results6, go_sem]) rfl ⟨HE.out, HX5.out⟩
            | some j =>
              rw [hlk] at RU
              simp only [ixOf] at RU
              clear hend
              go_wp2_with fail
              refine RU.mono ?_
              rintro e w5 ⟨rfl, hx5⟩
              have hx05 := hx.trans hx5
              have bC5 := bC.ext hx5
              have q0 := bC5.cell 0
              have q1 := bC5.cell 1
              simp only [List.getElem?_toArray, List.getElem?_cons_zero, List.getElem?_cons_succ] at q0 q1
              have ST := l06Step_c g gc m ci _ _ w5 HVM.out dn (bMr.ext hx5) (hR.ext hx05) q0 q1 (hTt.ext hx5).tapes dl
              have hj0 : decide ((0 : Int) ≤ (j : Int)) = true := decide_eq_true (by omega)
              go_wp2_with fail
              refine ST.mono ?_
              rintro e w6 ⟨hS | ⟨k, hk, hr6, rfl⟩ | ⟨k, A6, c6, hk, hr6, rfl, hT6⟩, hx6⟩
              · exact absurd hS.1 (by rw [hlk]; simp)
              · have HR : Hid (MTR m ws (N : Int) [] 5) := .inr (.inr ⟨HVM.out, HCND.out, .inr ⟨i + 1, by
                  rw [HNT.out]
                  refine ⟨by omega, HRN.out, by have := HNI.out; omega, by show lookM m.rules (cfgM m.rules (startM ws) i) ≠ none; rw [HCI.out, hlk]; simp, ?_⟩
                  rw [HCS.out, step_some hk]
                  exact hr6, rfl, rfl⟩⟩)
                have HX6 := Lib.hid ((hx05.trans hx6).trans (Ext.alloc w6 (.cells #[.int .i64 0, .slice none 0 0] 50)))
                clear ST RU
                go_wp2_with fail
                exact bodyPost_ret (v := .tuple #[.slice none 0 0, .int .i64 5]) (by simp [results, Tryd.results6, go_sem]) rfl ⟨⟨[], 5, _, rfl, HR.out, World.ownsRow_nil ..⟩, HX6.out⟩
              · obtain ⟨cn, hcn⟩ : ∃ c, applyM ci (m.rules.getD k mr0) = c := ⟨_, rfl⟩
                rw [hcn] at hr6 hT6
                try rw [hcn]
                have HCN : Hid (cfgM m.rules (startM ws) (i + 1) = cn) := by unfold Hid; rw [HCS.out, step_some hk]; exact hcn
                have HRN1 : Hid (MRuns m.rules (startM ws) (i + 1)) := HRN.out.succ (by rw [HCI.out, hlk]; simp) (by rw [HCN.out]; exact hr6)
                obtain ⟨nt, hnt⟩ : ∃ n, ci.tapes.length = n := ⟨_, rfl⟩
                have HNL : Hid (cn.tapes.length = nt) := by unfold Hid; rw [← hcn, ← hnt]; exact writeAll_length _ _ _
                rw [hnt] at hT6
                try rw [hnt]
                obtain ⟨qn, hqn⟩ : ∃ q, cn.q = q := ⟨_, rfl⟩
                try rw [hqn]
                have HQN := Lib.hid hqn
                have bC6 := bC5.ext hx6
                have bM6 := (bMr.ext hx5).ext hx6
                have own6 := ownsRow_ext own (hx5.trans hx6)
                have hx06 := hx05.trans hx6
                have e0 := bC6.cell 0
                have e1 := bC6.cell 1
                have ef := bC6.frozen
                simp only [List.getElem?_toArray, List.getElem?_cons_zero, List.getElem?_cons_succ] at e0 e1
                have hgl : gc < w6.heap.size := bC6.lt
                obtain ⟨W6, hW6⟩ : ∃ x, x = (w6.setCell ⟨gc, 0, none⟩ (.int .i64 qn)).setCell ⟨gc, 1, none⟩ (.slice A6 nt c6) := ⟨_, rfl⟩
                obtain ⟨W7, hW7⟩ : ∃ x, x = W6.alloc (.cells #[.int .i64 qn, .slice A6 nt c6] 50) := ⟨_, rfl⟩
                have hX7 : Ext W6 W7 := by rw [hW7]; exact Ext.alloc _ _
                have bC7 : Blk W7 gc 50 #[.int .i64 qn, .slice A6 nt c6] := by
                  have : Blk W6 gc 50 #[.int .i64 qn, .slice A6 nt c6] := by rw [hW6]; exact (bC6.set_ 0 (.int .i64 qn)).set_ 1 (.slice A6 nt c6)
                  exact this.ext hX7
                have bM7 : Blk W7 g 33 #[.int .i64 m.tp, .int .i64 m.sy, .int .i64 m.st, .slice A m.rules.length cA] := by
                  have : Blk W6 g 33 #[.int .i64 m.tp, .int .i64 m.sy, .int .i64 m.st, .slice A m.rules.length cA] := by
                    rw [hW6]
                    exact (bM6.far (p := ⟨gc, 0, none⟩) (by show g ≠ gc; omega) _).far (p := ⟨gc, 1, none⟩) (by show g ≠ gc; omega) _
                  exact this.ext hX7
                have hT7 : OwnT w.heap.size W7 (.slice A6 nt c6) cn.tapes := by
                  have : OwnT w5.heap.size W6 (.slice A6 nt c6) cn.tapes := by
                    rw [hW6]
                    exact (hT6.far bC6 (by decide) (by decide) 0 _).far (bC6.set_ 0 _) (by decide) (by decide) 1 _
                  exact (this.ext hX7).base hx05.size
                have own7 : W7.ownsRow w.heap.size 9 1 (.slice At (i + 1) ct) (i + 1) (svB (firstM m.rules (startM ws) (i + 1))) := by
                  have hne := blk_ne_row bC6 own6 (by decide)
                  have : W6.ownsRow w.heap.size 9 1 (.slice At (i + 1) ct) (i + 1) (svB (firstM m.rules (startM ws) (i + 1))) := by
                    rw [hW6]
                    exact own_kept (own_kept own6 (grownBy_setCell w6 ⟨gc, 0, none⟩ _) hne) (grownBy_setCell _ ⟨gc, 1, none⟩ _) hne
                  exact ownsRow_ext this hX7
                have hx07 : Ext w W7 := by
                  have : Ext w W6 := by
                    rw [hW6]
                    exact (hx06.setCell (p := ⟨gc, 0, none⟩) hgw _).setCell (p := ⟨gc, 1, none⟩) hgw _
                  exact this.trans hX7
                have D1 := (HDG.out (i + 1) HRN1.out).1
                rw [HCN.out] at D1
                have z0 := bC7.cell 0
                have z1 := bC7.cell 1
                simp only [List.getElem?_toArray, List.getElem?_cons_zero, List.getElem?_cons_succ] at z0 z1
                rw [← hqn] at z0
                have LM := l19Multi_c gc cn _ W7 z0 z1 hT7.tapes D1
                rw [hW6] at hW7
                have HFT : Hid (svB (firstM m.rules (startM ws) (i + 1 + 1)) = svB (firstM m.rules (startM ws) (i + 1)) ++ [.string (bsS (mconT cn))]) := by unfold Hid; rw [HFM.out, HCN.out]
                clear ST RU q0 q1 hcn hqn hk hlk hr6 hT6 hnt z0 z1 D1 hW6 hX7 HFM
                go_wp2_with fail
                try rw [← hW7]
                clear hW7 e0 e1 ef bC6 bM6 own6 hx06
                refine LM.mono ?_
                rintro e w8 ⟨rfl, hx8⟩
                have own8 := ownsRow_ext own7 hx8
                have hs8 := (hx07.trans hx8).size
                clear LM
                have hi600 : i ≤ 600 := by have := HLE.out; omega
                have hr600 : r ≤ 600 := by have := HNI.out; omega
                go_wp2_with (at_builtin; refine wpList_append_own_at _ rfl _ _ 28 rfl w.heap.size 9 i0 (.string ⟨#[]⟩) 1 16 Tryd.underlying28 hi0 hz0 hz1 hz2 rfl (by decide) _ _ _ rfl (ownsRow_ext own8 (Ext.alloc _ _)) ⟨w8.heap.size, 0, none⟩ 1 1 [.string (bsS (mconT cn))] rfl rfl (World.news_of_block (heap_alloc_new w8 _)) ?c2 ?c3 ?c4 ?c5 ?_)
                case c2 => intro u hu; simp at hu; subst hu; rfl
                case c3 => unfold maxLen; omega
                case c4 => omega
                case c5 => have := (Ext.alloc w8 (.cells #[.string (bsS (mconT cn))] 9)).size; omega
                intro v' w9 hown9 hg9 _ _
                obtain ⟨A9, c9, rfl, _, _, _⟩ := (ownsRow_row hown9).form
                have eA := Ext.alloc w8 (.cells #[.string (bsS (mconT cn))] 9)
                have own9 := ownsRow_ext own8 eA
                have st9 : TxS w m ws g gc A cA N (i + 1) (.slice A9 (i + 1 + 1) c9) w9 := by
                  refine ⟨by have := HNI.out; omega, HRN1.out, ((hx07.trans hx8).trans eA).grown hg9 (fun q hq => (own9.lt q hq).1), Blk.apart ((bM7.ext hx8).ext eA) own9 (by decide) hg9, ⟨.slice A6 nt c6, ?_, ?_⟩, ?_⟩
                  · rw [HCN.out, HQN.out]
                    exact Blk.apart ((bC7.ext hx8).ext eA) own9 (by decide) hg9
                  · rw [HCN.out]
                    exact ((hT7.ext hx8).ext eA).grown own9 hg9 (by decide) (by decide)
                  · rw [HFT.out, hg]
                    exact hown9
                have HST := Lib.hid st9
                clear st9 own9 eA hown9 hg9 own8 hs8 own7 hT7 bM7 bC7 hx07 hx8 own
                go_wp2_with fail
                go_roundw
                case rel => exact ⟨i + 1, r, by have := HNI.out; omega, by go_num, HST.out⟩
                case measure => simp [intOf]
end Go.Proofs.YtkbpchdncljlbaaDoor
end
section
set_option linter.unusedVariables false
set_option linter.unusedSimpArgs false
namespace Go.Proofs.YtkbpchdncljlbaaDoor
open Go Go.RowKit Go.Proofs
set_option maxHeartbeats 400000
/-- A machine with several tapes is compared with itself. -/
theorem eqMultiRule_c (u v : Value) (r : MRuleD) (w : World) (ha : MRul w u r) (hb : MRul w v r) :
    Calls Tryd.prog 66 #[u, v] w fun e w' => e = .returned (.bool true) ∧ Ext w w' := by
  obtain ⟨vr, vw, vm, rfl, i1, i2, i3⟩ := ha
  obtain ⟨ur, uw, um, rfl, j1, j2, j3⟩ := hb
  obtain ⟨g, hg⟩ : ∃ g, w.heap.size = g := ⟨_, rfl⟩
  obtain ⟨W, hW⟩ : ∃ W, W = (w.alloc (.cells #[.int .i64 r.st, vr, vw, vm, .int .i64 r.nx] 74)).alloc (.cells #[.int .i64 r.st, ur, uw, um, .int .i64 r.nx] 74) := ⟨_, rfl⟩
  have hX : Ext w W := by rw [hW]; exact (Ext.alloc _ _).trans (Ext.alloc _ _)
  have bA : Blk W g 74 #[.int .i64 r.st, vr, vw, vm, .int .i64 r.nx] := by rw [hW]; exact (Blk.new _ _ _ _ hg).alloc _
  have bB : Blk W (g + 1) 74 #[.int .i64 r.st, ur, uw, um, .int .i64 r.nx] := by rw [hW]; exact Blk.new _ _ _ _ (by simp [hg])
  have Q1 := fun w1 (h : Ext W w1) => eqInt64S_c w1 _ _ _ _ ((i1.ext hX).ext h) ((j1.ext hX).ext h)
  have Q2 := fun w1 (h : Ext W w1) => eqInt64S_c w1 _ _ _ _ ((i2.ext hX).ext h) ((j2.ext hX).ext h)
  have Q3 := fun w1 (h : Ext W w1) => eqInt64S_c w1 _ _ _ _ ((i3.ext hX).ext h) ((j3.ext hX).ext h)
  have L1 : lEq r.rd r.rd = true := lEq_true rfl
  have L2 : lEq r.wr r.wr = true := lEq_true rfl
  have L3 : lEq r.mv r.mv = true := lEq_true rfl
  rw [L1] at Q1
  rw [L2] at Q2
  rw [L3] at Q3
  have hst : (r.st != r.st) = false := by simp
  have hnx : (r.nx != r.nx) = false := by simp
  have CA := fun w1 (h : Ext W w1) => (bA.ext h).cell
  have CB := fun w1 (h : Ext W w1) => (bB.ext h).cell
  have a0 := CA W (Ext.refl _) 0
  have a1 := CA W (Ext.refl _) 1
  have b0 := CB W (Ext.refl _) 0
  have b1 := CB W (Ext.refl _) 1
  simp only [List.getElem?_toArray, List.getElem?_cons_zero, List.getElem?_cons_succ] at a0 a1 b0 b1
  have HX := Lib.hid hX
  clear hX bA bB i1 i2 i3 j1 j2 j3 L1 L2 L3
  go_enter Tryd.func66, Tryd.ntmps66
  go_wp2_with fail
  try rw [← hW]
  try rw [hg]
  clear hW
  refine (Q1 W (Ext.refl _)).mono ?_
  rintro e w1 ⟨rfl, hx1⟩
  have a2 := CA w1 hx1 2
  have b2 := CB w1 hx1 2
  simp only [List.getElem?_toArray, List.getElem?_cons_zero, List.getElem?_cons_succ] at a2 b2
  clear a0 a1 b0 b1
  go_wp2_with fail
  refine (Q2 w1 hx1).mono ?_
  rintro e w2 ⟨rfl, hx2⟩
  have hx12 := hx1.trans hx2
  have a3 := CA w2 hx12 3
  have b3 := CB w2 hx12 3
  simp only [List.getElem?_toArray, List.getElem?_cons_zero, List.getElem?_cons_succ] at a3 b3
  clear a2 b2
  go_wp2_with fail
  refine (Q3 w2 hx12).mono ?_
  rintro e w3 ⟨rfl, hx3⟩
  have hx13 := hx12.trans hx3
  have a4 := CA w3 hx13 4
  have b4 := CB w3 hx13 4
  simp only [List.getElem?_toArray, List.getElem?_cons_zero, List.getElem?_cons_succ] at a4 b4
  clear a3 b3
  go_wp2
  go_ret
  exact ⟨rfl, HX.out.trans hx13⟩
theorem eqMultiRuleS_c (u v : Value) (rs : List MRuleD) (w : World) (ha : MRules w u rs) (hb : MRules w v rs) :
    Calls Tryd.prog 33 #[u, v] w fun e w' => e = .returned (.bool true) ∧ Ext w w' := by
  obtain ⟨A, ca, rfl, h1, h1'⟩ := ha.form
  obtain ⟨B, cb, rfl, h2, h2'⟩ := hb.form
  have hl1 : ((rs.length : Int) != (rs.length : Int)) = false := by simp
  go_enter Tryd.func33, Tryd.ntmps33
  go_wp2
  go_loopw [5] (fun i wr => ∃ k : Nat, k ≤ rs.length ∧ i = .int .i64 k ∧ Ext w wr) (fun i _ => rs.length - (intOf i).toNat)
  case atStart => exact ⟨0, Nat.zero_le _, rfl, Ext.refl _⟩
  case round =>
    obtain ⟨k, hk, rfl, hx⟩ := hrel
    by_cases hlt : k < rs.length
    · obtain ⟨b, off, vr, vw, vm, rfl, c0, c1, c2, c3, c4, i1, i2, i3⟩ := ha.at hlt
      obtain ⟨b', off', ur, uw, um, rfl, d0, d1, d2, d3, d4, j1, j2, j3⟩ := hb.at hlt
      have c0 := cellR (hx.cell c0)
      have c1 := cellR (hx.cell c1)
      have c2 := cellR (hx.cell c2)
      have c3 := cellR (hx.cell c3)
      have c4 := cellR (hx.cell c4)
      have d0 := cellR (hx.cell d0)
      have d1 := cellR (hx.cell d1)
      have d2 := cellR (hx.cell d2)
      have d3 := cellR (hx.cell d3)
      have d4 := cellR (hx.cell d4)
      have EQ := fun d os => eqMultiRule_c (.agg #[.int .i64 rs[k].st, vr, vw, vm, .int .i64 rs[k].nx]) (.agg #[.int .i64 rs[k].st, ur, uw, um, .int .i64 rs[k].nx]) rs[k] (Sort.grow (redrawn wr d) os) ⟨vr, vw, vm, rfl, (i1.ext hx).ext (below_regrown _ _ _), (i2.ext hx).ext (below_regrown _ _ _), (i3.ext hx).ext (below_regrown _ _ _)⟩ ⟨ur, uw, um, rfl, (j1.ext hx).ext (below_regrown _ _ _), (j2.ext hx).ext (below_regrown _ _ _), (j3.ext hx).ext (below_regrown _ _ _)⟩
      clear ha hb i1 i2 i3 j1 j2 j3
      generalize rs[k] = y at *
      go_wp2
      refine wp_region_ext (by kernel_rfl) (by kernel_rfl) ?_
      repeat (go_big_quiet_step ((go_at_call 66; with_reducible exact Calls.extR (EQ _ _))))
      refine wpQuiet_nil ?_
      intro w2 hx2
      go_wp2
      go_roundw
      case rel => exact ⟨k + 1, by omega, by go_num, hx.trans hx2⟩
      case measure => simp [intOf]; omega
    · go_wp2
      go_ret
      exact ⟨rfl, hx⟩
theorem eqMulti_c (u v : Value) (m : MultiD) (w : World) (ha : Mult w u m) (hb : Mult w v m) :
    Calls Tryd.prog 11 #[u, v] w fun e w' => e = .returned (.bool true) ∧ Ext w w' := by
  obtain ⟨ra, rfl, ha⟩ := ha
  obtain ⟨rb, rfl, hb⟩ := hb
  have hx0 := (Ext.alloc w (.cells #[.int .i64 m.tp, .int .i64 m.sy, .int .i64 m.st, ra] 33)).trans (Ext.alloc _ (.cells #[.int .i64 m.tp, .int .i64 m.sy, .int .i64 m.st, rb] 33))
  have ES := eqMultiRuleS_c _ _ _ _ (ha.ext hx0) (hb.ext hx0)
  have h1 : (m.tp != m.tp) = false := by simp
  have h2 : (m.sy != m.sy) = false := by simp
  have h3 : (m.st != m.st) = false := by simp
  go_enter Tryd.func11, Tryd.ntmps11
  go_wp2_with fail
  refine ES.mono ?_
  rintro e w1 ⟨rfl, hx1⟩
  go_wp2
  go_ret
  exact ⟨rfl, hx0.trans hx1⟩
end Go.Proofs.YtkbpchdncljlbaaDoor
end
