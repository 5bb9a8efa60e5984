/- Contracts: two formula tapes of one shape; how a formula tape has grown against itself.
Contract: the reference's judgement of a formula tape whose lists are in order: whether the head is.
Contracts: how a formula tape has grown against itself. -/
import Derived.Test.YtnflhpgkffiloaaDoorF22
section
set_option linter.unusedSimpArgs false
set_option linter.unusedVariables false
namespace Go.Proofs.YtnflhpgkffiloaaDoor
open Go Go.RowKit Go.Proofs
set_option maxHeartbeats 400000
abbrev QCalF (f : FuncId) (args : Array Value) (W : World) (v : Value) : Prop := ∀ (d : Nat) (os : Array Obj), Calls Tryd.prog f args (Sort.grow (redrawn W d) os) fun e w'' => e = .returned v ∧ ∃ p : Regrown, w'' = Sort.grow (redrawn W p.d) p.os
theorem EqualFunc_c (u v : Value) (xss : List (List Int)) (w : World) (ha : Lists w u xss) (hb : Lists w v xss) :
    Calls Tryd.prog 71 #[u, v, .func (.func 72) #[] #[]] w fun e w' => e = .returned (.bool true) ∧ Ext w w' := by
  obtain ⟨A, ca, rfl, h1, h1'⟩ := ha.form
  obtain ⟨B, cb, rfl, h2, h2'⟩ := hb.form
  have hl : ((xss.length : Int) != (xss.length : Int)) = false := by simp
  go_enter Tryd.func71, Tryd.ntmps71
  go_wp2_with fail
  go_loopw [17] (fun i wr => ∃ k : Nat, k ≤ xss.length ∧ i = .int .i64 (k : Int) ∧ Ext w wr) (fun i _ => xss.length - (intOf i).toNat)
  case atStart => exact ⟨0, Nat.zero_le _, rfl, Ext.refl _⟩
  case round =>
    obtain ⟨k, hk, rfl, hx⟩ := hrel
    by_cases hlt : k < xss.length
    · have hdl : decide ((k : Int) < (xss.length : Int)) = true := decide_eq_true (by omega)
      obtain ⟨b1, o1, u1, hA, c1, i1, _⟩ := Lists.at (ha.ext hx) hlt
      subst hA
      obtain ⟨b2, o2, u2, hB, c2, i2, _⟩ := Lists.at (hb.ext hx) hlt
      subst hB
      have SE := slicesEqual_c wr u1 u2 _ _ i1 i2
      rw [lEq_true rfl] at SE
      obtain ⟨A1, c1', rfl, _, _⟩ := i1.form
      obtain ⟨A2, c2', rfl, _, _⟩ := i2.form
      have HX := Lib.hid hx
      clear i1 i2 hx
      go_wp2_with fail
      refine SE.mono ?_
      rintro e w2 ⟨rfl, hx2⟩
      clear SE
      have HX2 := Lib.hid hx2
      clear hx2
      go_wp2
      go_roundw
      case rel => exact ⟨k + 1, by omega, by go_num, HX.out.trans HX2.out⟩
      case measure => simp [intOf]; omega
    · have hdl : decide ((k : Int) < (xss.length : Int)) = false := decide_eq_false (by omega)
      go_wp2
      go_ret
      exact ⟨rfl, hx⟩
set_option maxRecDepth 20000 in
set_option maxHeartbeats 8000000 in
theorem sameShape_c (b1 b2 : Nat) (f : FoD) (wv rv ov wv2 rv2 ov2 : Value) (w : World) (h1 : FoV w (.agg #[.int .i64 f.q, .int .i64 f.hd, .int .i64 f.at_, wv, rv, ov]) f wv rv ov) (h2 : FoV w (.agg #[.int .i64 f.q, .int .i64 f.hd, .int .i64 f.at_, wv2, rv2, ov2]) f wv2 rv2 ov2)
    (k1 : Blk w b1 31 #[.int .i64 f.q, .int .i64 f.hd, .int .i64 f.at_, wv, rv, ov]) (k2 : Blk w b2 31 #[.int .i64 f.q, .int .i64 f.hd, .int .i64 f.at_, wv2, rv2, ov2]) :
    Calls Tryd.prog 51 #[.pointer (some ⟨b1, 0, none⟩), .pointer (some ⟨b2, 0, none⟩)] w fun e w' => e = .returned (.bool true) ∧ Ext w w' := by
  obtain ⟨A, cA, rfl, _, _⟩ := h1.ws.form
  obtain ⟨B, cB, rfl, _, _⟩ := h1.rs.form
  obtain ⟨A2, cA2, rfl, _, _⟩ := h2.ws.form
  obtain ⟨B2, cB2, rfl, _, _⟩ := h2.rs.form
  have EW : QCalF 71 #[.slice A f.ws.length cA, .slice A2 f.ws.length cA2, .func (.func 72) #[] #[]] w (.bool true) := fun d' os => Calls.extR (EqualFunc_c _ _ f.ws _ (h1.ws.ext (below_regrown _ _ _)) (h2.ws.ext (below_regrown _ _ _)))
  have ER : QCalF 71 #[.slice B f.rs.length cB, .slice B2 f.rs.length cB2, .func (.func 72) #[] #[]] w (.bool true) := fun d' os => Calls.extR (EqualFunc_c _ _ f.rs _ (h1.rs.ext (below_regrown _ _ _)) (h2.rs.ext (below_regrown _ _ _)))
  have p0 : w.cell? ⟨b1, 0, none⟩ = some (.int .i64 f.q) := k1.cell 0
  have p1 : w.cell? ⟨b1, 1, none⟩ = some (.int .i64 f.hd) := k1.cell 1
  have p2 : w.cell? ⟨b1, 2, none⟩ = some (.int .i64 f.at_) := k1.cell 2
  have p3 : w.cell? ⟨b1, 3, none⟩ = some (.slice A f.ws.length cA) := k1.cell 3
  have p4 : w.cell? ⟨b1, 4, none⟩ = some (.slice B f.rs.length cB) := k1.cell 4
  have q0 : w.cell? ⟨b2, 0, none⟩ = some (.int .i64 f.q) := k2.cell 0
  have q1 : w.cell? ⟨b2, 1, none⟩ = some (.int .i64 f.hd) := k2.cell 1
  have q2 : w.cell? ⟨b2, 2, none⟩ = some (.int .i64 f.at_) := k2.cell 2
  have q3 : w.cell? ⟨b2, 3, none⟩ = some (.slice A2 f.ws.length cA2) := k2.cell 3
  have q4 : w.cell? ⟨b2, 4, none⟩ = some (.slice B2 f.rs.length cB2) := k2.cell 4
  have r0 := cellR p0
  have r1 := cellR p1
  have r2 := cellR p2
  have r3 := cellR p3
  have r4 := cellR p4
  have s0 := cellR q0
  have s1 := cellR q1
  have s2 := cellR q2
  have s3 := cellR q3
  have s4 := cellR q4
  clear h1 h2 k1 k2 p0 p1 p2 p3 p4 q0 q1 q2 q3 q4
  obtain ⟨zq, hzq⟩ : ∃ z, f.q = z := ⟨_, rfl⟩
  obtain ⟨zh, hzh⟩ : ∃ z, f.hd = z := ⟨_, rfl⟩
  obtain ⟨za, hza⟩ : ∃ z, f.at_ = z := ⟨_, rfl⟩
  rw [hzq] at r0 s0
  rw [hzh] at r1 s1
  rw [hza] at r2 s2
  clear hzq hzh hza
  go_enter Tryd.func51, Tryd.ntmps51
  go_wp2_with fail
  refine wp_region_ext (by kernel_rfl) (by kernel_rfl) ?_
  repeat (go_big_quiet_step ((go_at_call 71; first | with_reducible exact EW _ _ | with_reducible exact ER _ _)))
  intro wq hwq
  go_wp2
  go_ret
  exact ⟨rfl, hwq⟩
end Go.Proofs.YtnflhpgkffiloaaDoor
end
section
set_option linter.unusedSimpArgs false
set_option linter.unusedVariables false
namespace Go.Proofs.YtnflhpgkffiloaaDoor
open Go Go.RowKit Go.Proofs
set_option maxHeartbeats 400000
/-- All but the head's place is in order. -/
structure FoGd (m : MachD) (f : FoD) : Prop where
  q : 0 ≤ f.q ∧ f.q < m.st
  rn : 1 ≤ f.rs.length ∧ f.rs.length ≤ 3
  ws : f.ws.length = f.rs.length + 1
  os : f.os.length = f.rs.length
  wl : ∀ x ∈ f.ws, x.length ≤ 100 ∧ ∀ z ∈ x, 0 ≤ z ∧ z < m.sy
  rl : ∀ x ∈ f.rs, 1 ≤ x.length ∧ x.length ≤ 20 ∧ ∀ z ∈ x, 0 ≤ z ∧ z < m.sy
  ol : ∀ o ∈ f.os, -1000 ≤ o ∧ o ≤ 1000
  hd : 0 ≤ f.hd ∧ f.hd ≤ f.rs.length
theorem foOk_of {m : MachD} {f : FoD} (h : FoGd m f) (ha : atOk f = true) : foOk m f = true := by
  unfold foOk
  simp only [Bool.and_eq_true, decide_eq_true_eq, List.all_eq_true]
  refine ⟨⟨⟨⟨⟨⟨⟨⟨inB_iff.2 (by have := h.q; omega), inB_iff.2 (by have := h.rn; omega)⟩, h.ws⟩, h.os⟩, fun x hx => ?_⟩, fun x hx => ?_⟩, fun z hz => inB_iff.2 (h.ol z hz)⟩, inB_iff.2 h.hd⟩, ha⟩
  · simp only [wordIn, Bool.and_eq_true, decide_eq_true_eq, List.all_eq_true]
    exact ⟨(h.wl x hx).1, fun z hz => inB_iff.2 (by have := (h.wl x hx).2 z hz; omega)⟩
  · simp only [repIn, wordIn, Bool.and_eq_true, decide_eq_true_eq, List.all_eq_true]
    exact ⟨(h.rl x hx).1, (h.rl x hx).2.1, fun z hz => inB_iff.2 (by have := (h.rl x hx).2.2 z hz; omega)⟩
theorem atOk_in {f : FoD} {kh n : Nat} (hk : f.hd = kh) (hkr : kh ≤ f.rs.length) (hn : (f.ws.getD kh []).length = n) :
    inB f.at_ (if 0 < kh then -1 else 0) (if kh = f.rs.length then (n : Int) - 1 else n) = atOk f := by
  rw [Bool.eq_iff_iff, inB_iff]
  unfold atOk
  simp only [Bool.or_eq_true, Bool.and_eq_true, decide_eq_true_eq, inB_iff]
  rw [hk, Int.toNat_natCast, hn]
  split <;> split <;> omega
set_option maxRecDepth 20000 in
set_option maxHeartbeats 8000000 in
theorem l27Is_c (bm bf : Nat) (m : MachD) (f : FoD) (mv wv rv ov : Value) (w : World) (hm : Blk w bm 26 #[.int .i64 m.sy, .int .i64 m.st, mv]) (hf : Blk w bf 31 #[.int .i64 f.q, .int .i64 f.hd, .int .i64 f.at_, wv, rv, ov])
    (hw : Lists w wv f.ws) (hr : Lists w rv f.rs) (ho : Ints w ov f.os) (hg : FoGd m f) (hmk : machOk m = true) :
    Calls Tryd.prog 34 #[.pointer (some ⟨bm, 0, none⟩), .pointer (some ⟨bf, 0, none⟩)] w fun e w' => e = .returned (.bool (atOk f)) ∧ Ext w w' := by
  obtain ⟨⟨y1, y2, t1, t2⟩, _, _⟩ := machOk_five hmk
  clear hmk
  obtain ⟨A, cA, rfl, _, _⟩ := hw.form
  obtain ⟨B, cB, rfl, _, _⟩ := hr.form
  obtain ⟨C, cC, rfl, _, _⟩ := ho.form
  obtain ⟨kh, hkh⟩ : ∃ k : Nat, f.hd = k := Int.eq_ofNat_of_zero_le hg.hd.1
  have hkr : kh ≤ f.rs.length := by have := hg.hd; omega
  have hkw : kh < f.ws.length := by have := hg.ws; omega
  have m0 : w.cell? ⟨bm, 0, none⟩ = some (.int .i64 m.sy) := hm.cell 0
  have m1 : w.cell? ⟨bm, 1, none⟩ = some (.int .i64 m.st) := hm.cell 1
  have f0 : w.cell? ⟨bf, 0, none⟩ = some (.int .i64 f.q) := hf.cell 0
  have f1 : w.cell? ⟨bf, 1, none⟩ = some (.int .i64 (kh : Int)) := by rw [← hkh]; exact hf.cell 1
  have f2 : w.cell? ⟨bf, 2, none⟩ = some (.int .i64 f.at_) := hf.cell 2
  have f3 : w.cell? ⟨bf, 3, none⟩ = some (.slice A f.ws.length cA) := hf.cell 3
  have f4 : w.cell? ⟨bf, 4, none⟩ = some (.slice B f.rs.length cB) := hf.cell 4
  have f5 : w.cell? ⟨bf, 5, none⟩ = some (.slice C f.os.length cC) := hf.cell 5
  have r0 := cellR m0
  have r1 := cellR m1
  have s0 := cellR f0
  have s1 := cellR f1
  have s3 := cellR f3
  have s5 := cellR f5
  have hq : inB f.q 0 (m.st - 1) = true := inB_iff.2 (by have := hg.q; omega)
  have hh : inB (kh : Int) 0 (f.rs.length : Int) = true := inB_iff.2 (by omega)
  have IQ : ∀ (d : Nat) (os : Array Obj), Calls Tryd.prog 58 #[.int .i64 f.q, .int .i64 0, .int .i64 (m.st - 1)] (Sort.grow (redrawn w d) os) fun e w' => e = .returned (.bool true) ∧ Sort.grow (redrawn w d) os = w' := fun d os => by
    have := l00In_c f.q 0 (m.st - 1) (Sort.grow (redrawn w d) os)
    rwa [hq] at this
  have IH : ∀ (d : Nat) (os : Array Obj), Calls Tryd.prog 58 #[.int .i64 (kh : Int), .int .i64 0, .int .i64 (f.rs.length : Int)] (Sort.grow (redrawn w d) os) fun e w' => e = .returned (.bool true) ∧ Sort.grow (redrawn w d) os = w' := fun d os => by
    have := l00In_c (kh : Int) 0 (f.rs.length : Int) (Sort.grow (redrawn w d) os)
    rwa [hh] at this
  have d1 : decide ((f.rs.length : Int) < 1) = false := decide_eq_false (by have := hg.rn; omega)
  have d2 : decide ((3 : Int) < (f.rs.length : Int)) = false := decide_eq_false (by have := hg.rn; omega)
  have hw1 : IntKind.i64.wrap (m.st - 1) = m.st - 1 := IntWalk.i64_in _ (by omega)
  have hw2 : IntKind.i64.wrap ((f.rs.length : Int) + 1) = (f.rs.length : Int) + 1 := IntWalk.i64_in _ (by have := hg.rn; omega)
  have d3 : ((f.ws.length : Int) != (f.rs.length : Int) + 1) = false := by have := hg.ws; simp; omega
  have d4 : ((f.os.length : Int) != (f.rs.length : Int)) = false := by have := hg.os; simp; omega
  have HAT := Lib.hid (fun n hn => atOk_in (f := f) (n := n) hkh hkr hn)
  have HGD := Lib.hid hg
  have HMB := Lib.hid hm
  have HW := Lib.hid hw
  have HR := Lib.hid hr
  have HO := Lib.hid ho
  clear hg hm hw hr ho hf hkh hq hh
  go_enter Tryd.func34, Tryd.ntmps34
  go_wp2_with fail
  refine wp_region_ext (by kernel_rfl) (by kernel_rfl) ?_
  repeat (go_big_quiet_step ((go_at_call 58; first | with_reducible exact Calls.sameR (IQ _ _) | with_reducible exact Calls.sameR (IH _ _))))
  intro wq hwq
  have f1 := hwq.cell f1
  have f2 := hwq.cell f2
  have f3 := hwq.cell f3
  have f4 := hwq.cell f4
  have f5 := hwq.cell f5
  have HWQ := Lib.hid hwq
  clear IQ IH r0 r1 s0 s1 s3 s5 m0 m1 f0 hwq d1 d2 d3 d4 hw1
  go_wp2_with fail
  go_loopw [6] (fun i wr => ∃ k : Nat, k ≤ f.rs.length + 1 ∧ i = .int .i64 (k : Int) ∧ Hid (Ext wq wr)) (fun i _ => f.rs.length + 1 - (intOf i).toNat)
  case atStart => exact ⟨0, Nat.zero_le _, rfl, Lib.hid (Ext.refl _)⟩
  case round =>
    obtain ⟨k, hk, rfl, HXR⟩ := hrel
    have g3 := HXR.out.cell f3
    by_cases hlt : k < f.rs.length + 1
    · have hdl : decide ((k : Int) ≤ (f.rs.length : Int)) = true := decide_eq_true (by omega)
      have hdl2 : decide (k ≤ f.rs.length) = true := decide_eq_true (by omega)
      have hkl : k < f.ws.length := by have := HGD.out.ws; omega
      obtain ⟨b1, o1, u1, hA1, c1, i1, _⟩ := Lists.at (HW.out.ext (HWQ.out.trans HXR.out)) hkl
      subst hA1
      obtain ⟨x, hx⟩ : ∃ x, f.ws[k] = x := ⟨_, rfl⟩
      have hxx := HGD.out.wl _ (List.getElem_mem hkl)
      rw [hx] at i1 hxx
      have SY := l27Symbols_c bm m.sy (.int .i64 m.st) mv u1 x 100 wr (HMB.out.ext (HWQ.out.trans HXR.out)) i1 (by omega) hxx.2 hxx.1 (by omega)
      obtain ⟨A1, k1, rfl, _, _⟩ := i1.form
      clear hx hxx i1 f1 f2 f3 f4 f5
      go_wp2_with fail
      refine SY.mono ?_
      rintro e w3 ⟨rfl, hx3⟩
      have HX3 := Lib.hid (HXR.out.trans hx3)
      clear SY hx3
      go_wp2
      go_roundw
      case rel => exact ⟨k + 1, by omega, by go_num, HX3⟩
      case measure => simp [intOf]; omega
    · have hdl : decide ((k : Int) ≤ (f.rs.length : Int)) = false := decide_eq_false (by omega)
      have hdl2 : decide (k ≤ f.rs.length) = false := decide_eq_false (by omega)
      have hdl3 : ¬ k ≤ f.rs.length := by omega
      have g1 := HXR.out.cell f1
      have g2 := HXR.out.cell f2
      have g4 := HXR.out.cell f4
      have g5 := HXR.out.cell f5
      have HX2 := Lib.hid (HWQ.out.trans HXR.out)
      clear f1 f2 f3 f4 f5 HWQ HXR
      go_wp2_with fail
      clear hk hlt hdl hdl2 hdl3
      generalize wr = wo at *
      go_loopw [7] (fun i wx => ∃ k : Nat, k ≤ f.rs.length ∧ i = .int .i64 (k : Int) ∧ Hid (Ext wo wx)) (fun i _ => f.rs.length - (intOf i).toNat)
      case atStart => exact ⟨0, Nat.zero_le _, rfl, Lib.hid (Ext.refl _)⟩
      case round =>
        obtain ⟨k, hk, rfl, HXR⟩ := hrel
        have q4 := HXR.out.cell g4
        have q5 := HXR.out.cell g5
        by_cases hlt : k < f.rs.length
        · have hdl : decide ((k : Int) < (f.rs.length : Int)) = true := decide_eq_true (by omega)
          have hXr := HX2.out.trans HXR.out
          obtain ⟨b1, o1, u1, hA1, c1, i1, _⟩ := Lists.at (HR.out.ext hXr) hlt
          subst hA1
          have hko : k < f.os.length := by have := HGD.out.os; omega
          obtain ⟨b2, o2, hA2, c2⟩ := Ints.at (HO.out.ext hXr) hko
          subst hA2
          replace c2 := c2 k hko
          obtain ⟨x, hx⟩ : ∃ x, f.rs[k] = x := ⟨_, rfl⟩
          obtain ⟨zo, hzo⟩ : ∃ z, f.os[k] = z := ⟨_, rfl⟩
          have hxx := HGD.out.rl _ (List.getElem_mem hlt)
          have hoo := HGD.out.ol _ (List.getElem_mem hko)
          rw [hx] at i1 hxx
          rw [hzo] at c2 hoo
          have SY := l27Symbols_c bm m.sy (.int .i64 m.st) mv u1 x 20 wr (HMB.out.ext hXr) i1 (by omega) hxx.2.2 hxx.2.1 (by omega)
          have hne : ((x.length : Int) == 0) = false := beq_eq_false_iff_ne.2 (by omega)
          have hne2 : ¬ x.length = 0 := by omega
          have hne3 : x ≠ [] := fun e => hne2 (by rw [e]; rfl)
          have IO := fun w' => l00In_c zo (-1000) 1000 w'
          rw [inB_iff.2 hoo] at IO
          obtain ⟨A1, k1, rfl, _, _⟩ := i1.form
          have g4b := q4
          clear hx hxx i1 g1 g2 g3 g4 g5 hzo hoo hXr
          go_wp2_with fail
          refine SY.mono ?_
          rintro e w3 ⟨rfl, hx3⟩
          have q5 := hx3.cell q5
          have c2 := hx3.cell c2
          have HX3 := Lib.hid (HXR.out.trans hx3)
          clear SY hx3
          go_wp2_with fail
          refine (IO w3).mono ?_
          rintro e w4 ⟨rfl, rfl⟩
          go_wp2
          go_roundw
          case rel => exact ⟨k + 1, by omega, by go_num, HX3⟩
          case measure => simp [intOf]; omega
        · have hdl : decide ((k : Int) < (f.rs.length : Int)) = false := decide_eq_false (by omega)
          have hXr := HX2.out.trans HXR.out
          obtain ⟨b1, o1, u1, hA1, c1, i1, _⟩ := Lists.at (HW.out.ext hXr) hkw
          subst hA1
          obtain ⟨x, hx⟩ : ∃ x, f.ws[kh] = x := ⟨_, rfl⟩
          have hxl := (HGD.out.wl _ (List.getElem_mem hkw)).1
          rw [hx] at i1 hxl
          have hAT := HAT.out x.length (by rw [getD_get hkw, hx])
          obtain ⟨A1, k1, rfl, _, _⟩ := i1.form
          have p1 := cellR (HXR.out.cell g1)
          have p3 := cellR (HXR.out.cell g3)
          have pc := cellR c1
          have v1 := HXR.out.cell g1
          have v2 := HXR.out.cell g2
          have hwx : IntKind.i64.wrap ((x.length : Int) - 1) = (x.length : Int) - 1 := IntWalk.i64_in _ (by omega)
          clear hx i1 g1 g2 g3 g4 g5 q4 q5 c1 hw2
          have IN := fun lo hi w' => l00In_c f.at_ lo hi w'
          have HXT := Lib.hid hXr
          clear hXr
          by_cases e1 : 0 < kh <;> by_cases e2 : kh = f.rs.length
          · have t1 : decide ((0 : Int) < (kh : Int)) = true := decide_eq_true (by omega)
            rw [if_pos e1, if_pos e2] at hAT
            have HE := Lib.hid e2
            have HAT2 := Lib.hid hAT
            clear hAT e2
            go_wp2_with fail
            refine wp_region_ext (by kernel_rfl) (by kernel_rfl) ?_
            repeat (go_big_quiet_step (fail))
            intro wz hwz
            have v1 := hwz.cell v1
            have v2 := hwz.cell v2
            have HXZ := Lib.hid (HXT.out.trans hwz)
            clear hwz p1 p3 pc
            have t2 : ((kh : Int) == (f.rs.length : Int)) = true := by have := HE.out; simp [this]
            go_wp2_with fail
            refine (IN _ _ _).mono ?_
            rintro e w8 ⟨rfl, rfl⟩
            go_wp2
            go_ret
            exact ⟨by rw [← HAT2.out]; first | rfl | simp, HXZ.out⟩
          · have t1 : decide ((0 : Int) < (kh : Int)) = true := decide_eq_true (by omega)
            rw [if_pos e1, if_neg e2] at hAT
            have HE := Lib.hid e2
            have HAT2 := Lib.hid hAT
            clear hAT e2
            go_wp2_with fail
            refine wp_region_ext (by kernel_rfl) (by kernel_rfl) ?_
            repeat (go_big_quiet_step (fail))
            intro wz hwz
            have v1 := hwz.cell v1
            have v2 := hwz.cell v2
            have HXZ := Lib.hid (HXT.out.trans hwz)
            clear hwz p1 p3 pc
            have t2 : ((kh : Int) == (f.rs.length : Int)) = false := beq_eq_false_iff_ne.2 (by have := HE.out; omega)
            have t3 : ¬ (kh : Int) = (f.rs.length : Int) := by have := HE.out; omega
            go_wp2_with fail
            refine (IN _ _ _).mono ?_
            rintro e w8 ⟨rfl, rfl⟩
            go_wp2
            go_ret
            exact ⟨by rw [← HAT2.out]; first | rfl | simp, HXZ.out⟩
          · have t1 : decide ((0 : Int) < (kh : Int)) = false := decide_eq_false (by omega)
            rw [if_neg e1, if_pos e2] at hAT
            have HE := Lib.hid e2
            have HAT2 := Lib.hid hAT
            clear hAT e2
            go_wp2_with fail
            refine wp_region_ext (by kernel_rfl) (by kernel_rfl) ?_
            repeat (go_big_quiet_step (fail))
            intro wz hwz
            have v1 := hwz.cell v1
            have v2 := hwz.cell v2
            have HXZ := Lib.hid (HXT.out.trans hwz)
            clear hwz p1 p3 pc
            have t2 : ((kh : Int) == (f.rs.length : Int)) = true := by have := HE.out; simp [this]
            go_wp2_with fail
            refine (IN _ _ _).mono ?_
            rintro e w8 ⟨rfl, rfl⟩
            go_wp2
            go_ret
            exact ⟨by rw [← HAT2.out]; first | rfl | simp, HXZ.out⟩
          · have t1 : decide ((0 : Int) < (kh : Int)) = false := decide_eq_false (by omega)
            rw [if_neg e1, if_neg e2] at hAT
            have HE := Lib.hid e2
            have HAT2 := Lib.hid hAT
            clear hAT e2
            go_wp2_with fail
            refine wp_region_ext (by kernel_rfl) (by kernel_rfl) ?_
            repeat (go_big_quiet_step (fail))
            intro wz hwz
            have v1 := hwz.cell v1
            have v2 := hwz.cell v2
            have HXZ := Lib.hid (HXT.out.trans hwz)
            clear hwz p1 p3 pc
            have t2 : ((kh : Int) == (f.rs.length : Int)) = false := beq_eq_false_iff_ne.2 (by have := HE.out; omega)
            have t3 : ¬ (kh : Int) = (f.rs.length : Int) := by have := HE.out; omega
            go_wp2_with fail
            refine (IN _ _ _).mono ?_
            rintro e w8 ⟨rfl, rfl⟩
            go_wp2
            go_ret
            exact ⟨by rw [← HAT2.out]; first | rfl | simp, HXZ.out⟩
end Go.Proofs.YtnflhpgkffiloaaDoor
end
section
set_option linter.unusedSimpArgs false
set_option linter.unusedVariables false
namespace Go.Proofs.YtnflhpgkffiloaaDoor
open Go Go.RowKit Go.Proofs
set_option maxHeartbeats 400000
set_option maxRecDepth 20000 in
set_option maxHeartbeats 8000000 in
theorem growth_c (m : MachD) (rv0 wv rv ov : Value) (f : FoD) (w : World) (h : FoV w (.agg #[.int .i64 f.q, .int .i64 f.hd, .int .i64 f.at_, wv, rv, ov]) f wv rv ov) (hf : foOk m f = true) (hg : foOk m (normFo f) = true) (hm : machOk m = true) :
    Calls Tryd.prog 22 #[.agg #[.int .i64 m.sy, .int .i64 m.st, rv0], .agg #[.int .i64 f.q, .int .i64 f.hd, .int .i64 f.at_, wv, rv, ov], .agg #[.int .i64 f.q, .int .i64 f.hd, .int .i64 f.at_, wv, rv, ov]] w fun e w' => (∃ u base, e = .returned (.tuple #[u, .int .i64 0]) ∧ OwnInts base w' u (List.replicate f.rs.length 0)) ∧ Ext w w' := by
  have hnb := foOk_nb hf
  have hnN := foOk_nb hg
  have hlen : (normFo f).os.length = f.rs.length := by
    have e1 := hnN.os
    have e2 : (normFo f).rs.length = f.rs.length := by
      have := (absN_nb hnb f.rs.length (Nat.le_refl _)).2
      rw [← norm_absN] at this
      exact this
    omega
  obtain ⟨V, hV⟩ : ∃ V, V = ((w.alloc (.cells #[.int .i64 m.sy, .int .i64 m.st, rv0] 26)).alloc (.cells #[.int .i64 f.q, .int .i64 f.hd, .int .i64 f.at_, wv, rv, ov] 31)).alloc (.cells #[.int .i64 f.q, .int .i64 f.hd, .int .i64 f.at_, wv, rv, ov] 31) := ⟨_, rfl⟩
  have hX : Ext w V := by rw [hV]; exact ((Ext.alloc _ _).trans (Ext.alloc _ _)).trans (Ext.alloc _ _)
  obtain ⟨g, hgg⟩ : ∃ g, w.heap.size = g := ⟨_, rfl⟩
  have bm : Blk V g 26 #[.int .i64 m.sy, .int .i64 m.st, rv0] := by rw [hV]; exact ((Blk.new _ _ _ _ hgg).alloc _).alloc _
  have bf : Blk V (g + 1) 31 #[.int .i64 f.q, .int .i64 f.hd, .int .i64 f.at_, wv, rv, ov] := by rw [hV]; exact (Blk.new _ _ _ _ (by simp [hgg])).alloc _
  have bh : Blk V (g + 1 + 1) 31 #[.int .i64 f.q, .int .i64 f.hd, .int .i64 f.at_, wv, rv, ov] := by rw [hV]; exact Blk.new _ _ _ _ (by simp [hgg])
  have hXd : Ext w V.drew := hX.trans (Ext.drew _)
  have N1 := normalized_c _ wv rv ov f V.drew (h.ext hXd) hnb
  have N2 := fun w' (hx : Ext V.drew w') => normalized_c _ wv rv ov f w' (h.ext (hXd.trans hx)) hnb
  have a0 : V.drew.cell? ⟨g + 1, 0, none⟩ = some (.int .i64 f.q) := bf.cell 0
  have a1 : V.drew.cell? ⟨g + 1, 1, none⟩ = some (.int .i64 f.hd) := bf.cell 1
  have a2 : V.drew.cell? ⟨g + 1, 2, none⟩ = some (.int .i64 f.at_) := bf.cell 2
  have a3 : V.drew.cell? ⟨g + 1, 3, none⟩ = some wv := bf.cell 3
  have a4 : V.drew.cell? ⟨g + 1, 4, none⟩ = some rv := bf.cell 4
  have a5 : V.drew.cell? ⟨g + 1, 5, none⟩ = some ov := bf.cell 5
  have b0 : V.drew.cell? ⟨g + 1 + 1, 0, none⟩ = some (.int .i64 f.q) := bh.cell 0
  have b1 : V.drew.cell? ⟨g + 1 + 1, 1, none⟩ = some (.int .i64 f.hd) := bh.cell 1
  have b2 : V.drew.cell? ⟨g + 1 + 1, 2, none⟩ = some (.int .i64 f.at_) := bh.cell 2
  have b3 : V.drew.cell? ⟨g + 1 + 1, 3, none⟩ = some wv := bh.cell 3
  have b4 : V.drew.cell? ⟨g + 1 + 1, 4, none⟩ = some rv := bh.cell 4
  have b5 : V.drew.cell? ⟨g + 1 + 1, 5, none⟩ = some ov := bh.cell 5
  have HNB := Lib.hid hnN
  have HGG := Lib.hid hg
  have HM := Lib.hid hm
  have HX := Lib.hid hX
  have HBM := Lib.hid bm
  obtain ⟨F, hF⟩ : ∃ F, normFo f = F := ⟨_, rfl⟩
  rw [hF] at N1 HNB HGG hlen
  have N2' : ∀ w', Ext V.drew w' → Calls Tryd.prog 17 #[.agg #[.int .i64 f.q, .int .i64 f.hd, .int .i64 f.at_, wv, rv, ov]] w' fun e w'_1 => (∃ g gw gr go cw cr co vw vr, e = .returned (.pointer (some ⟨g, 0, none⟩)) ∧ FoAt w'.heap.size w'_1 g F gw gr go cw cr co vw vr) ∧ Ext w' w'_1 := fun w' hx => by rw [← hF]; exact N2 w' hx
  have HLEN := Lib.hid hlen
  obtain ⟨rn, hrn⟩ : ∃ n, f.rs.length = n := ⟨_, rfl⟩
  have hrn3 : rn ≤ 3 := by have := hnb.r1; omega
  rw [hrn] at HLEN ⊢
  clear hnb hnN hf hg hm h hX bm bf bh hF N2 hlen hrn
  go_enter Tryd.func22, Tryd.ntmps22
  go_wp2_with fail
  try rw [← hV]
  try rw [hgg]
  clear hV hgg
  refine wp_region_ordT 5 (readsT [0, 2] (.stir 1 (.stir 3 (readsT [4] .done)))) (by kernel_rfl) (by kernel_rfl) (fun _ _ _ _ _ h => h) ?_
  simp only [readsT]
  iterate 2 (refine wpOrdT_read (v := ?_) (by rfl) (Or.inl ⟨by rfl, fun x hx => ?_⟩) ?_; rotate_left; (· have y0 := Ext.cell hx a0; have y1 := Ext.cell hx a1; have y2 := Ext.cell hx a2; have y3 := Ext.cell hx a3; have y4 := Ext.cell hx a4; have y5 := Ext.cell hx a5; have z0 := Ext.cell hx b0; have z1 := Ext.cell hx b1; have z2 := Ext.cell hx b2; have z3 := Ext.cell hx b3; have z4 := Ext.cell hx b4; have z5 := Ext.cell hx b5; go_simp; try with_reducible rfl); try simp only [Act.put, List.setIfInBounds_toArray, List.set_cons_zero, List.set_cons_succ])
  clear a0 a1 a2 a3 a4 a5 b0 b1 b2 b3 b4 b5
  refine wpOrdT_keep (by rfl) (fun K hK => ?_)
  go_simp
  go_at_call 17
  refine N1.mono ?_
  rintro e w1 ⟨⟨g1, gw, gr, go, cw, cr, co, vw, vr, rfl, st1⟩, hx1⟩
  refine hK _ _ hx1 ?_
  clear hK K N1
  refine wpOrdT_keep (by rfl) (fun K hK => ?_)
  go_simp
  go_at_call 17
  refine (N2' w1 hx1).mono ?_
  rintro e w2 ⟨⟨g2, gw2, gr2, go2, cw2, cr2, co2, vw2, vr2, rfl, st2⟩, hx2⟩
  refine hK _ _ (hx1.trans hx2) ?_
  clear hK K N2'
  refine wpOrdT_read (v := ?_) (by rfl) (Or.inl ⟨by rfl, fun x hx => ?_⟩) ?_; rotate_left; (· go_simp; try with_reducible rfl); try simp only [Act.put, List.setIfInBounds_toArray, List.set_cons_zero, List.set_cons_succ]
  refine wpOrdT_done ?_
  try simp only [List.drop_succ_cons, List.drop_zero]
  have hXd2 : Ext V w2 := (Ext.drew V).trans (hx1.trans hx2)
  have st1 := st1.ext hx2
  have bm2 := HBM.out.ext hXd2
  have HXD2 := Lib.hid hXd2
  clear hXd hXd2 hx1 hx2 HBM
  have hsm : F.rs.length ≤ 1000 ∧ F.ws.length ≤ 1000 ∧ F.os.length ≤ 1000 := by have := HNB.out.r1; have := HNB.out.ws; have := HNB.out.os; omega
  have FO1 := formulaOf_c m rv0 _ _ _ _ F w2.drew (st1.val.ext (Ext.drew _)) hsm HM.out
  have FO2 := fun w' (hx : Ext w2.drew w') => formulaOf_c m rv0 _ _ _ _ F w' ((st2.val.ext (Ext.drew _)).ext hx) hsm HM.out
  rw [HGG.out] at FO1 FO2
  clear hsm
  have m0 : w2.drew.cell? ⟨g, 0, none⟩ = some (.int .i64 m.sy) := bm2.cell 0
  have m1 : w2.drew.cell? ⟨g, 1, none⟩ = some (.int .i64 m.st) := bm2.cell 1
  have m2 : w2.drew.cell? ⟨g, 2, none⟩ = some rv0 := bm2.cell 2
  have a0 : w2.drew.cell? ⟨g1, 0, none⟩ = some (.int .i64 F.q) := st1.blk.cell 0
  have a1 : w2.drew.cell? ⟨g1, 1, none⟩ = some (.int .i64 F.hd) := st1.blk.cell 1
  have a2 : w2.drew.cell? ⟨g1, 2, none⟩ = some (.int .i64 F.at_) := st1.blk.cell 2
  have a3 : w2.drew.cell? ⟨g1, 3, none⟩ = some (.slice (some ⟨gw, 0, none⟩) F.ws.length cw) := st1.blk.cell 3
  have a4 : w2.drew.cell? ⟨g1, 4, none⟩ = some (.slice (some ⟨gr, 0, none⟩) F.rs.length cr) := st1.blk.cell 4
  have a5 : w2.drew.cell? ⟨g1, 5, none⟩ = some (.slice (some ⟨go, 0, none⟩) F.os.length co) := st1.blk.cell 5
  have b0 : w2.drew.cell? ⟨g2, 0, none⟩ = some (.int .i64 F.q) := st2.blk.cell 0
  have b1 : w2.drew.cell? ⟨g2, 1, none⟩ = some (.int .i64 F.hd) := st2.blk.cell 1
  have b2 : w2.drew.cell? ⟨g2, 2, none⟩ = some (.int .i64 F.at_) := st2.blk.cell 2
  have b3 : w2.drew.cell? ⟨g2, 3, none⟩ = some (.slice (some ⟨gw2, 0, none⟩) F.ws.length cw2) := st2.blk.cell 3
  have b4 : w2.drew.cell? ⟨g2, 4, none⟩ = some (.slice (some ⟨gr2, 0, none⟩) F.rs.length cr2) := st2.blk.cell 4
  have b5 : w2.drew.cell? ⟨g2, 5, none⟩ = some (.slice (some ⟨go2, 0, none⟩) F.os.length co2) := st2.blk.cell 5
  have HS1 := Lib.hid st1
  have HS2 := Lib.hid st2
  clear st1 st2 bm2
  go_wp2_with fail
  refine wp_region_ordT 13 (readsT [0, 1, 2, 3] (.stir 4 (readsT [5, 6, 7, 8, 9, 10] (.stir 11 (readsT [12] .done))))) (by kernel_rfl) (by kernel_rfl) (fun _ _ _ _ _ h => h) ?_
  simp only [readsT]
  iterate 4 (refine wpOrdT_read (v := ?_) (by rfl) (Or.inl ⟨by rfl, fun x hx => ?_⟩) ?_; rotate_left; (· have x0 := Ext.cell hx m0; have x1 := Ext.cell hx m1; have x2 := Ext.cell hx m2; have y0 := Ext.cell hx a0; have y1 := Ext.cell hx a1; have y2 := Ext.cell hx a2; have y3 := Ext.cell hx a3; have y4 := Ext.cell hx a4; have y5 := Ext.cell hx a5; go_simp; try with_reducible rfl); try simp only [Act.put, List.setIfInBounds_toArray, List.set_cons_zero, List.set_cons_succ])
  refine wpOrdT_keep (by rfl) (fun K hK => ?_)
  go_simp
  go_at_call 18
  refine FO1.mono ?_
  rintro e w3 ⟨rfl, hx3⟩
  refine hK _ _ hx3 ?_
  clear hK K FO1
  iterate 6 (refine wpOrdT_read (v := ?_) (by rfl) (Or.inl ⟨by rfl, fun x hx => ?_⟩) ?_; rotate_left; (· have x0 := Ext.cell hx m0; have x1 := Ext.cell hx m1; have x2 := Ext.cell hx m2; have y0 := Ext.cell hx b0; have y1 := Ext.cell hx b1; have y2 := Ext.cell hx b2; have y3 := Ext.cell hx b3; have y4 := Ext.cell hx b4; have y5 := Ext.cell hx b5; go_simp; try with_reducible rfl); try simp only [Act.put, List.setIfInBounds_toArray, List.set_cons_zero, List.set_cons_succ])
  refine wpOrdT_keep (by rfl) (fun K hK => ?_)
  go_simp
  go_at_call 18
  refine (FO2 w3 hx3).mono ?_
  rintro e w4 ⟨rfl, hx4⟩
  refine hK _ _ (hx3.trans hx4) ?_
  clear hK K FO2
  refine wpOrdT_read (v := ?_) (by rfl) (Or.inl ⟨by rfl, fun x hx => ?_⟩) ?_; rotate_left; (· go_simp; try with_reducible rfl); try simp only [Act.put, List.setIfInBounds_toArray, List.set_cons_zero, List.set_cons_succ]
  refine wpOrdT_done ?_
  try simp only [List.drop_succ_cons, List.drop_zero]
  have hx24 : Ext w2 w4 := (Ext.drew w2).trans (hx3.trans hx4)
  have st1 := HS1.out.ext hx24
  have st2 := HS2.out.ext hx24
  have hw4 := HX.out.trans (HXD2.out.trans hx24)
  have SS := sameShape_c g1 g2 F _ _ _ _ _ _ w4 st1.val st2.val st1.blk st2.blk
  have HW4 := Lib.hid hw4
  have HT1 := Lib.hid st1
  have HT2 := Lib.hid st2
  clear m0 m1 m2 a0 a1 a2 a3 a4 a5 b0 b1 b2 b3 b4 b5 hx3 hx4 hx24 st1 st2 hw4 HS1 HS2
  go_wp2_with fail
  refine SS.mono ?_
  rintro e w5 ⟨rfl, hx5⟩
  clear SS
  have st1 := HT1.out.ext hx5
  have st2 := HT2.out.ext hx5
  have a5 : w5.cell? ⟨g1, 5, none⟩ = some (.slice (some ⟨go, 0, none⟩) F.os.length co) := st1.blk.cell 5
  have b5 : w5.cell? ⟨g2, 5, none⟩ = some (.slice (some ⟨go2, 0, none⟩) F.os.length co2) := st2.blk.cell 5
  obtain ⟨W6, hW6⟩ : ∃ W, W = w5.alloc (.cells #[] 2) := ⟨_, rfl⟩
  obtain ⟨g6, hg6⟩ : ∃ g, w5.heap.size = g := ⟨_, rfl⟩
  have e6 : Ext w5 W6 := by rw [hW6]; exact Ext.alloc _ _
  have hS0 : OwnInts g6 W6 (.slice (some ⟨g6, 0, none⟩) 0 0) (List.replicate 0 0) := by
    have be : Blk W6 g6 2 #[] := by rw [hW6]; exact Blk.new _ _ _ _ hg6
    exact own_emp be (Nat.le_refl _)
  have b6 : (w5.alloc (.cells #[] 2)).cell? ⟨g2, 5, none⟩ = some (.slice (some ⟨go2, 0, none⟩) F.os.length co2) := (Ext.alloc _ _).cell b5
  have HO1 : Hid (Ints w5 (.slice (some ⟨go, 0, none⟩) F.os.length co) F.os) := Lib.hid st1.oo.ints
  have HO2 : Hid (Ints w5 (.slice (some ⟨go2, 0, none⟩) F.os.length co2) F.os) := Lib.hid st2.oo.ints
  have HS0 := Lib.hid hS0
  have HE6 := Lib.hid e6
  have HW5 := Lib.hid (HW4.out.trans hx5)
  have HG6 := Lib.hid hg6
  clear st1 st2 hS0 e6 hx5
  go_wp2_with fail
  try rw [← hW6]
  try rw [hg6]
  clear hW6 hg6 b6
  have hol3 : F.os.length ≤ 3 := by have := HLEN.out; omega
  go_loopw [10, 41] (fun a b wr => ∃ k : Nat, k ≤ F.os.length ∧ b = .int .i64 (k : Int) ∧ Hid (Ext w5 wr) ∧ Hid (OwnInts g6 wr a (List.replicate k 0))) (fun _ b _ => F.os.length - (intOf b).toNat)
  case atStart => exact ⟨0, Nat.zero_le _, rfl, HE6, HS0⟩
  case round =>
    rename_i a10 b41
    clear HS0 HE6
    obtain ⟨k, hk, rfl, HXR, HO⟩ := hrel
    by_cases hlt : k < F.os.length
    · have hdl : decide ((k : Int) < (F.os.length : Int)) = true := decide_eq_true (by omega)
      have hxr := HXR.out
      have ho := HO.out
      obtain ⟨bb1, off1, hA1, c1⟩ := Ints.at (HO1.out.ext hxr) hlt
      obtain ⟨bb2, off2, hA2, c2⟩ := Ints.at (HO2.out.ext hxr) hlt
      injection hA1 with hA1
      injection hA1 with t1 t2
      subst t1 t2
      injection hA2 with hA2
      injection hA2 with t1 t2
      subst t1 t2
      replace c1 := c1 k hlt
      replace c2 := c2 k hlt
      rw [Nat.zero_add] at c1 c2
      obtain ⟨zo, hzo⟩ : ∃ z, F.os[k] = z := ⟨_, rfl⟩
      rw [hzo] at c1 c2
      have HZO := Lib.hid (HNB.out.off _ (List.getElem_mem hlt))
      rw [hzo] at HZO
      clear hzo
      have a7 := hxr.cell a5
      have b7 := hxr.cell b5
      clear a5 b5
      obtain ⟨A10, c10, rfl, _, _⟩ := id ho.ints.form
      have hwz : IntKind.i64.wrap (zo - zo) = 0 := by rw [Int.sub_self]; rfl
      obtain ⟨W9, hW9⟩ : ∃ W, W = wr.alloc (.cells #[.int .i64 0] 2) := ⟨_, rfl⟩
      obtain ⟨g9, hg9⟩ : ∃ g, wr.heap.size = g := ⟨_, rfl⟩
      have e9 : Ext wr W9 := by rw [hW9]; exact Ext.alloc _ _
      have b9 : Blk W9 g9 2 #[.int .i64 0] := by rw [hW9]; exact Blk.new _ _ _ _ hg9
      have i9 : Ints W9 (.slice (some ⟨g9, 0, none⟩) 1 1) [0] := (IL.one (go := g9 + 1) (base := 0) b9 (by omega)).ints
      have hsz : g6 ≤ W9.heap.size := by have := (World.ownsRow.lt ho); have := HG6.out; have := hxr.size; have := e9.size; omega
      obtain ⟨v7, w7, hr7, ho7, hg7⟩ := run_append_ints W9 g6 _ _ (List.replicate k 0) [0] (ho.ext e9) i9 (.inr ⟨_, _, _, _, rfl⟩) (by simp; omega) hsz
      have hx7 : Ext w5 w7 := (hxr.trans e9).grown hg7 (fun q hq => by
        have := (World.ownsRow.lt ho q hq).1
        rw [HG6.out]; exact this)
      have hrep : List.replicate k (0 : Int) ++ [0] = List.replicate (k + 1) 0 := List.replicate_succ'.symm
      rw [hrep] at ho7
      have HX7 := Lib.hid hx7
      have HO7 := Lib.hid ho7
      rw [hW9, ← hg9] at hr7
      simp only [List.length_replicate, List.length_singleton] at hr7
      clear hx7 ho7 hg7 hsz i9 b9 e9 hW9 hg9 hrep ho
      rw [List.length_replicate]
      go_wp2_with (at_builtin; refine Lib.wpList_append_run_sl _ rfl _ _ 29 rfl _ _ rfl rfl hr7 ?_)
      go_wp2
      go_roundw
      case rel => exact ⟨k + 1, by omega, by go_num, HX7, HO7⟩
      case measure => simp [intOf]; omega
    · have hdl : decide ((k : Int) < (F.os.length : Int)) = false := decide_eq_false (by omega)
      have hke : k = F.os.length := by omega
      have ho := HO.out
      obtain ⟨A10, c10, rfl, _, _⟩ := id ho.ints.form
      have hall : ((List.replicate k (0 : Int)).all fun z => inB z 0 2000) = true := List.all_eq_true.2 (fun z hz => by rw [List.eq_of_mem_replicate hz]; rfl)
      have AW := allWithin_c (.slice A10 (List.replicate k (0 : Int)).length c10) _ 0 2000 wr ho.ints
      rw [hall, List.length_replicate] at AW
      have HKE := Lib.hid hke
      have HON : Hid (OwnInts g6 wr (.slice A10 k c10) (List.replicate k 0)) := Lib.hid (by have h := ho; rw [List.length_replicate] at h; exact h)
      clear hke hall a5 b5 ho HO
      rw [List.length_replicate]
      clear HO1 HO2
      go_wp2_with fail
      refine AW.mono ?_
      rintro e w8 ⟨rfl, rfl⟩
      go_wp2
      have HFIN : OwnInts g6 wr (.slice A10 k c10) (List.replicate rn 0) := by
        rw [← HLEN.out, ← HKE.out]
        exact HON.out
      exact bodyPost_ret (v := .tuple #[.slice A10 k c10, .int .i64 0]) (by simp [results, Tryd.results22, go_sem]) rfl ⟨⟨_, _, rfl, HFIN⟩, HW5.out.trans HXR.out⟩
set_option maxRecDepth 20000 in
set_option maxHeartbeats 8000000 in
theorem GrowthOf_c (m : MachD) (mv wv rv ov : Value) (f : FoD) (w : World) (h : FoV w (.agg #[.int .i64 f.q, .int .i64 f.hd, .int .i64 f.at_, wv, rv, ov]) f wv rv ov) (hf : foOk m f = true) (hg : foOk m (normFo f) = true) (hm : machOk m = true) (hrm : Rules w mv m.rules) :
    Calls Tryd.prog 9 #[.agg #[.int .i64 m.sy, .int .i64 m.st, mv], .agg #[.int .i64 f.q, .int .i64 f.hd, .int .i64 f.at_, wv, rv, ov], .agg #[.int .i64 f.q, .int .i64 f.hd, .int .i64 f.at_, wv, rv, ov]] w fun e w' => (∃ u base, e = .returned (.tuple #[u, .int .i64 0]) ∧ OwnInts base w' u (List.replicate f.rs.length 0)) ∧ Ext w w' := by
  have hnb := foOk_nb hf
  obtain ⟨V, hV⟩ : ∃ V, V = ((w.alloc (.cells #[.int .i64 m.sy, .int .i64 m.st, mv] 26)).alloc (.cells #[.int .i64 f.q, .int .i64 f.hd, .int .i64 f.at_, wv, rv, ov] 31)).alloc (.cells #[.int .i64 f.q, .int .i64 f.hd, .int .i64 f.at_, wv, rv, ov] 31) := ⟨_, rfl⟩
  have hX : Ext w V := by rw [hV]; exact ((Ext.alloc _ _).trans (Ext.alloc _ _)).trans (Ext.alloc _ _)
  obtain ⟨g, hgg⟩ : ∃ g, w.heap.size = g := ⟨_, rfl⟩
  have bm : Blk V g 26 #[.int .i64 m.sy, .int .i64 m.st, mv] := by rw [hV]; exact ((Blk.new _ _ _ _ hgg).alloc _).alloc _
  have bf : Blk V (g + 1) 31 #[.int .i64 f.q, .int .i64 f.hd, .int .i64 f.at_, wv, rv, ov] := by rw [hV]; exact (Blk.new _ _ _ _ (by simp [hgg])).alloc _
  have bh : Blk V (g + 1 + 1) 31 #[.int .i64 f.q, .int .i64 f.hd, .int .i64 f.at_, wv, rv, ov] := by rw [hV]; exact Blk.new _ _ _ _ (by simp [hgg])
  have VF := fun w' (hx : Ext w w') => ValidFormula_c m (.agg #[.int .i64 m.sy, .int .i64 m.st, mv]) (.agg #[.int .i64 f.q, .int .i64 f.hd, .int .i64 f.at_, wv, rv, ov]) wv rv ov f w' ⟨_, rfl, hrm.ext hx⟩ (h.ext hx) (by have := hnb.r1; have := hnb.ws; have := hnb.os; omega) hm
  rw [hf] at VF
  have GR := fun w' (hx : Ext w w') => growth_c m mv wv rv ov f w' (h.ext hx) hf hg hm
  have VF0 := VF V hX
  have HX := Lib.hid hX
  have HVF := Lib.hid VF
  have HGR := Lib.hid GR
  have m0 := bm.cell 0
  have m1 := bm.cell 1
  have m2 := bm.cell 2
  have a0 := bf.cell 0
  have a1 := bf.cell 1
  have a2 := bf.cell 2
  have a3 := bf.cell 3
  have a4 := bf.cell 4
  have a5 := bf.cell 5
  have b0 := bh.cell 0
  have b1 := bh.cell 1
  have b2 := bh.cell 2
  have b3 := bh.cell 3
  have b4 := bh.cell 4
  have b5 := bh.cell 5
  simp only [List.getElem?_toArray, List.getElem?_cons_zero, List.getElem?_cons_succ] at m0 m1 m2 a0 a1 a2 a3 a4 a5 b0 b1 b2 b3 b4 b5
  clear VF GR hX bm bf bh hnb h hf hg hm hrm
  go_enter Tryd.func9, Tryd.ntmps9
  go_wp2_with fail
  try rw [← hV]
  try rw [hgg]
  clear hV hgg
  refine VF0.mono ?_
  rintro e w1 ⟨rfl, hx1⟩
  have m0 := hx1.cell m0
  have m1 := hx1.cell m1
  have m2 := hx1.cell m2
  have a0 := hx1.cell a0
  have a1 := hx1.cell a1
  have a2 := hx1.cell a2
  have a3 := hx1.cell a3
  have a4 := hx1.cell a4
  have a5 := hx1.cell a5
  have b0 := hx1.cell b0
  have b1 := hx1.cell b1
  have b2 := hx1.cell b2
  have b3 := hx1.cell b3
  have b4 := hx1.cell b4
  have b5 := hx1.cell b5
  have hX1 := HX.out.trans hx1
  have VF1 := HVF.out w1 hX1
  have HX1 := Lib.hid hX1
  clear VF0 hX1 hx1
  go_wp2_with fail
  refine VF1.mono ?_
  rintro e w2 ⟨rfl, hx2⟩
  have m0 := hx2.cell m0
  have m1 := hx2.cell m1
  have m2 := hx2.cell m2
  have a0 := hx2.cell a0
  have a1 := hx2.cell a1
  have a2 := hx2.cell a2
  have a3 := hx2.cell a3
  have a4 := hx2.cell a4
  have a5 := hx2.cell a5
  have b0 := hx2.cell b0
  have b1 := hx2.cell b1
  have b2 := hx2.cell b2
  have b3 := hx2.cell b3
  have b4 := hx2.cell b4
  have b5 := hx2.cell b5
  have hX2 := HX1.out.trans hx2
  have GR1 := HGR.out w2 hX2
  have HX2 := Lib.hid hX2
  clear VF1 hX2 hx2
  go_wp2_with fail
  refine GR1.mono ?_
  rintro e w3 ⟨⟨u, base, rfl, hu⟩, hx3⟩
  go_wp2
  exact bodyPost_ret (v := .tuple #[u, .int .i64 0]) (by simp [results, Tryd.results9, go_sem]) rfl ⟨⟨_, _, rfl, hu⟩, HX2.out.trans hx3⟩
end Go.Proofs.YtnflhpgkffiloaaDoor
end
