/- Contract of what the program's machine with one tape does where symbols are looked for.
Contract of what the program's machine with one tape does in all its places.
Contract of the program's reading of a configuration with several tapes. -/
import Derived.Test.YtgeckhjkahnonaaGreatDoorO16
import Derived.Test.YtgeckhjkahnonaaGreatDoorO15
section
set_option linter.unusedSimpArgs false
set_option linter.unusedVariables false
namespace Go.Proofs.YtgeckhjkahnonaaGreatDoor
open Go Go.RowKit Go.Proofs Go.Maps
set_option maxHeartbeats 400000
def sF (f : Int) : Int := if f = 0 then 0 else f - 1
theorem sF_max {f : Int} (h : 0 ≤ f) : max 0 (f - 1) = sF f := by
  unfold sF
  split <;> omega
/-- Whether one of the first k numbers is 0. -/
def msF (f0 f1 f2 : Int) (k : Nat) : Bool := (decide (0 < k) && decide (f0 = 0)) || (decide (1 < k) && decide (f1 = 0)) || (decide (2 < k) && decide (f2 = 0))
/-- While the symbols are gathered. -/
structure LkS (w : World) (b g gx : Nat) (m : MultiD) (tn : Nat) (k0 a c d nt f0 f1 f2 n0 n1 n2 : Int) (k : Nat) (W : World) : Prop where
  pl : Blk W g 73 #[.int .i64 k0, .int .i64 a, .int .i64 (tn : Int), .int .i64 c, .int .i64 f0, .int .i64 f1, .int .i64 f2, .int .i64 d]
  ac : Blk W (g + 1) 139 #[.int .i64 0, .int .i64 0, .int .i64 0, .int .i64 0, .int .i64 0, .int .i64 0, .int .i64 0, .int .i64 0, .int .i64 0, .int .i64 0, .bool false]
  nx : Blk W (g + 1 + 1) 73 #[.int .i64 k0, .int .i64 a, .int .i64 nt, .int .i64 c, .int .i64 n0, .int .i64 n1, .int .i64 n2, .int .i64 d]
  rd : Blk W gx 96 #[.int .i64 a, .int .i64 (if 0 < k then sF n0 else 0), .int .i64 (if 1 < k then sF n1 else 0), .int .i64 (if 2 < k then sF n2 else 0)]
  ext : Ext w W
set_option maxRecDepth 20000 in
set_option maxHeartbeats 8000000 in
theorem looked_c (b : Nat) (m : MultiD) (p : MP) (v : Int) (w : World) (h : Weav w b m) (hm : multiOk m = true) (hp : WOk m p) (hk0 : p.k = 0) (v0 : 0 ≤ v) (v1 : v < 2 * m.sy) :
    Calls Tryz.prog 67 #[.pointer (some ⟨b, 0, none⟩), p.v, .int .i64 v] w fun e w' => e = .returned (ActM (lkP m p v)) ∧ Ext w w' := by
  obtain ⟨⟨tp1, tp2⟩, ⟨y1, y2⟩, ⟨s1, s2⟩, hrl, _⟩ := multi_all hm
  obtain ⟨k, a, t, c, f0, f1, f2, d⟩ := p
  have t0 := hp.t0
  have t1 := hp.t1
  have F0 := hp.f0
  have F1 := hp.f1
  have F2 := hp.f2
  have hz2 : m.tp = 2 → f2 = 0 := by
    rcases hp.kd with ⟨_, _, _, _, _, _, hh⟩ | ⟨_, _, _, _, _, hh⟩ | ⟨_, _, _, _, _, _, hh⟩ | ⟨_, _, _, _, _, _, _, _, hh⟩
    · exact hh
    · exact fun _ => hh
    · exact fun _ => hh
    · exact fun _ => hh
  have ha := (hp.small hm).2.1
  simp only at t0 t1 F0 F1 F2 ha hk0
  clear hk0
  obtain ⟨tn, rfl⟩ : ∃ n : Nat, t = (n : Int) := ⟨t.toNat, by omega⟩
  have htn3 : tn < 3 := by omega
  obtain ⟨nt, hnt⟩ : ∃ nt, ((tn : Int) + 1) % m.tp = nt := ⟨_, rfl⟩
  have htm : ((tn : Int) + 1).tmod m.tp = nt := by rw [Int.tmod_eq_emod_of_nonneg (by omega)]; exact hnt
  have hT0 : ¬ m.tp = 0 := by omega
  obtain ⟨fv, hfv⟩ : ∃ fv, fnd ⟨k, a, (tn : Int), c, f0, f1, f2, d⟩ (tn : Int) = fv := ⟨_, rfl⟩
  have HNX : Hid (nxtT m ⟨k, a, (tn : Int), c, f0, f1, f2, d⟩ = ⟨k, a, nt, c, f0, f1, f2, d⟩) := Lib.hid (by unfold nxtT withT; rw [hnt])
  have HLK : Hid (lkP m ⟨k, a, (tn : Int), c, f0, f1, f2, d⟩ v = if m.sy ≤ v ∧ fv = 0 then
    (if lacksB m (seenP m ⟨k, a, (tn : Int), c, f0, f1, f2, d⟩ v) = true then ⟨v, 1, seenP m ⟨k, a, (tn : Int), c, f0, f1, f2, d⟩ v, false⟩
     else ruleP m (tn : Int) (findM m.rules (symsP m (seenP m ⟨k, a, (tn : Int), c, f0, f1, f2, d⟩ v)) m.rules.length))
    else ⟨v, 1, ⟨k, a, nt, c, f0, f1, f2, d⟩, false⟩) := Lib.hid (by unfold lkP; rw [hfv, HNX.out])
  obtain ⟨g, hg⟩ : ∃ g, w.heap.size = g := ⟨_, rfl⟩
  obtain ⟨W, hW⟩ : ∃ W, W = ((w.alloc (.cells #[.int .i64 k, .int .i64 a, .int .i64 (tn : Int), .int .i64 c, .int .i64 f0, .int .i64 f1, .int .i64 f2, .int .i64 d] 73)).alloc (.cells #[.int .i64 0, .int .i64 0, .int .i64 0, .int .i64 0, .int .i64 0, .int .i64 0, .int .i64 0, .int .i64 0, .int .i64 0, .int .i64 0, .bool false] 139)).alloc (.cells #[.int .i64 k, .int .i64 a, .int .i64 (tn : Int), .int .i64 c, .int .i64 f0, .int .i64 f1, .int .i64 f2, .int .i64 d] 73) := ⟨_, rfl⟩
  have hX : Ext w W := by rw [hW]; exact ((Ext.alloc _ _).trans (Ext.alloc _ _)).trans (Ext.alloc _ _)
  have hsW : W.heap.size = g + 1 + 1 + 1 := by rw [hW]; simp [hg]
  have bP : Blk W g 73 #[.int .i64 k, .int .i64 a, .int .i64 (tn : Int), .int .i64 c, .int .i64 f0, .int .i64 f1, .int .i64 f2, .int .i64 d] := by rw [hW]; exact ((Blk.new _ _ _ _ hg).alloc _).alloc _
  have bZ : Blk W (g + 1) 139 #[.int .i64 0, .int .i64 0, .int .i64 0, .int .i64 0, .int .i64 0, .int .i64 0, .int .i64 0, .int .i64 0, .int .i64 0, .int .i64 0, .bool false] := by rw [hW]; exact (Blk.new _ _ _ _ (by simp [hg])).alloc _
  have bN : Blk W (g + 1 + 1) 73 #[.int .i64 k, .int .i64 a, .int .i64 (tn : Int), .int .i64 c, .int .i64 f0, .int .i64 f1, .int .i64 f2, .int .i64 d] := by rw [hW]; exact Blk.new _ _ _ _ (by simp [hg])
  have hWv := h.ext hX
  obtain ⟨A, cA, bm, hb, hR, hTb⟩ := id h
  have a0 : W.cell? ⟨b, 0, none⟩ = some (.int .i64 m.tp) := (hb.ext hX).cell 0
  have q2 : W.cell? ⟨g, 2, none⟩ = some (.int .i64 (tn : Int)) := bP.cell 2
  have hwt : IntKind.i64.wrap ((tn : Int) + 1) = (tn : Int) + 1 := IntWalk.i64_in _ (by omega)
  have HB := Lib.hid hb
  have HTB := Lib.hid hTb
  have HWV := Lib.hid h
  have HFV := Lib.hid hfv
  have hgw : w.heap.size ≤ g + 1 + 1 := by omega
  simp only [MP.v]
  clear hb hR hTb hWv hnt h hfv
  go_enter Tryz.func67, Tryz.ntmps67
  go_upto_region 2 with fail
  try rw [← hW]
  try rw [hg]
  clear hW
  have zD := Ext.drew W
  have e0 := zD.cell a0
  have e2 := zD.cell q2
  refine wp_region_ordT 10 (readsT [0, 1, 2, 3, 4, 5, 6, 7, 8, 9] .done) (by kernel_rfl) (by kernel_rfl) (fun _ _ _ _ _ h => h) ?_
  simp only [readsT]
  iterate 10 (refine wpOrdT_read (v := ?_) (by rfl) (Or.inl ⟨by rfl, fun x hx => ?_⟩) ?_; rotate_left; (· have ue0 := hx.cell e0; have ue2 := hx.cell e2; go_simp; try with_reducible rfl); try simp only [Act.put, List.setIfInBounds_toArray, List.set_cons_zero, List.set_cons_succ])
  refine wpOrdT_done ?_
  try simp only [List.drop_succ_cons, List.drop_zero]
  have hXD := hX.trans zD
  have bPD := bP.ext zD
  have bZD := bZ.ext zD
  have bND := bN.ext zD
  have hsD : W.drew.heap.size = g + 1 + 1 + 1 := hsW
  clear e0 e2 a0 q2 bP bZ bN hX hsW zD
  change wpList _ _ _ _ _ W.drew
  generalize W.drew = Y at *
  have z0 := bND.cell
  have z1 := bND.frozen
  obtain ⟨Y2, hY2⟩ : ∃ Y2, Y2 = Y.setCell ⟨g + 1 + 1, 2, none⟩ (.int .i64 nt) := ⟨_, rfl⟩
  have nP : g ≠ g + 1 + 1 := by omega
  have nZ : g + 1 ≠ g + 1 + 1 := by omega
  have bP2 : Blk Y2 g 73 #[.int .i64 k, .int .i64 a, .int .i64 (tn : Int), .int .i64 c, .int .i64 f0, .int .i64 f1, .int .i64 f2, .int .i64 d] := by rw [hY2]; exact bPD.far (p := ⟨g + 1 + 1, 2, none⟩) nP _
  have bZ2 : Blk Y2 (g + 1) 139 #[.int .i64 0, .int .i64 0, .int .i64 0, .int .i64 0, .int .i64 0, .int .i64 0, .int .i64 0, .int .i64 0, .int .i64 0, .int .i64 0, .bool false] := by rw [hY2]; exact bZD.far (p := ⟨g + 1 + 1, 2, none⟩) nZ _
  have bN2 : Blk Y2 (g + 1 + 1) 73 #[.int .i64 k, .int .i64 a, .int .i64 nt, .int .i64 c, .int .i64 f0, .int .i64 f1, .int .i64 f2, .int .i64 d] := by rw [hY2]; exact bND.set_ 2 _
  have hX2 : Ext w Y2 := by rw [hY2]; exact hXD.setCell (p := ⟨g + 1 + 1, 2, none⟩) hgw _
  have hs2 : Y2.heap.size = g + 1 + 1 + 1 := by rw [hY2]; simpa [World.setCell] using hsD
  have a1 : Y2.cell? ⟨b, 1, none⟩ = some (.int .i64 m.sy) := (HB.out.ext hX2).cell 1
  have q2 : Y2.cell? ⟨g, 2, none⟩ = some (.int .i64 (tn : Int)) := bP2.cell 2
  have qf : Y2.cell? ⟨g, 4 + tn, none⟩ = some (.int .i64 fv) := by
    rw [bP2.cell, ← HFV.out]
    have : tn = 0 ∨ tn = 1 ∨ tn = 2 := by omega
    rcases this with rfl | rfl | rfl <;> rfl
  have hti : (tn : Int) < 3 := by omega
  clear bPD bZD bND hXD hsD
  go_upto_region 3 with fail
  try rw [← hY2]
  clear hY2 z0 z1
  by_cases hv : m.sy ≤ v
  · by_cases hf : fv = 0
    · have hfb : (fv == 0) = true := by simp [hf]
      have HE : Hid (lkP m ⟨k, a, (tn : Int), c, f0, f1, f2, d⟩ v = (if lacksB m (seenP m ⟨k, a, (tn : Int), c, f0, f1, f2, d⟩ v) = true then ⟨v, 1, seenP m ⟨k, a, (tn : Int), c, f0, f1, f2, d⟩ v, false⟩
           else ruleP m (tn : Int) (findM m.rules (symsP m (seenP m ⟨k, a, (tn : Int), c, f0, f1, f2, d⟩ v)) m.rules.length))) := Lib.hid (by rw [HLK.out, if_pos ⟨hv, hf⟩])
      obtain ⟨n0, hn0⟩ : ∃ x, (if (tn : Int) = 0 then v - m.sy + 1 else f0) = x := ⟨_, rfl⟩
      obtain ⟨n1, hn1⟩ : ∃ x, (if (tn : Int) = 1 then v - m.sy + 1 else f1) = x := ⟨_, rfl⟩
      obtain ⟨n2, hn2⟩ : ∃ x, (if (tn : Int) = 2 then v - m.sy + 1 else f2) = x := ⟨_, rfl⟩
      have hseen : seenP m ⟨k, a, (tn : Int), c, f0, f1, f2, d⟩ v = ⟨k, a, nt, c, n0, n1, n2, d⟩ := by unfold seenP; rw [HNX.out]; unfold withF; simp only [hn0, hn1, hn2]
      rw [hseen] at HE
      have N0 : 0 ≤ n0 ∧ n0 ≤ m.sy := by rw [← hn0]; split <;> omega
      have N1 : 0 ≤ n1 ∧ n1 ≤ m.sy := by rw [← hn1]; split <;> omega
      have N2 : 0 ≤ n2 ∧ n2 ≤ m.sy := by rw [← hn2]; split <;> omega
      have Z2 : m.tp = 2 → n2 = 0 := fun h2 => by rw [← hn2, if_neg (by omega)]; exact hz2 h2
      have HS : Hid ((#[.int .i64 k, .int .i64 a, .int .i64 nt, .int .i64 c, .int .i64 f0, .int .i64 f1, .int .i64 f2, .int .i64 d] : Array Value).setIfInBounds (4 + tn) (.int .i64 (v - m.sy + 1)) = #[.int .i64 k, .int .i64 a, .int .i64 nt, .int .i64 c, .int .i64 n0, .int .i64 n1, .int .i64 n2, .int .i64 d]) := Lib.hid (by
        rw [← hn0, ← hn1, ← hn2]
        have : tn = 0 ∨ tn = 1 ∨ tn = 2 := by omega
        rcases this with rfl | rfl | rfl <;> rfl)
      have hws : IntKind.i64.wrap (v - m.sy) = v - m.sy := IntWalk.i64_in _ (by omega)
      have hws1 : IntKind.i64.wrap (v - m.sy + 1) = v - m.sy + 1 := IntWalk.i64_in _ (by omega)
      clear hn0 hn1 hn2 hseen hz2 F0 F1 F2 hf
      go_upto_region 4 with fail
      have zD := Ext.drew Y2
      have e1 := zD.cell a1
      have e2 := zD.cell q2
      refine wp_region_ordT 12 (readsT [0, 1, 2, 3, 4, 5, 6, 7, 8, 9, 10, 11] .done) (by kernel_rfl) (by kernel_rfl) (fun _ _ _ _ _ h => h) ?_
      simp only [readsT]
      iterate 12 (refine wpOrdT_read (v := ?_) (by rfl) (Or.inl ⟨by rfl, fun x hx => ?_⟩) ?_; rotate_left; (· have ue1 := hx.cell e1; have ue2 := hx.cell e2; go_simp; try with_reducible rfl); try simp only [Act.put, List.setIfInBounds_toArray, List.set_cons_zero, List.set_cons_succ])
      refine wpOrdT_done ?_
      try simp only [List.drop_succ_cons, List.drop_zero]
      have hXD := hX2.trans zD
      have bPD := bP2.ext zD
      have bZD := bZ2.ext zD
      have bND := bN2.ext zD
      have hsD : Y2.drew.heap.size = g + 1 + 1 + 1 := hs2
      clear e1 e2 a1 q2 qf bP2 bZ2 bN2 hX2 hs2 zD
      change wpList _ _ _ _ _ Y2.drew
      generalize Y2.drew = Y3 at *
      have z0 := bND.cell (4 + tn)
      have z1 := bND.frozen
      have z0' : ∃ u, Y3.cell? ⟨g + 1 + 1, 4 + tn, none⟩ = some u := by
        rw [z0]
        have : tn = 0 ∨ tn = 1 ∨ tn = 2 := by omega
        rcases this with rfl | rfl | rfl <;> exact ⟨_, rfl⟩
      obtain ⟨u, hu⟩ := z0'
      clear z0
      obtain ⟨Y4, hY4⟩ : ∃ Y4, Y4 = Y3.setCell ⟨g + 1 + 1, 4 + tn, none⟩ (.int .i64 (v - m.sy + 1)) := ⟨_, rfl⟩
      have bP4 : Blk Y4 g 73 #[.int .i64 k, .int .i64 a, .int .i64 (tn : Int), .int .i64 c, .int .i64 f0, .int .i64 f1, .int .i64 f2, .int .i64 d] := by rw [hY4]; exact bPD.far (p := ⟨g + 1 + 1, 4 + tn, none⟩) nP _
      have bZ4 : Blk Y4 (g + 1) 139 #[.int .i64 0, .int .i64 0, .int .i64 0, .int .i64 0, .int .i64 0, .int .i64 0, .int .i64 0, .int .i64 0, .int .i64 0, .int .i64 0, .bool false] := by rw [hY4]; exact bZD.far (p := ⟨g + 1 + 1, 4 + tn, none⟩) nZ _
      have bN4 : Blk Y4 (g + 1 + 1) 73 #[.int .i64 k, .int .i64 a, .int .i64 nt, .int .i64 c, .int .i64 n0, .int .i64 n1, .int .i64 n2, .int .i64 d] := by rw [hY4, ← HS.out]; exact bND.set_ (4 + tn) _
      have hX4 : Ext w Y4 := by rw [hY4]; exact hXD.setCell (p := ⟨g + 1 + 1, 4 + tn, none⟩) hgw _
      have hs4 : Y4.heap.size = g + 1 + 1 + 1 := by rw [hY4]; simpa [World.setCell] using hsD
      obtain ⟨gx, hgx⟩ : ∃ gx, Y4.heap.size = gx := ⟨_, rfl⟩
      have hgx3 : gx = g + 1 + 1 + 1 := by omega
      obtain ⟨Y5, hY5⟩ : ∃ Y5, Y5 = Y4.alloc (.cells #[.int .i64 a, .int .i64 0, .int .i64 0, .int .i64 0] 96) := ⟨_, rfl⟩
      have hX45 : Ext Y4 Y5 := by rw [hY5]; exact Ext.alloc _ _
      have st0 : LkS w b g gx m tn k a c d nt f0 f1 f2 n0 n1 n2 0 Y5 := ⟨bP4.ext hX45, bZ4.ext hX45, bN4.ext hX45, by rw [hY5]; exact Blk.new _ _ _ _ hgx, hX4.trans hX45⟩
      have q1 : Y4.cell? ⟨g, 1, none⟩ = some (.int .i64 a) := bP4.cell 1
      clear bPD bZD bND hXD hsD HS
      go_upto_region 5 with fail
      try rw [← hY4]
      clear hY4 z1 hu
      have a0 : Y5.cell? ⟨b, 0, none⟩ = some (.int .i64 m.tp) := (HB.out.ext st0.ext).cell 0
      have HGX := Lib.hid hgx3
      clear bP4 bZ4 bN4 hX4 hX45 hs4 hgx3
      go_upto_region 6 with fail
      try rw [hgx]
      try rw [← hY5]
      clear hY5 q1 hgx
      go_wp2_with fail
      clear a0
      go_loopw [9, 10, 59] (fun ms tt kk wr => ∃ kn : Nat, (kn : Int) ≤ m.tp ∧ kk = .int .i64 (kn : Int) ∧ ms = .bool (msF n0 n1 n2 kn) ∧ LkS w b g gx m tn k a c d nt f0 f1 f2 n0 n1 n2 kn wr) (fun _ _ kk _ => 3 - (intOf kk).toNat)
      case atStart => exact ⟨0, by omega, rfl, by simp [msF], st0⟩
      case round =>
        clear st0
        obtain ⟨kn, hkn, rfl, rfl, st⟩ := hrel
        by_cases hlt : (kn : Int) < m.tp
        · have hk3 : kn = 0 ∨ kn = 1 ∨ kn = 2 := by omega
          rcases hk3 with rfl | rfl | rfl
          · have qn : wr.cell? ⟨g + 1 + 1, 4, none⟩ = some (.int .i64 n0) := st.nx.cell 4
            have xB := st.rd.cell 1
            have xF := st.rd.frozen 1
            simp only [List.getElem?_toArray, List.getElem?_cons_zero, List.getElem?_cons_succ] at xB
            have hwm : IntKind.i64.wrap (n0 - 1) = n0 - 1 := IntWalk.i64_in _ (by omega)
            have hmx : max 0 (n0 - 1) = sF n0 := sF_max (by omega)
            have nPx : g ≠ gx := by have := HGX.out; omega
            have nZx : g + 1 ≠ gx := by have := HGX.out; omega
            have nNx : g + 1 + 1 ≠ gx := by have := HGX.out; omega
            have hwx : w.heap.size ≤ gx := by have := HGX.out; omega
            have st2 : LkS w b g gx m tn k a c d nt f0 f1 f2 n0 n1 n2 1 (wr.setCell ⟨gx, 1, none⟩ (.int .i64 (sF n0))) :=
              ⟨st.pl.far (p := ⟨gx, 1, none⟩) nPx _, st.ac.far (p := ⟨gx, 1, none⟩) nZx _, st.nx.far (p := ⟨gx, 1, none⟩) nNx _, st.rd.set_ 1 (.int .i64 (sF n0)), st.ext.setCell (p := ⟨gx, 1, none⟩) hwx _⟩
            have HS2 := Lib.hid st2
            have hmn : msF n0 n1 n2 1 = (msF n0 n1 n2 0 || decide (n0 = 0)) := by simp [msF]
            obtain ⟨mb, hmb⟩ : ∃ mb, msF n0 n1 n2 0 = mb := ⟨_, rfl⟩
            rw [hmb] at hmn ⊢
            have HMN := Lib.hid hmn
            have hlt' : (0 : Int) < m.tp := hlt
            clear st st2 hmn hmb hkn
            cases mb with
            | true =>
              go_wp2_with fail
              go_roundw
              case rel => exact ⟨1, by omega, rfl, by rw [HMN.out]; rfl, HS2.out⟩
              case measure => simp [intOf]
            | false =>
              by_cases hn : n0 = 0
              · have hnb : (n0 == 0) = true := by simp [hn]
                have HMM : Hid (msF n0 n1 n2 1 = true) := Lib.hid (by rw [HMN.out, hn]; rfl)
                clear hn
                go_wp2_with fail
                go_roundw
                case rel => exact ⟨1, by omega, rfl, by rw [HMM.out], HS2.out⟩
                case measure => simp [intOf]
              · have hnb : (n0 == 0) = false := by simp [hn]
                have HMM : Hid (msF n0 n1 n2 1 = false) := Lib.hid (by rw [HMN.out, decide_eq_false hn]; rfl)
                clear hn
                go_wp2_with fail
                go_roundw
                case rel => exact ⟨1, by omega, rfl, by rw [HMM.out], HS2.out⟩
                case measure => simp [intOf]
          · have qn : wr.cell? ⟨g + 1 + 1, 5, none⟩ = some (.int .i64 n1) := st.nx.cell 5
            have xB := st.rd.cell 2
            have xF := st.rd.frozen 2
            simp only [List.getElem?_toArray, List.getElem?_cons_zero, List.getElem?_cons_succ] at xB
            have hwm : IntKind.i64.wrap (n1 - 1) = n1 - 1 := IntWalk.i64_in _ (by omega)
            have hmx : max 0 (n1 - 1) = sF n1 := sF_max (by omega)
            have nPx : g ≠ gx := by have := HGX.out; omega
            have nZx : g + 1 ≠ gx := by have := HGX.out; omega
            have nNx : g + 1 + 1 ≠ gx := by have := HGX.out; omega
            have hwx : w.heap.size ≤ gx := by have := HGX.out; omega
            have st2 : LkS w b g gx m tn k a c d nt f0 f1 f2 n0 n1 n2 2 (wr.setCell ⟨gx, 2, none⟩ (.int .i64 (sF n1))) :=
              ⟨st.pl.far (p := ⟨gx, 2, none⟩) nPx _, st.ac.far (p := ⟨gx, 2, none⟩) nZx _, st.nx.far (p := ⟨gx, 2, none⟩) nNx _, st.rd.set_ 2 (.int .i64 (sF n1)), st.ext.setCell (p := ⟨gx, 2, none⟩) hwx _⟩
            have HS2 := Lib.hid st2
            have hmn : msF n0 n1 n2 2 = (msF n0 n1 n2 1 || decide (n1 = 0)) := by simp [msF]
            obtain ⟨mb, hmb⟩ : ∃ mb, msF n0 n1 n2 1 = mb := ⟨_, rfl⟩
            rw [hmb] at hmn ⊢
            have HMN := Lib.hid hmn
            have hlt' : (1 : Int) < m.tp := hlt
            clear st st2 hmn hmb hkn
            cases mb with
            | true =>
              go_wp2_with fail
              go_roundw
              case rel => exact ⟨2, by omega, rfl, by rw [HMN.out]; rfl, HS2.out⟩
              case measure => simp [intOf]
            | false =>
              by_cases hn : n1 = 0
              · have hnb : (n1 == 0) = true := by simp [hn]
                have HMM : Hid (msF n0 n1 n2 2 = true) := Lib.hid (by rw [HMN.out, hn]; rfl)
                clear hn
                go_wp2_with fail
                go_roundw
                case rel => exact ⟨2, by omega, rfl, by rw [HMM.out], HS2.out⟩
                case measure => simp [intOf]
              · have hnb : (n1 == 0) = false := by simp [hn]
                have HMM : Hid (msF n0 n1 n2 2 = false) := Lib.hid (by rw [HMN.out, decide_eq_false hn]; rfl)
                clear hn
                go_wp2_with fail
                go_roundw
                case rel => exact ⟨2, by omega, rfl, by rw [HMM.out], HS2.out⟩
                case measure => simp [intOf]
          · have qn : wr.cell? ⟨g + 1 + 1, 6, none⟩ = some (.int .i64 n2) := st.nx.cell 6
            have xB := st.rd.cell 3
            have xF := st.rd.frozen 3
            simp only [List.getElem?_toArray, List.getElem?_cons_zero, List.getElem?_cons_succ] at xB
            have hwm : IntKind.i64.wrap (n2 - 1) = n2 - 1 := IntWalk.i64_in _ (by omega)
            have hmx : max 0 (n2 - 1) = sF n2 := sF_max (by omega)
            have nPx : g ≠ gx := by have := HGX.out; omega
            have nZx : g + 1 ≠ gx := by have := HGX.out; omega
            have nNx : g + 1 + 1 ≠ gx := by have := HGX.out; omega
            have hwx : w.heap.size ≤ gx := by have := HGX.out; omega
            have st2 : LkS w b g gx m tn k a c d nt f0 f1 f2 n0 n1 n2 3 (wr.setCell ⟨gx, 3, none⟩ (.int .i64 (sF n2))) :=
              ⟨st.pl.far (p := ⟨gx, 3, none⟩) nPx _, st.ac.far (p := ⟨gx, 3, none⟩) nZx _, st.nx.far (p := ⟨gx, 3, none⟩) nNx _, st.rd.set_ 3 (.int .i64 (sF n2)), st.ext.setCell (p := ⟨gx, 3, none⟩) hwx _⟩
            have HS2 := Lib.hid st2
            have hmn : msF n0 n1 n2 3 = (msF n0 n1 n2 2 || decide (n2 = 0)) := by simp [msF]
            obtain ⟨mb, hmb⟩ : ∃ mb, msF n0 n1 n2 2 = mb := ⟨_, rfl⟩
            rw [hmb] at hmn ⊢
            have HMN := Lib.hid hmn
            have hlt' : (2 : Int) < m.tp := hlt
            clear st st2 hmn hmb hkn
            cases mb with
            | true =>
              go_wp2_with fail
              go_roundw
              case rel => exact ⟨3, by omega, rfl, by rw [HMN.out]; rfl, HS2.out⟩
              case measure => simp [intOf]
            | false =>
              by_cases hn : n2 = 0
              · have hnb : (n2 == 0) = true := by simp [hn]
                have HMM : Hid (msF n0 n1 n2 3 = true) := Lib.hid (by rw [HMN.out, hn]; rfl)
                clear hn
                go_wp2_with fail
                go_roundw
                case rel => exact ⟨3, by omega, rfl, by rw [HMM.out], HS2.out⟩
                case measure => simp [intOf]
              · have hnb : (n2 == 0) = false := by simp [hn]
                have HMM : Hid (msF n0 n1 n2 3 = false) := Lib.hid (by rw [HMN.out, decide_eq_false hn]; rfl)
                clear hn
                go_wp2_with fail
                go_roundw
                case rel => exact ⟨3, by omega, rfl, by rw [HMM.out], HS2.out⟩
                case measure => simp [intOf]
        · have hkT : (kn : Int) = m.tp := by omega
          have h02 : 0 < kn := by omega
          have h12 : 1 < kn := by omega
          obtain ⟨s2', hs2'⟩ : ∃ x, (if 2 < kn then sF n2 else 0) = x := ⟨_, rfl⟩
          have bX := st.rd
          rw [if_pos h02, if_pos h12, hs2'] at bX
          have hML : msF n0 n1 n2 kn = lacksB m ⟨k, a, nt, c, n0, n1, n2, d⟩ := by
            have hT : m.tp = 2 ∨ m.tp = 3 := by omega
            rcases hT with hT | hT
            · obtain rfl : kn = 2 := by omega
              simp [msF, lacksB, hT]
            · obtain rfl : kn = 3 := by omega
              simp [msF, lacksB, hT]
          have hsf : ∀ {{f : Int}}, 0 ≤ f → f ≤ m.sy → smallZ (sF f) := fun {{f}} h0 h1 => by unfold smallZ sF; split <;> omega
          have hs2z : smallZ s2' := by
            rw [← hs2']
            split
            · exact hsf N2.1 N2.2
            · unfold smallZ; omega
          have HKE : Hid (lacksB m ⟨k, a, nt, c, n0, n1, n2, d⟩ = false → symsP m ⟨k, a, nt, c, n0, n1, n2, d⟩ = (a, sF n0, sF n1, s2')) := Lib.hid (fun hl => by
            have hT : m.tp = 2 ∨ m.tp = 3 := by omega
            have hl2 : n0 ≠ 0 ∧ n1 ≠ 0 ∧ (m.tp = 3 → n2 ≠ 0) := by
              simp only [lacksB, Bool.or_eq_false_iff, Bool.and_eq_false_iff, decide_eq_false_iff_not] at hl
              obtain ⟨⟨e1, e2⟩, e3⟩ := hl
              exact ⟨e1, e2, fun h3 => e3.resolve_left (fun hh => hh h3)⟩
            have e0 : sF n0 = n0 - 1 := if_neg hl2.1
            have e1 : sF n1 = n1 - 1 := if_neg hl2.2.1
            rcases hT with hT | hT
            · obtain rfl : kn = 2 := by omega
              rw [← hs2', e0, e1]
              simp [symsP, hT]
            · obtain rfl : kn = 3 := by omega
              rw [← hs2', e0, e1, if_pos (by omega)]
              have e2 : sF n2 = n2 - 1 := if_neg (hl2.2.2 hT)
              simp [symsP, hT, e2])
          have hlook := fun d' os => ((HTB.out.ext st.ext).ext (below_regrown wr d' os)).lookup2 rdTy (a, sF n0, sF n1, s2') (rdKey _ ha (hsf N0.1 N0.2) (hsf N1.1 N1.2) hs2z)
          simp only [rdE] at hlook
          have b4 : wr.cell? ⟨b, 4, none⟩ = some (.map (some bm)) := (HB.out.ext st.ext).cell 4
          have x0 : wr.cell? ⟨gx, 0, none⟩ = some (.int .i64 a) := bX.cell 0
          have x1 : wr.cell? ⟨gx, 1, none⟩ = some (.int .i64 (sF n0)) := bX.cell 1
          have x2 : wr.cell? ⟨gx, 2, none⟩ = some (.int .i64 (sF n1)) := bX.cell 2
          have x3 : wr.cell? ⟨gx, 3, none⟩ = some (.int .i64 s2') := bX.cell 3
          have d4 := cellR b4
          have e0 := cellR x0
          have e1 := cellR x1
          have e2 := cellR x2
          have e3 := cellR x3
          obtain ⟨ob, hob⟩ : ∃ ob, findM m.rules (a, sF n0, sF n1, s2') m.rules.length = ob := ⟨_, rfl⟩
          have htbl : tblM m.rules m.rules.length (a, sF n0, sF n1, s2') = Option.map (fun i : Nat => (i : Int)) ob := by unfold tblM; rw [hob]
          rw [htbl] at hlook
          rw [hML]
          have HOB := Lib.hid hob
          have hoi : ∀ i : Nat, ob = some i → i < m.rules.length := fun i hi => findM_lt (hob.trans hi)
          have bN := st.nx
          have bZ := st.ac
          have bP := st.pl
          have hXr := st.ext
          clear b4 x0 x1 x2 x3 bX st hs2' htbl hob hML hlt hkn h02 h12
          have hgz : w.heap.size ≤ g + 1 := by omega
          go_wp2_with fail
          refine wp_region_ext (by kernel_rfl) (by kernel_rfl) ?_
          repeat (go_big_quiet_step (fail))
          refine wpQuiet_nil ?_
          intro w6 hx6
          clear d4 e0 e1 e2 e3 hlook
          have hX6 := hXr.trans hx6
          have bN6 := bN.ext hx6
          have bZ6 := bZ.ext hx6
          have bP6 := bP.ext hx6
          clear bN bZ bP hXr hx6
          obtain ⟨lk, hlk⟩ : ∃ x, lacksB m ⟨k, a, nt, c, n0, n1, n2, d⟩ = x := ⟨_, rfl⟩
          rw [hlk] at HE HKE ⊢
          clear hlk
          cases lk with
          | true =>
            rw [if_pos rfl] at HE
            have bN9 := bN6
            have bZ9 := bZ6
            have zN := bN9.cell
            have zZ := bZ9.cell
            have zF := bZ9.frozen
            have hw9 : w.heap.size ≤ g + 1 := by omega
            clear bN9 bZ9
            go_wp2_with fail
            refine bodyPost_ret (v := ActM ⟨v, 1, ⟨k, a, nt, c, n0, n1, n2, d⟩, false⟩) (by simp [results, Tryz.results67, go_sem, zZ, ActM]) rfl ?_
            exact ⟨by rw [HE.out], by repeat (first | with_reducible exact hX6 | refine Ext.setCell ?_ hw9 _)⟩
          | false =>
            rw [if_neg (by simp), HKE.out rfl, HOB.out] at HE
            clear HKE HOB bN6
            cases ob with
            | some i =>
              have hil := hoi i rfl
              have q2 : w6.cell? ⟨g, 2, none⟩ = some (.int .i64 (tn : Int)) := bP6.cell 2
              have PC := put_c b m (i : Int) (tn : Int) 0 w6 (HWV.out.ext hX6) hm (by omega) (by omega) t0 t1 (by omega) (by omega)
              simp only [Option.map_some, Option.getD_some, Option.isSome_some]
              clear hoi bP6
              go_wp2_with fail
              refine PC.mono ?_
              rintro e w7 ⟨rfl, hx7⟩
              have bZ7 := bZ6.ext hx7
              have hX7 := hX6.trans hx7
              obtain ⟨q, hq⟩ : ∃ q, putP m (i : Int) (tn : Int) 0 = q := ⟨_, rfl⟩
              have HE2 : Hid (lkP m ⟨k, a, (tn : Int), c, f0, f1, f2, d⟩ v = q) := Lib.hid (HE.out.trans hq)
              rw [hq]
              clear hq PC q2 HE
              have zZ := bZ7.cell
              have zF := bZ7.frozen
              simp only [ActM]
              go_wp2_with fail
              refine bodyPost_ret (v := ActM q) (by simp [results, Tryz.results67, go_sem, zZ, ActM]) rfl ?_
              exact ⟨by rw [HE2.out], by repeat (first | with_reducible exact hX7 | refine Ext.setCell ?_ hgz _)⟩
            | none =>
              have HE2 : Hid (lkP m ⟨k, a, (tn : Int), c, f0, f1, f2, d⟩ v = noW) := Lib.hid HE.out
              clear HE hoi bP6
              simp only [Option.map_none, Option.getD_none, Option.isSome_none]
              have zZ := bZ6.cell
              have zF := bZ6.frozen
              go_wp2_with fail
              refine bodyPost_ret (v := ActM noW) (by simp [results, Tryz.results67, go_sem, zZ, ActM, noW, mp0]) rfl ?_
              exact ⟨by rw [HE2.out], by repeat (first | with_reducible exact hX6 | refine Ext.setCell ?_ hgz _)⟩
    · have hfb : (fv == 0) = false := by simp [hf]
      have HE : Hid (lkP m ⟨k, a, (tn : Int), c, f0, f1, f2, d⟩ v = ⟨v, 1, ⟨k, a, nt, c, f0, f1, f2, d⟩, false⟩) := Lib.hid (by rw [HLK.out, if_neg (fun hh => hf hh.2)])
      clear hf
      have bN9 := bN2
      have bZ9 := bZ2
      have zN := bN9.cell
      have zZ := bZ9.cell
      have zF := bZ9.frozen
      have hw9 : w.heap.size ≤ g + 1 := by omega
      clear bN9 bZ9
      go_wp2_with fail
      refine bodyPost_ret (v := ActM ⟨v, 1, ⟨k, a, nt, c, f0, f1, f2, d⟩, false⟩) (by simp [results, Tryz.results67, go_sem, zZ, ActM]) rfl ?_
      exact ⟨by rw [HE.out], by repeat (first | with_reducible exact hX2 | refine Ext.setCell ?_ hw9 _)⟩
  · have HE : Hid (lkP m ⟨k, a, (tn : Int), c, f0, f1, f2, d⟩ v = ⟨v, 1, ⟨k, a, nt, c, f0, f1, f2, d⟩, false⟩) := Lib.hid (by rw [HLK.out, if_neg (fun hh => hv hh.1)])
    clear qf
    have bN9 := bN2
    have bZ9 := bZ2
    have zN := bN9.cell
    have zZ := bZ9.cell
    have zF := bZ9.frozen
    have hw9 : w.heap.size ≤ g + 1 := by omega
    clear bN9 bZ9
    go_wp2_with fail
    refine bodyPost_ret (v := ActM ⟨v, 1, ⟨k, a, nt, c, f0, f1, f2, d⟩, false⟩) (by simp [results, Tryz.results67, go_sem, zZ, ActM]) rfl ?_
    exact ⟨by rw [HE.out], by repeat (first | with_reducible exact hX2 | refine Ext.setCell ?_ hw9 _)⟩
end Go.Proofs.YtgeckhjkahnonaaGreatDoor
end
section
set_option linter.unusedSimpArgs false
set_option linter.unusedVariables false
namespace Go.Proofs.YtgeckhjkahnonaaGreatDoor
open Go Go.RowKit Go.Proofs Go.Maps
set_option maxHeartbeats 400000
theorem and_bits {d : Int} (h0 : 0 ≤ d) (h7 : d ≤ 7) : bits .and .i64 d 1 = d % 2 ∧ bits .and .i64 (d / 2) 1 = d / 2 % 2 ∧ bits .and .i64 (d / 4) 1 = d / 4 % 2 := by
  have h : d = 0 ∨ d = 1 ∨ d = 2 ∨ d = 3 ∨ d = 4 ∨ d = 5 ∨ d = 6 ∨ d = 7 := by omega
  rcases h with rfl | rfl | rfl | rfl | rfl | rfl | rfl | rfl <;> decide
set_option maxRecDepth 20000 in
set_option maxHeartbeats 16000000 in
theorem wat_c (b : Nat) (m : MultiD) (p : MP) (v : Int) (w : World) (h : Weav w b m) (hm : multiOk m = true) (hp : WOk m p) (v0 : 0 ≤ v) (v1 : v < 2 * m.sy) :
    Calls Tryz.prog 46 #[.pointer (some ⟨b, 0, none⟩), p.v, .int .i64 v] w fun e w' => e = .returned (ActM (actW m p v)) ∧ Ext w w' := by
  obtain ⟨⟨tp1, tp2⟩, ⟨y1, y2⟩, ⟨s1, s2⟩, hrl, _⟩ := multi_all hm
  obtain ⟨k, a, t, c, f0, f1, f2, d⟩ := p
  have t0 := hp.t0
  have t1 := hp.t1
  have cc0 := hp.c0
  have cc1 := hp.c1
  have dd0 := hp.d0
  have dd7 := hp.d7
  have kd := hp.kd
  simp only at t0 t1 cc0 cc1 dd0 dd7 kd
  obtain ⟨tn, rfl⟩ : ∃ n : Nat, t = (n : Int) := ⟨t.toNat, by omega⟩
  obtain ⟨g, hg⟩ : ∃ g, w.heap.size = g := ⟨_, rfl⟩
  obtain ⟨W, hW⟩ : ∃ W, W = ((w.alloc (.cells #[.int .i64 k, .int .i64 a, .int .i64 (tn : Int), .int .i64 c, .int .i64 f0, .int .i64 f1, .int .i64 f2, .int .i64 d] 73)).alloc (.cells #[.int .i64 0, .int .i64 0, .int .i64 0, .int .i64 0, .int .i64 0, .int .i64 0, .int .i64 0, .int .i64 0, .int .i64 0, .int .i64 0, .bool false] 139)).alloc (.cells #[.int .i64 k, .int .i64 a, .int .i64 (tn : Int), .int .i64 (c - 1), .int .i64 f0, .int .i64 f1, .int .i64 f2, .int .i64 d] 73) := ⟨_, rfl⟩
  have hX : Ext w W := by rw [hW]; exact ((Ext.alloc _ _).trans (Ext.alloc _ _)).trans (Ext.alloc _ _)
  have bP : Blk W g 73 #[.int .i64 k, .int .i64 a, .int .i64 (tn : Int), .int .i64 c, .int .i64 f0, .int .i64 f1, .int .i64 f2, .int .i64 d] := by rw [hW]; exact ((Blk.new _ _ _ _ hg).alloc _).alloc _
  have bZ : Blk W (g + 1) 139 #[.int .i64 0, .int .i64 0, .int .i64 0, .int .i64 0, .int .i64 0, .int .i64 0, .int .i64 0, .int .i64 0, .int .i64 0, .int .i64 0, .bool false] := by rw [hW]; exact (Blk.new _ _ _ _ (by simp [hg])).alloc _
  have bN : Blk W (g + 1 + 1) 73 #[.int .i64 k, .int .i64 a, .int .i64 (tn : Int), .int .i64 (c - 1), .int .i64 f0, .int .i64 f1, .int .i64 f2, .int .i64 d] := by rw [hW]; exact Blk.new _ _ _ _ (by simp [hg])
  have HWV := Lib.hid (h.ext hX)
  have hwc : IntKind.i64.wrap (c - 1) = c - 1 := IntWalk.i64_in _ (by omega)
  have hgz : w.heap.size ≤ g + 1 := by omega
  have hgn : w.heap.size ≤ g + 1 + 1 := by omega
  simp only [MP.v]
  have hbg : b < g := by
    obtain ⟨_, _, _, hb0, _, _⟩ := id h
    have := hb0.lt
    omega
  clear h
  go_enter Tryz.func46, Tryz.ntmps46
  go_upto_region 3 with fail
  try rw [hg]
  try rw [← hW]
  clear hW
  rcases kd with ⟨rfl, a0, a1, rfl, rfl, hlk, hf2⟩ | ⟨hk12, a0, a1, rfl, rfl, rfl⟩ | ⟨rfl, a0, a1, rfl, rfl, rfl, rfl⟩ | ⟨rfl, a0, a1, ck, ht, rfl, rfl, rfl, rfl⟩
  · have LK := looked_c b m ⟨0, a, (tn : Int), 0, f0, f1, f2, 0⟩ v W HWV.out hm hp rfl v0 v1
    simp only [MP.v] at LK
    obtain ⟨q, hq⟩ : ∃ q, lkP m ⟨0, a, (tn : Int), 0, f0, f1, f2, 0⟩ v = q := ⟨_, rfl⟩
    rw [hq] at LK
    have HE : Hid (actW m ⟨0, a, (tn : Int), 0, f0, f1, f2, 0⟩ v = q) := Lib.hid (by rw [← hq]; rfl)
    clear hq hp hwc
    have p0 : W.cell? ⟨g, 0, none⟩ = some (.int .i64 0) := bP.cell 0
    have p1 : W.cell? ⟨g, 1, none⟩ = some (.int .i64 a) := bP.cell 1
    have p2 : W.cell? ⟨g, 2, none⟩ = some (.int .i64 (tn : Int)) := bP.cell 2
    have p3 : W.cell? ⟨g, 3, none⟩ = some (.int .i64 0) := bP.cell 3
    have p4 : W.cell? ⟨g, 4, none⟩ = some (.int .i64 f0) := bP.cell 4
    have p5 : W.cell? ⟨g, 5, none⟩ = some (.int .i64 f1) := bP.cell 5
    have p6 : W.cell? ⟨g, 6, none⟩ = some (.int .i64 f2) := bP.cell 6
    have p7 : W.cell? ⟨g, 7, none⟩ = some (.int .i64 0) := bP.cell 7
    go_wp2_with fail
    refine LK.mono ?_
    rintro e w1 ⟨rfl, hx1⟩
    have hX1 := hX.trans hx1
    have zZ := (bZ.ext hx1).cell
    have zF := (bZ.ext hx1).frozen
    clear LK p0 p1 p2 p3 p4 p5 p6 p7 bN bP
    simp only [ActM]
    go_wp2_with fail
    refine bodyPost_ret (v := ActM q) (by simp [results, Tryz.results46, go_sem, zZ, ActM]) rfl ?_
    exact ⟨by rw [HE.out], by repeat (first | with_reducible exact hX1 | refine Ext.setCell ?_ hgz _)⟩
  · obtain ⟨j, rfl, hj, hme, hr⟩ := mrAt_ok hm a0 a1
    have hl3 := (mrule_all hr).2.2.2.2.1
    have htl3 : tn < m.rules[j].mv.length := by omega
    have hm0 := (mrule_all hr).2.2.2.2.2.2.2 _ (List.getElem_mem htl3)
    have em : (mrAt m (j : Int)).mv.getD (tn : Int).toNat 0 = m.rules[j].mv[tn] := by rw [hme, Int.toNat_natCast, List.getD_eq_getElem?_getD, List.getElem?_eq_getElem htl3]; rfl
    obtain ⟨A, cA, bm, hb, hR, _⟩ := HWV.out
    obtain ⟨rb, ro, vr, vw, vm, rfl, r0, r1, r2, r3, r4, i1', i2', i3'⟩ := hR.at hj
    obtain ⟨r, hrk⟩ : ∃ r, m.rules[j] = r := ⟨_, rfl⟩
    simp only [hrk] at r3 i3' hm0 em hl3 htl3
    obtain ⟨A3, k3, rfl, _, _⟩ := id i3'.form
    obtain ⟨gm, om, rfl, cm⟩ := i3'.at htl3
    have cmt := cm tn htl3
    obtain ⟨y, hy⟩ : ∃ y, r.mv[tn] = y := ⟨_, rfl⟩
    rw [hy] at cmt hm0 em
    have b0 : W.cell? ⟨b, 0, none⟩ = some (.int .i64 m.tp) := hb.cell 0
    have b1 : W.cell? ⟨b, 1, none⟩ = some (.int .i64 m.sy) := hb.cell 1
    have b3 : W.cell? ⟨b, 3, none⟩ = some (.slice (some ⟨rb, ro, none⟩) m.rules.length cA) := hb.cell 3
    have hji : (j : Int) < (m.rules.length : Int) := by omega
    have htm : (tn : Int) < (r.mv.length : Int) := by omega
    have hwn : IntKind.i64.wrap (-y) = -y := IntWalk.i64_in _ (by omega)
    have EM : Hid ((mrAt m (j : Int)).mv.getD (tn : Int).toNat 0 = y) := Lib.hid em
    clear hrk hy cm i1' i2' i3' r0 r1 r2 r4 hme hr em hR hb
    rcases hk12 with rfl | rfl
    · have p0 : W.cell? ⟨g, 0, none⟩ = some (.int .i64 1) := bP.cell 0
      have p1 : W.cell? ⟨g, 1, none⟩ = some (.int .i64 (j : Int)) := bP.cell 1
      have p2 : W.cell? ⟨g, 2, none⟩ = some (.int .i64 (tn : Int)) := bP.cell 2
      go_upto_region 13 with fail
      have zD := Ext.drew W
      have e3 := zD.cell b3
      have e4 := zD.cell r3
      have e5 := zD.cell cmt
      have e6 := zD.cell p1
      have e7 := zD.cell p2
      refine wp_region_ordT 14 (readsT [0, 1, 2, 3, 4, 5, 6, 7, 8, 9, 10, 11, 12, 13] .done) (by kernel_rfl) (by kernel_rfl) (fun _ _ _ _ _ h => h) ?_
      simp only [readsT]
      iterate 14 (refine wpOrdT_read (v := ?_) (by rfl) (Or.inl ⟨by rfl, fun x hx => ?_⟩) ?_; rotate_left; (· have ue3 := hx.cell e3; have ue4 := hx.cell e4; have ue5 := hx.cell e5; have ue6 := hx.cell e6; have ue7 := hx.cell e7; go_simp; try with_reducible rfl); try simp only [Act.put, List.setIfInBounds_toArray, List.set_cons_zero, List.set_cons_succ])
      refine wpOrdT_done ?_
      try simp only [List.drop_succ_cons, List.drop_zero]
      have hXD := hX.trans zD
      have bPD := bP.ext zD
      have bZD := bZ.ext zD
      have bND := bN.ext zD
      have b0 := zD.cell b0
      have b1 := zD.cell b1
      have HWD : Hid (Weav W.drew b m) := Lib.hid (HWV.out.ext zD)
      clear e3 e4 e5 e6 e7 b3 r3 cmt p0 p1 p2 bP bZ bN hX zD HWV
      change wpList _ _ _ _ _ W.drew
      generalize W.drew = Y at *
      have bP := bPD
      have bN := bND
      have zZ := bZD.cell
      have zF := bZD.frozen
      clear bPD bND
      have p0 : Y.cell? ⟨g, 0, none⟩ = some (.int .i64 1) := bP.cell 0
      have p3 : Y.cell? ⟨g, 3, none⟩ = some (.int .i64 c) := bP.cell 3
      by_cases hc : 0 < c
      · have HE : Hid (actW m ⟨1, (j : Int), (tn : Int), c, 0, 0, 0, d⟩ v = ⟨v, y, ⟨1, (j : Int), (tn : Int), c - 1, 0, 0, 0, d⟩, false⟩) := Lib.hid (by
          have e : actW m ⟨1, (j : Int), (tn : Int), c, 0, 0, 0, d⟩ v = (if 0 < c then ⟨v, mvP m ⟨1, (j : Int), (tn : Int), c, 0, 0, 0, d⟩, ⟨1, (j : Int), (tn : Int), c - 1, 0, 0, 0, d⟩, false⟩ else ⟨v % m.sy + m.sy, -(mvP m ⟨1, (j : Int), (tn : Int), c, 0, 0, 0, d⟩), ⟨2, (j : Int), (tn : Int), m.tp - 1, 0, 0, 0, d⟩, false⟩) := rfl
          rw [e, if_pos hc]
          unfold mvP
          rw [EM.out])
        have n0 : Y.cell? ⟨g + 1 + 1, 0, none⟩ = some (.int .i64 1) := bN.cell 0
        have n1 : Y.cell? ⟨g + 1 + 1, 1, none⟩ = some (.int .i64 (j : Int)) := bN.cell 1
        have n2 : Y.cell? ⟨g + 1 + 1, 2, none⟩ = some (.int .i64 (tn : Int)) := bN.cell 2
        have n3 : Y.cell? ⟨g + 1 + 1, 3, none⟩ = some (.int .i64 (c - 1)) := bN.cell 3
        have n4 : Y.cell? ⟨g + 1 + 1, 4, none⟩ = some (.int .i64 0) := bN.cell 4
        have n5 : Y.cell? ⟨g + 1 + 1, 5, none⟩ = some (.int .i64 0) := bN.cell 5
        have n6 : Y.cell? ⟨g + 1 + 1, 6, none⟩ = some (.int .i64 0) := bN.cell 6
        have n7 : Y.cell? ⟨g + 1 + 1, 7, none⟩ = some (.int .i64 d) := bN.cell 7
        go_wp2_with fail
        refine bodyPost_ret (v := ActM ⟨v, y, ⟨1, (j : Int), (tn : Int), c - 1, 0, 0, 0, d⟩, false⟩) (by simp [results, Tryz.results46, go_sem, zZ, ActM]) rfl ?_
        exact ⟨by rw [HE.out], by repeat (first | with_reducible exact hXD | refine Ext.setCell ?_ hgz _)⟩
      · obtain rfl : c = 0 := by omega
        have HE : Hid (actW m ⟨1, (j : Int), (tn : Int), 0, 0, 0, 0, d⟩ v = ⟨v % m.sy + m.sy, -y, ⟨2, (j : Int), (tn : Int), m.tp - 1, 0, 0, 0, d⟩, false⟩) := Lib.hid (by
          have e : actW m ⟨1, (j : Int), (tn : Int), 0, 0, 0, 0, d⟩ v = ⟨v % m.sy + m.sy, -(mvP m ⟨1, (j : Int), (tn : Int), 0, 0, 0, 0, d⟩), ⟨2, (j : Int), (tn : Int), m.tp - 1, 0, 0, 0, d⟩, false⟩ := rfl
          rw [e]
          unfold mvP
          rw [EM.out])
        have hwt : IntKind.i64.wrap (m.tp - 1) = m.tp - 1 := IntWalk.i64_in _ (by omega)
        have hsy0 : ¬ m.sy = 0 := by omega
        obtain ⟨x, hx⟩ : ∃ x, v % m.sy = x := ⟨_, rfl⟩
        have hxm : v.tmod m.sy = x := by rw [Int.tmod_eq_emod_of_nonneg (by omega)]; exact hx
        have hx0 : 0 ≤ x ∧ x < m.sy := by rw [← hx]; exact ⟨Int.emod_nonneg _ (by omega), Int.emod_lt_of_pos _ (by omega)⟩
        have hwx : IntKind.i64.wrap (x + m.sy) = x + m.sy := IntWalk.i64_in _ (by omega)
        rw [hx] at HE
        clear hx
        have zn0 : Y.cell? ⟨g + 1 + 1, 0, none⟩ = some (.int .i64 1) := bN.cell 0
        have znf := bN.frozen
        go_upto_region 17 with fail
        have zD := Ext.drew Y
        obtain ⟨Y2, hY2⟩ : ∃ Y2, Y2 = (Y.setCell ⟨g + 1 + 1, 0, none⟩ (.int .i64 2)).drew := ⟨_, rfl⟩
        have zD2 := Ext.drew (Y.setCell ⟨g + 1 + 1, 0, none⟩ (.int .i64 2))
        have nZ : g + 1 ≠ g + 1 + 1 := by omega
        have hbn : b ≠ g + 1 + 1 := by omega
        have bN2 : Blk Y2 (g + 1 + 1) 73 #[.int .i64 2, .int .i64 (j : Int), .int .i64 (tn : Int), .int .i64 (0 - 1), .int .i64 0, .int .i64 0, .int .i64 0, .int .i64 d] := by rw [hY2]; exact (bN.set_ 0 (.int .i64 2)).drew
        have bZ2 : Blk Y2 (g + 1) 139 #[.int .i64 0, .int .i64 0, .int .i64 0, .int .i64 0, .int .i64 0, .int .i64 0, .int .i64 0, .int .i64 0, .int .i64 0, .int .i64 0, .bool false] := by rw [hY2]; exact (bZD.far (p := ⟨g + 1 + 1, 0, none⟩) nZ _).drew
        have hX2 : Ext w Y2 := by rw [hY2]; exact (hXD.setCell (p := ⟨g + 1 + 1, 0, none⟩) hgn _).trans zD2
        have hoth : ∀ z u, (Y.setCell ⟨g + 1 + 1, 0, none⟩ u).cell? ⟨b, z, none⟩ = Y.cell? ⟨b, z, none⟩ := fun z u => World.cell?_setCell_other Y _ ⟨b, z, none⟩ _ (fun e => hbn (congrArg Addr.block e).symm)
        have b02 : Y2.cell? ⟨b, 0, none⟩ = some (.int .i64 m.tp) := by rw [hY2]; exact (hoth 0 _).trans b0
        have b12 : Y2.cell? ⟨b, 1, none⟩ = some (.int .i64 m.sy) := by rw [hY2]; exact (hoth 1 _).trans b1
        refine wp_region_ordTS (fun x : World => x.cell? ⟨b, 0, none⟩ = some (.int .i64 m.tp)) 8 (readsT [0, 1, 2, 3, 4, 5, 6] (.stir 7 .done)) (by kernel_rfl) (by kernel_rfl) (fun _ _ _ _ _ h => h) b0 ?_
        simp only [readsT]
        iterate 7 (refine wpOrdT_read (v := ?_) (by rfl) (Or.inl ⟨by rfl, fun x hx => ?_⟩) ?_; rotate_left; (· go_simp; try with_reducible rfl); try simp only [Act.put, List.setIfInBounds_toArray, List.set_cons_zero, List.set_cons_succ])
        refine wpOrdT_keep (by rfl) (fun K hK => ?_)
        go_simp
        refine hK _ _ (by first | exact b02 | (rw [← hY2]; exact b02)) ?_
        clear hK K
        try simp only [Act.put, List.setIfInBounds_toArray, List.set_cons_zero, List.set_cons_succ]
        refine wpOrdT_done ?_
        try simp only [List.drop_succ_cons, List.drop_zero]
        change wpList _ _ _ _ _ (Y.setCell ⟨g + 1 + 1, 0, none⟩ (.int .i64 2)).drew
        rw [← hY2]
        clear hY2 hoth zD2 zn0 znf zZ zF b0 b1 p0 p3 bN bP bZD hXD HWD
        have zn := bN2.cell
        have zf := bN2.frozen
        obtain ⟨Y3, hY3⟩ : ∃ Y3, Y3 = Y2.setCell ⟨g + 1 + 1, 3, none⟩ (.int .i64 (m.tp - 1)) := ⟨_, rfl⟩
        have bN3 : Blk Y3 (g + 1 + 1) 73 #[.int .i64 2, .int .i64 (j : Int), .int .i64 (tn : Int), .int .i64 (m.tp - 1), .int .i64 0, .int .i64 0, .int .i64 0, .int .i64 d] := by rw [hY3]; exact bN2.set_ 3 _
        have bZ3 : Blk Y3 (g + 1) 139 #[.int .i64 0, .int .i64 0, .int .i64 0, .int .i64 0, .int .i64 0, .int .i64 0, .int .i64 0, .int .i64 0, .int .i64 0, .int .i64 0, .bool false] := by rw [hY3]; exact bZ2.far (p := ⟨g + 1 + 1, 3, none⟩) nZ _
        have hX3 : Ext w Y3 := by rw [hY3]; exact hX2.setCell (p := ⟨g + 1 + 1, 3, none⟩) hgn _
        have b13 : Y3.cell? ⟨b, 1, none⟩ = some (.int .i64 m.sy) := by rw [hY3]; exact (World.cell?_setCell_other Y2 _ ⟨b, 1, none⟩ _ (fun e => hbn (congrArg Addr.block e).symm)).trans b12
        clear b02 b12 bZ2 hX2
        go_upto_region 18 with fail
        try rw [← hY3]
        clear hY3 zn zf bN2
        have zD := Ext.drew Y3
        have e1 := zD.cell b13
        have e2 : Y3.drew.cell? ⟨g + 1 + 1, 0, none⟩ = some (.int .i64 2) := bN3.cell 0
        have e3 : Y3.drew.cell? ⟨g + 1 + 1, 1, none⟩ = some (.int .i64 (j : Int)) := bN3.cell 1
        have e4 : Y3.drew.cell? ⟨g + 1 + 1, 2, none⟩ = some (.int .i64 (tn : Int)) := bN3.cell 2
        have e5 : Y3.drew.cell? ⟨g + 1 + 1, 3, none⟩ = some (.int .i64 (m.tp - 1)) := bN3.cell 3
        have e6 : Y3.drew.cell? ⟨g + 1 + 1, 4, none⟩ = some (.int .i64 0) := bN3.cell 4
        have e7 : Y3.drew.cell? ⟨g + 1 + 1, 5, none⟩ = some (.int .i64 0) := bN3.cell 5
        have e8 : Y3.drew.cell? ⟨g + 1 + 1, 6, none⟩ = some (.int .i64 0) := bN3.cell 6
        have e9 : Y3.drew.cell? ⟨g + 1 + 1, 7, none⟩ = some (.int .i64 d) := bN3.cell 7
        refine wp_region_ordT 16 (readsT [0, 1, 2, 3, 4, 5, 6, 7, 8, 9, 10, 11, 12, 13, 14, 15] .done) (by kernel_rfl) (by kernel_rfl) (fun _ _ _ _ _ h => h) ?_
        simp only [readsT]
        iterate 16 (refine wpOrdT_read (v := ?_) (by rfl) (Or.inl ⟨by rfl, fun x hx => ?_⟩) ?_; rotate_left; (· have ue1 := hx.cell e1; have ue2 := hx.cell e2; have ue3 := hx.cell e3; have ue4 := hx.cell e4; have ue5 := hx.cell e5; have ue6 := hx.cell e6; have ue7 := hx.cell e7; have ue8 := hx.cell e8; have ue9 := hx.cell e9; go_simp; try with_reducible rfl); try simp only [Act.put, List.setIfInBounds_toArray, List.set_cons_zero, List.set_cons_succ])
        refine wpOrdT_done ?_
        try simp only [List.drop_succ_cons, List.drop_zero]
        have hXE := hX3.trans zD
        have bZE := bZ3.ext zD
        clear e1 e2 e3 e4 e5 e6 e7 e8 e9 bN3 bZ3 b13 hX3 zD
        change wpList _ _ _ _ _ Y3.drew
        generalize Y3.drew = Y4 at *
        have zZ := bZE.cell
        have zF := bZE.frozen
        go_wp2_with fail
        refine bodyPost_ret (v := ActM ⟨x + m.sy, -y, ⟨2, (j : Int), (tn : Int), m.tp - 1, 0, 0, 0, d⟩, false⟩) (by simp [results, Tryz.results46, go_sem, zZ, ActM]) rfl ?_
        exact ⟨by rw [HE.out], by repeat (first | with_reducible exact hXE | refine Ext.setCell ?_ hgz _)⟩
    · have p0 : W.cell? ⟨g, 0, none⟩ = some (.int .i64 2) := bP.cell 0
      have p1 : W.cell? ⟨g, 1, none⟩ = some (.int .i64 (j : Int)) := bP.cell 1
      have p2 : W.cell? ⟨g, 2, none⟩ = some (.int .i64 (tn : Int)) := bP.cell 2
      go_upto_region 13 with fail
      have zD := Ext.drew W
      have e3 := zD.cell b3
      have e4 := zD.cell r3
      have e5 := zD.cell cmt
      have e6 := zD.cell p1
      have e7 := zD.cell p2
      refine wp_region_ordT 14 (readsT [0, 1, 2, 3, 4, 5, 6, 7, 8, 9, 10, 11, 12, 13] .done) (by kernel_rfl) (by kernel_rfl) (fun _ _ _ _ _ h => h) ?_
      simp only [readsT]
      iterate 14 (refine wpOrdT_read (v := ?_) (by rfl) (Or.inl ⟨by rfl, fun x hx => ?_⟩) ?_; rotate_left; (· have ue3 := hx.cell e3; have ue4 := hx.cell e4; have ue5 := hx.cell e5; have ue6 := hx.cell e6; have ue7 := hx.cell e7; go_simp; try with_reducible rfl); try simp only [Act.put, List.setIfInBounds_toArray, List.set_cons_zero, List.set_cons_succ])
      refine wpOrdT_done ?_
      try simp only [List.drop_succ_cons, List.drop_zero]
      have hXD := hX.trans zD
      have bPD := bP.ext zD
      have bZD := bZ.ext zD
      have bND := bN.ext zD
      have b0 := zD.cell b0
      have b1 := zD.cell b1
      have HWD : Hid (Weav W.drew b m) := Lib.hid (HWV.out.ext zD)
      clear e3 e4 e5 e6 e7 b3 r3 cmt p0 p1 p2 bP bZ bN hX zD HWV
      change wpList _ _ _ _ _ W.drew
      generalize W.drew = Y at *
      have bP := bPD
      have bN := bND
      have zZ := bZD.cell
      have zF := bZD.frozen
      clear bPD bND
      have p0 : Y.cell? ⟨g, 0, none⟩ = some (.int .i64 2) := bP.cell 0
      have p3 : Y.cell? ⟨g, 3, none⟩ = some (.int .i64 c) := bP.cell 3
      by_cases hc : 0 < c
      · have HE : Hid (actW m ⟨2, (j : Int), (tn : Int), c, 0, 0, 0, d⟩ v = ⟨v, -y, ⟨2, (j : Int), (tn : Int), c - 1, 0, 0, 0, d⟩, false⟩) := Lib.hid (by
          have e : actW m ⟨2, (j : Int), (tn : Int), c, 0, 0, 0, d⟩ v = (if 0 < c then ⟨v, -(mvP m ⟨2, (j : Int), (tn : Int), c, 0, 0, 0, d⟩), ⟨2, (j : Int), (tn : Int), c - 1, 0, 0, 0, d⟩, false⟩ else ⟨v, -1, aftP m (j : Int) (tn : Int) d, false⟩) := rfl
          rw [e, if_pos hc]
          unfold mvP
          rw [EM.out])
        have n0 : Y.cell? ⟨g + 1 + 1, 0, none⟩ = some (.int .i64 2) := bN.cell 0
        have n1 : Y.cell? ⟨g + 1 + 1, 1, none⟩ = some (.int .i64 (j : Int)) := bN.cell 1
        have n2 : Y.cell? ⟨g + 1 + 1, 2, none⟩ = some (.int .i64 (tn : Int)) := bN.cell 2
        have n3 : Y.cell? ⟨g + 1 + 1, 3, none⟩ = some (.int .i64 (c - 1)) := bN.cell 3
        have n4 : Y.cell? ⟨g + 1 + 1, 4, none⟩ = some (.int .i64 0) := bN.cell 4
        have n5 : Y.cell? ⟨g + 1 + 1, 5, none⟩ = some (.int .i64 0) := bN.cell 5
        have n6 : Y.cell? ⟨g + 1 + 1, 6, none⟩ = some (.int .i64 0) := bN.cell 6
        have n7 : Y.cell? ⟨g + 1 + 1, 7, none⟩ = some (.int .i64 d) := bN.cell 7
        go_wp2_with fail
        refine bodyPost_ret (v := ActM ⟨v, -y, ⟨2, (j : Int), (tn : Int), c - 1, 0, 0, 0, d⟩, false⟩) (by simp [results, Tryz.results46, go_sem, zZ, ActM]) rfl ?_
        exact ⟨by rw [HE.out], by repeat (first | with_reducible exact hXD | refine Ext.setCell ?_ hgz _)⟩
      · obtain rfl : c = 0 := by omega
        obtain ⟨q, hq⟩ : ∃ q, aftP m (j : Int) (tn : Int) d = q := ⟨_, rfl⟩
        have HE : Hid (actW m ⟨2, (j : Int), (tn : Int), 0, 0, 0, 0, d⟩ v = ⟨v, -1, q, false⟩) := Lib.hid (by rw [← hq]; rfl)
        have AF := after_c b m (j : Int) (tn : Int) d Y HWD.out hm a0 a1 t0 t1
        rw [hq] at AF
        clear hq
        have p1 : Y.cell? ⟨g, 1, none⟩ = some (.int .i64 (j : Int)) := bP.cell 1
        have p2 : Y.cell? ⟨g, 2, none⟩ = some (.int .i64 (tn : Int)) := bP.cell 2
        have p7 : Y.cell? ⟨g, 7, none⟩ = some (.int .i64 d) := bP.cell 7
        clear zZ zF
        go_wp2_with fail
        refine AF.mono ?_
        rintro e w1 ⟨rfl, hx1⟩
        have hX1 := hXD.trans hx1
        have zZ := (bZD.ext hx1).cell
        have zF := (bZD.ext hx1).frozen
        clear AF p0 p1 p2 p3 p7 b0 b1
        simp only [MP.v]
        go_wp2_with fail
        refine bodyPost_ret (v := ActM ⟨v, -1, q, false⟩) (by simp [results, Tryz.results46, go_sem, zZ, ActM]) rfl ?_
        exact ⟨by rw [HE.out], by repeat (first | with_reducible exact hX1 | refine Ext.setCell ?_ hgz _)⟩
  · obtain ⟨A, cA, bm, hb, hR, _⟩ := HWV.out
    have b1 : W.cell? ⟨b, 1, none⟩ = some (.int .i64 m.sy) := hb.cell 1
    clear hb hR
    have h3 : tn = 0 ∨ tn = 1 ∨ tn = 2 := by omega
    rcases h3 with rfl | rfl | rfl
    · have p0 : W.cell? ⟨g, 0, none⟩ = some (.int .i64 3) := bP.cell 0
      have p1 : W.cell? ⟨g, 1, none⟩ = some (.int .i64 a) := bP.cell 1
      have p2 : W.cell? ⟨g, 2, none⟩ = some (.int .i64 0) := bP.cell 2
      have p7 : W.cell? ⟨g, 7, none⟩ = some (.int .i64 d) := bP.cell 7
      have ab := (and_bits dd0 dd7).1
      have hlow : d % 2 = 0 ∨ d % 2 = 1 := by omega
      by_cases hv : m.sy ≤ v
      · rcases hlow with hl | hl
        · have hbit : hasB d 0 = false := by simp [hasB]; omega
          rw [hl] at ab
          have PC := put_c b m a 0 d W HWV.out hm a0 a1 (by omega) (by omega) dd0 dd7
          obtain ⟨q, hq⟩ : ∃ q, putP m a 0 d = q := ⟨_, rfl⟩
          rw [hq] at PC
          have HE : Hid (actW m ⟨3, a, ((0 : Nat) : Int), 0, 0, 0, 0, d⟩ v = q) := Lib.hid (by
            have e : actW m ⟨3, a, ((0 : Nat) : Int), 0, 0, 0, 0, d⟩ v = (if m.sy ≤ v ∧ hasB d 0 = false then putP m a 0 d else ⟨v, -1, ⟨3, a, befT m.tp 0, 0, 0, 0, 0, d⟩, false⟩) := rfl
            rw [e, if_pos ⟨hv, hbit⟩, hq])
          clear hq
          go_wp2_with fail
          refine PC.mono ?_
          rintro e w1 ⟨rfl, hx1⟩
          have hX1 := hX.trans hx1
          have zZ := (bZ.ext hx1).cell
          have zF := (bZ.ext hx1).frozen
          clear PC p0 p1 p2 p7 b1 bN bP
          simp only [ActM]
          go_wp2_with fail
          refine bodyPost_ret (v := ActM q) (by simp [results, Tryz.results46, go_sem, zZ, ActM]) rfl ?_
          exact ⟨by rw [HE.out], by repeat (first | with_reducible exact hX1 | refine Ext.setCell ?_ hgz _)⟩
        · have hbit : hasB d 0 = true := by simp [hasB]; omega
          rw [hl] at ab
          have BF := before_c b m 0 W HWV.out hm (by omega) (by omega)
          obtain ⟨bt, hbt⟩ : ∃ q, befT m.tp 0 = q := ⟨_, rfl⟩
          rw [hbt] at BF
          have HE : Hid (actW m ⟨3, a, ((0 : Nat) : Int), 0, 0, 0, 0, d⟩ v = ⟨v, -1, ⟨3, a, bt, 0, 0, 0, 0, d⟩, false⟩) := Lib.hid (by
            have e : actW m ⟨3, a, ((0 : Nat) : Int), 0, 0, 0, 0, d⟩ v = (if m.sy ≤ v ∧ hasB d 0 = false then putP m a 0 d else ⟨v, -1, ⟨3, a, befT m.tp 0, 0, 0, 0, 0, d⟩, false⟩) := rfl
            rw [e, if_neg (fun hh => by rw [hbit] at hh; exact absurd hh.2 (by simp)), hbt])
          clear hbt
          go_wp2_with fail
          refine BF.mono ?_
          rintro e w1 ⟨rfl, hx1⟩
          have hX1 := hX.trans hx1
          have bN1 := bN.ext hx1
          have zN := bN1.cell
          have zM := bN1.frozen
          have nZ : g + 1 ≠ g + 1 + 1 := by omega
          have bZ1 := bZ.ext hx1
          obtain ⟨Y2, hY2⟩ : ∃ Y2, Y2 = (w1.setCell ⟨g + 1 + 1, 3, none⟩ (.int .i64 0)).setCell ⟨g + 1 + 1, 2, none⟩ (.int .i64 bt) := ⟨_, rfl⟩
          have bN2 : Blk Y2 (g + 1 + 1) 73 #[.int .i64 3, .int .i64 a, .int .i64 bt, .int .i64 0, .int .i64 0, .int .i64 0, .int .i64 0, .int .i64 d] := by rw [hY2]; exact (bN1.set_ 3 _).set_ 2 _
          have bZ2 : Blk Y2 (g + 1) 139 #[.int .i64 0, .int .i64 0, .int .i64 0, .int .i64 0, .int .i64 0, .int .i64 0, .int .i64 0, .int .i64 0, .int .i64 0, .int .i64 0, .bool false] := by rw [hY2]; exact (bZ1.far (p := ⟨g + 1 + 1, 3, none⟩) nZ _).far (p := ⟨g + 1 + 1, 2, none⟩) nZ _
          have hX2 : Ext w Y2 := by rw [hY2]; exact (hX1.setCell (p := ⟨g + 1 + 1, 3, none⟩) hgn _).setCell (p := ⟨g + 1 + 1, 2, none⟩) hgn _
          clear BF p0 p1 p2 p7 b1 bN bP bZ bZ1 bN1 hX1 hx1
          go_upto_region 12 with fail
          try rw [← hY2]
          clear hY2 zN zM
          have zZ := bZ2.cell
          have zF := bZ2.frozen
          have n0 : Y2.cell? ⟨g + 1 + 1, 0, none⟩ = some (.int .i64 3) := bN2.cell 0
          have n1 : Y2.cell? ⟨g + 1 + 1, 1, none⟩ = some (.int .i64 a) := bN2.cell 1
          have n2 : Y2.cell? ⟨g + 1 + 1, 2, none⟩ = some (.int .i64 bt) := bN2.cell 2
          have n3 : Y2.cell? ⟨g + 1 + 1, 3, none⟩ = some (.int .i64 0) := bN2.cell 3
          have n4 : Y2.cell? ⟨g + 1 + 1, 4, none⟩ = some (.int .i64 0) := bN2.cell 4
          have n5 : Y2.cell? ⟨g + 1 + 1, 5, none⟩ = some (.int .i64 0) := bN2.cell 5
          have n6 : Y2.cell? ⟨g + 1 + 1, 6, none⟩ = some (.int .i64 0) := bN2.cell 6
          have n7 : Y2.cell? ⟨g + 1 + 1, 7, none⟩ = some (.int .i64 d) := bN2.cell 7
          go_wp2_with fail
          refine bodyPost_ret (v := ActM ⟨v, -1, ⟨3, a, bt, 0, 0, 0, 0, d⟩, false⟩) (by simp [results, Tryz.results46, go_sem, zZ, ActM]) rfl ?_
          exact ⟨by rw [HE.out], by repeat (first | with_reducible exact hX2 | refine Ext.setCell ?_ hgz _)⟩
      · clear ab hlow
        have BF := before_c b m 0 W HWV.out hm (by omega) (by omega)
        obtain ⟨bt, hbt⟩ : ∃ q, befT m.tp 0 = q := ⟨_, rfl⟩
        rw [hbt] at BF
        have HE : Hid (actW m ⟨3, a, ((0 : Nat) : Int), 0, 0, 0, 0, d⟩ v = ⟨v, -1, ⟨3, a, bt, 0, 0, 0, 0, d⟩, false⟩) := Lib.hid (by
          have e : actW m ⟨3, a, ((0 : Nat) : Int), 0, 0, 0, 0, d⟩ v = (if m.sy ≤ v ∧ hasB d 0 = false then putP m a 0 d else ⟨v, -1, ⟨3, a, befT m.tp 0, 0, 0, 0, 0, d⟩, false⟩) := rfl
          rw [e, if_neg (fun hh => hv hh.1), hbt])
        clear hbt
        go_wp2_with fail
        refine BF.mono ?_
        rintro e w1 ⟨rfl, hx1⟩
        have hX1 := hX.trans hx1
        have bN1 := bN.ext hx1
        have zN := bN1.cell
        have zM := bN1.frozen
        have nZ : g + 1 ≠ g + 1 + 1 := by omega
        have bZ1 := bZ.ext hx1
        obtain ⟨Y2, hY2⟩ : ∃ Y2, Y2 = (w1.setCell ⟨g + 1 + 1, 3, none⟩ (.int .i64 0)).setCell ⟨g + 1 + 1, 2, none⟩ (.int .i64 bt) := ⟨_, rfl⟩
        have bN2 : Blk Y2 (g + 1 + 1) 73 #[.int .i64 3, .int .i64 a, .int .i64 bt, .int .i64 0, .int .i64 0, .int .i64 0, .int .i64 0, .int .i64 d] := by rw [hY2]; exact (bN1.set_ 3 _).set_ 2 _
        have bZ2 : Blk Y2 (g + 1) 139 #[.int .i64 0, .int .i64 0, .int .i64 0, .int .i64 0, .int .i64 0, .int .i64 0, .int .i64 0, .int .i64 0, .int .i64 0, .int .i64 0, .bool false] := by rw [hY2]; exact (bZ1.far (p := ⟨g + 1 + 1, 3, none⟩) nZ _).far (p := ⟨g + 1 + 1, 2, none⟩) nZ _
        have hX2 : Ext w Y2 := by rw [hY2]; exact (hX1.setCell (p := ⟨g + 1 + 1, 3, none⟩) hgn _).setCell (p := ⟨g + 1 + 1, 2, none⟩) hgn _
        clear BF p0 p1 p2 p7 b1 bN bP bZ bZ1 bN1 hX1 hx1
        go_upto_region 12 with fail
        try rw [← hY2]
        clear hY2 zN zM
        have zZ := bZ2.cell
        have zF := bZ2.frozen
        have n0 : Y2.cell? ⟨g + 1 + 1, 0, none⟩ = some (.int .i64 3) := bN2.cell 0
        have n1 : Y2.cell? ⟨g + 1 + 1, 1, none⟩ = some (.int .i64 a) := bN2.cell 1
        have n2 : Y2.cell? ⟨g + 1 + 1, 2, none⟩ = some (.int .i64 bt) := bN2.cell 2
        have n3 : Y2.cell? ⟨g + 1 + 1, 3, none⟩ = some (.int .i64 0) := bN2.cell 3
        have n4 : Y2.cell? ⟨g + 1 + 1, 4, none⟩ = some (.int .i64 0) := bN2.cell 4
        have n5 : Y2.cell? ⟨g + 1 + 1, 5, none⟩ = some (.int .i64 0) := bN2.cell 5
        have n6 : Y2.cell? ⟨g + 1 + 1, 6, none⟩ = some (.int .i64 0) := bN2.cell 6
        have n7 : Y2.cell? ⟨g + 1 + 1, 7, none⟩ = some (.int .i64 d) := bN2.cell 7
        go_wp2_with fail
        refine bodyPost_ret (v := ActM ⟨v, -1, ⟨3, a, bt, 0, 0, 0, 0, d⟩, false⟩) (by simp [results, Tryz.results46, go_sem, zZ, ActM]) rfl ?_
        exact ⟨by rw [HE.out], by repeat (first | with_reducible exact hX2 | refine Ext.setCell ?_ hgz _)⟩
    · have p0 : W.cell? ⟨g, 0, none⟩ = some (.int .i64 3) := bP.cell 0
      have p1 : W.cell? ⟨g, 1, none⟩ = some (.int .i64 a) := bP.cell 1
      have p2 : W.cell? ⟨g, 2, none⟩ = some (.int .i64 1) := bP.cell 2
      have p7 : W.cell? ⟨g, 7, none⟩ = some (.int .i64 d) := bP.cell 7
      have ab := (and_bits dd0 dd7).2.1
      have hlow : d / 2 % 2 = 0 ∨ d / 2 % 2 = 1 := by omega
      by_cases hv : m.sy ≤ v
      · rcases hlow with hl | hl
        · have hbit : hasB d 1 = false := by simp [hasB]; omega
          rw [hl] at ab
          have PC := put_c b m a 1 d W HWV.out hm a0 a1 (by omega) (by omega) dd0 dd7
          obtain ⟨q, hq⟩ : ∃ q, putP m a 1 d = q := ⟨_, rfl⟩
          rw [hq] at PC
          have HE : Hid (actW m ⟨3, a, ((1 : Nat) : Int), 0, 0, 0, 0, d⟩ v = q) := Lib.hid (by
            have e : actW m ⟨3, a, ((1 : Nat) : Int), 0, 0, 0, 0, d⟩ v = (if m.sy ≤ v ∧ hasB d 1 = false then putP m a 1 d else ⟨v, -1, ⟨3, a, befT m.tp 1, 0, 0, 0, 0, d⟩, false⟩) := rfl
            rw [e, if_pos ⟨hv, hbit⟩, hq])
          clear hq
          go_wp2_with fail
          refine PC.mono ?_
          rintro e w1 ⟨rfl, hx1⟩
          have hX1 := hX.trans hx1
          have zZ := (bZ.ext hx1).cell
          have zF := (bZ.ext hx1).frozen
          clear PC p0 p1 p2 p7 b1 bN bP
          simp only [ActM]
          go_wp2_with fail
          refine bodyPost_ret (v := ActM q) (by simp [results, Tryz.results46, go_sem, zZ, ActM]) rfl ?_
          exact ⟨by rw [HE.out], by repeat (first | with_reducible exact hX1 | refine Ext.setCell ?_ hgz _)⟩
        · have hbit : hasB d 1 = true := by simp [hasB]; omega
          rw [hl] at ab
          have BF := before_c b m 1 W HWV.out hm (by omega) (by omega)
          obtain ⟨bt, hbt⟩ : ∃ q, befT m.tp 1 = q := ⟨_, rfl⟩
          rw [hbt] at BF
          have HE : Hid (actW m ⟨3, a, ((1 : Nat) : Int), 0, 0, 0, 0, d⟩ v = ⟨v, -1, ⟨3, a, bt, 0, 0, 0, 0, d⟩, false⟩) := Lib.hid (by
            have e : actW m ⟨3, a, ((1 : Nat) : Int), 0, 0, 0, 0, d⟩ v = (if m.sy ≤ v ∧ hasB d 1 = false then putP m a 1 d else ⟨v, -1, ⟨3, a, befT m.tp 1, 0, 0, 0, 0, d⟩, false⟩) := rfl
            rw [e, if_neg (fun hh => by rw [hbit] at hh; exact absurd hh.2 (by simp)), hbt])
          clear hbt
          go_wp2_with fail
          refine BF.mono ?_
          rintro e w1 ⟨rfl, hx1⟩
          have hX1 := hX.trans hx1
          have bN1 := bN.ext hx1
          have zN := bN1.cell
          have zM := bN1.frozen
          have nZ : g + 1 ≠ g + 1 + 1 := by omega
          have bZ1 := bZ.ext hx1
          obtain ⟨Y2, hY2⟩ : ∃ Y2, Y2 = (w1.setCell ⟨g + 1 + 1, 3, none⟩ (.int .i64 0)).setCell ⟨g + 1 + 1, 2, none⟩ (.int .i64 bt) := ⟨_, rfl⟩
          have bN2 : Blk Y2 (g + 1 + 1) 73 #[.int .i64 3, .int .i64 a, .int .i64 bt, .int .i64 0, .int .i64 0, .int .i64 0, .int .i64 0, .int .i64 d] := by rw [hY2]; exact (bN1.set_ 3 _).set_ 2 _
          have bZ2 : Blk Y2 (g + 1) 139 #[.int .i64 0, .int .i64 0, .int .i64 0, .int .i64 0, .int .i64 0, .int .i64 0, .int .i64 0, .int .i64 0, .int .i64 0, .int .i64 0, .bool false] := by rw [hY2]; exact (bZ1.far (p := ⟨g + 1 + 1, 3, none⟩) nZ _).far (p := ⟨g + 1 + 1, 2, none⟩) nZ _
          have hX2 : Ext w Y2 := by rw [hY2]; exact (hX1.setCell (p := ⟨g + 1 + 1, 3, none⟩) hgn _).setCell (p := ⟨g + 1 + 1, 2, none⟩) hgn _
          clear BF p0 p1 p2 p7 b1 bN bP bZ bZ1 bN1 hX1 hx1
          go_upto_region 12 with fail
          try rw [← hY2]
          clear hY2 zN zM
          have zZ := bZ2.cell
          have zF := bZ2.frozen
          have n0 : Y2.cell? ⟨g + 1 + 1, 0, none⟩ = some (.int .i64 3) := bN2.cell 0
          have n1 : Y2.cell? ⟨g + 1 + 1, 1, none⟩ = some (.int .i64 a) := bN2.cell 1
          have n2 : Y2.cell? ⟨g + 1 + 1, 2, none⟩ = some (.int .i64 bt) := bN2.cell 2
          have n3 : Y2.cell? ⟨g + 1 + 1, 3, none⟩ = some (.int .i64 0) := bN2.cell 3
          have n4 : Y2.cell? ⟨g + 1 + 1, 4, none⟩ = some (.int .i64 0) := bN2.cell 4
          have n5 : Y2.cell? ⟨g + 1 + 1, 5, none⟩ = some (.int .i64 0) := bN2.cell 5
          have n6 : Y2.cell? ⟨g + 1 + 1, 6, none⟩ = some (.int .i64 0) := bN2.cell 6
          have n7 : Y2.cell? ⟨g + 1 + 1, 7, none⟩ = some (.int .i64 d) := bN2.cell 7
          go_wp2_with fail
          refine bodyPost_ret (v := ActM ⟨v, -1, ⟨3, a, bt, 0, 0, 0, 0, d⟩, false⟩) (by simp [results, Tryz.results46, go_sem, zZ, ActM]) rfl ?_
          exact ⟨by rw [HE.out], by repeat (first | with_reducible exact hX2 | refine Ext.setCell ?_ hgz _)⟩
      · clear ab hlow
        have BF := before_c b m 1 W HWV.out hm (by omega) (by omega)
        obtain ⟨bt, hbt⟩ : ∃ q, befT m.tp 1 = q := ⟨_, rfl⟩
        rw [hbt] at BF
        have HE : Hid (actW m ⟨3, a, ((1 : Nat) : Int), 0, 0, 0, 0, d⟩ v = ⟨v, -1, ⟨3, a, bt, 0, 0, 0, 0, d⟩, false⟩) := Lib.hid (by
          have e : actW m ⟨3, a, ((1 : Nat) : Int), 0, 0, 0, 0, d⟩ v = (if m.sy ≤ v ∧ hasB d 1 = false then putP m a 1 d else ⟨v, -1, ⟨3, a, befT m.tp 1, 0, 0, 0, 0, d⟩, false⟩) := rfl
          rw [e, if_neg (fun hh => hv hh.1), hbt])
        clear hbt
        go_wp2_with fail
        refine BF.mono ?_
        rintro e w1 ⟨rfl, hx1⟩
        have hX1 := hX.trans hx1
        have bN1 := bN.ext hx1
        have zN := bN1.cell
        have zM := bN1.frozen
        have nZ : g + 1 ≠ g + 1 + 1 := by omega
        have bZ1 := bZ.ext hx1
        obtain ⟨Y2, hY2⟩ : ∃ Y2, Y2 = (w1.setCell ⟨g + 1 + 1, 3, none⟩ (.int .i64 0)).setCell ⟨g + 1 + 1, 2, none⟩ (.int .i64 bt) := ⟨_, rfl⟩
        have bN2 : Blk Y2 (g + 1 + 1) 73 #[.int .i64 3, .int .i64 a, .int .i64 bt, .int .i64 0, .int .i64 0, .int .i64 0, .int .i64 0, .int .i64 d] := by rw [hY2]; exact (bN1.set_ 3 _).set_ 2 _
        have bZ2 : Blk Y2 (g + 1) 139 #[.int .i64 0, .int .i64 0, .int .i64 0, .int .i64 0, .int .i64 0, .int .i64 0, .int .i64 0, .int .i64 0, .int .i64 0, .int .i64 0, .bool false] := by rw [hY2]; exact (bZ1.far (p := ⟨g + 1 + 1, 3, none⟩) nZ _).far (p := ⟨g + 1 + 1, 2, none⟩) nZ _
        have hX2 : Ext w Y2 := by rw [hY2]; exact (hX1.setCell (p := ⟨g + 1 + 1, 3, none⟩) hgn _).setCell (p := ⟨g + 1 + 1, 2, none⟩) hgn _
        clear BF p0 p1 p2 p7 b1 bN bP bZ bZ1 bN1 hX1 hx1
        go_upto_region 12 with fail
        try rw [← hY2]
        clear hY2 zN zM
        have zZ := bZ2.cell
        have zF := bZ2.frozen
        have n0 : Y2.cell? ⟨g + 1 + 1, 0, none⟩ = some (.int .i64 3) := bN2.cell 0
        have n1 : Y2.cell? ⟨g + 1 + 1, 1, none⟩ = some (.int .i64 a) := bN2.cell 1
        have n2 : Y2.cell? ⟨g + 1 + 1, 2, none⟩ = some (.int .i64 bt) := bN2.cell 2
        have n3 : Y2.cell? ⟨g + 1 + 1, 3, none⟩ = some (.int .i64 0) := bN2.cell 3
        have n4 : Y2.cell? ⟨g + 1 + 1, 4, none⟩ = some (.int .i64 0) := bN2.cell 4
        have n5 : Y2.cell? ⟨g + 1 + 1, 5, none⟩ = some (.int .i64 0) := bN2.cell 5
        have n6 : Y2.cell? ⟨g + 1 + 1, 6, none⟩ = some (.int .i64 0) := bN2.cell 6
        have n7 : Y2.cell? ⟨g + 1 + 1, 7, none⟩ = some (.int .i64 d) := bN2.cell 7
        go_wp2_with fail
        refine bodyPost_ret (v := ActM ⟨v, -1, ⟨3, a, bt, 0, 0, 0, 0, d⟩, false⟩) (by simp [results, Tryz.results46, go_sem, zZ, ActM]) rfl ?_
        exact ⟨by rw [HE.out], by repeat (first | with_reducible exact hX2 | refine Ext.setCell ?_ hgz _)⟩
    · have p0 : W.cell? ⟨g, 0, none⟩ = some (.int .i64 3) := bP.cell 0
      have p1 : W.cell? ⟨g, 1, none⟩ = some (.int .i64 a) := bP.cell 1
      have p2 : W.cell? ⟨g, 2, none⟩ = some (.int .i64 2) := bP.cell 2
      have p7 : W.cell? ⟨g, 7, none⟩ = some (.int .i64 d) := bP.cell 7
      have ab := (and_bits dd0 dd7).2.2
      have hlow : d / 4 % 2 = 0 ∨ d / 4 % 2 = 1 := by omega
      by_cases hv : m.sy ≤ v
      · rcases hlow with hl | hl
        · have hbit : hasB d 2 = false := by simp [hasB]; omega
          rw [hl] at ab
          have PC := put_c b m a 2 d W HWV.out hm a0 a1 (by omega) (by omega) dd0 dd7
          obtain ⟨q, hq⟩ : ∃ q, putP m a 2 d = q := ⟨_, rfl⟩
          rw [hq] at PC
          have HE : Hid (actW m ⟨3, a, ((2 : Nat) : Int), 0, 0, 0, 0, d⟩ v = q) := Lib.hid (by
            have e : actW m ⟨3, a, ((2 : Nat) : Int), 0, 0, 0, 0, d⟩ v = (if m.sy ≤ v ∧ hasB d 2 = false then putP m a 2 d else ⟨v, -1, ⟨3, a, befT m.tp 2, 0, 0, 0, 0, d⟩, false⟩) := rfl
            rw [e, if_pos ⟨hv, hbit⟩, hq])
          clear hq
          go_wp2_with fail
          refine PC.mono ?_
          rintro e w1 ⟨rfl, hx1⟩
          have hX1 := hX.trans hx1
          have zZ := (bZ.ext hx1).cell
          have zF := (bZ.ext hx1).frozen
          clear PC p0 p1 p2 p7 b1 bN bP
          simp only [ActM]
          go_wp2_with fail
          refine bodyPost_ret (v := ActM q) (by simp [results, Tryz.results46, go_sem, zZ, ActM]) rfl ?_
          exact ⟨by rw [HE.out], by repeat (first | with_reducible exact hX1 | refine Ext.setCell ?_ hgz _)⟩
        · have hbit : hasB d 2 = true := by simp [hasB]; omega
          rw [hl] at ab
          have BF := before_c b m 2 W HWV.out hm (by omega) (by omega)
          obtain ⟨bt, hbt⟩ : ∃ q, befT m.tp 2 = q := ⟨_, rfl⟩
          rw [hbt] at BF
          have HE : Hid (actW m ⟨3, a, ((2 : Nat) : Int), 0, 0, 0, 0, d⟩ v = ⟨v, -1, ⟨3, a, bt, 0, 0, 0, 0, d⟩, false⟩) := Lib.hid (by
            have e : actW m ⟨3, a, ((2 : Nat) : Int), 0, 0, 0, 0, d⟩ v = (if m.sy ≤ v ∧ hasB d 2 = false then putP m a 2 d else ⟨v, -1, ⟨3, a, befT m.tp 2, 0, 0, 0, 0, d⟩, false⟩) := rfl
            rw [e, if_neg (fun hh => by rw [hbit] at hh; exact absurd hh.2 (by simp)), hbt])
          clear hbt
          go_wp2_with fail
          refine BF.mono ?_
          rintro e w1 ⟨rfl, hx1⟩
          have hX1 := hX.trans hx1
          have bN1 := bN.ext hx1
          have zN := bN1.cell
          have zM := bN1.frozen
          have nZ : g + 1 ≠ g + 1 + 1 := by omega
          have bZ1 := bZ.ext hx1
          obtain ⟨Y2, hY2⟩ : ∃ Y2, Y2 = (w1.setCell ⟨g + 1 + 1, 3, none⟩ (.int .i64 0)).setCell ⟨g + 1 + 1, 2, none⟩ (.int .i64 bt) := ⟨_, rfl⟩
          have bN2 : Blk Y2 (g + 1 + 1) 73 #[.int .i64 3, .int .i64 a, .int .i64 bt, .int .i64 0, .int .i64 0, .int .i64 0, .int .i64 0, .int .i64 d] := by rw [hY2]; exact (bN1.set_ 3 _).set_ 2 _
          have bZ2 : Blk Y2 (g + 1) 139 #[.int .i64 0, .int .i64 0, .int .i64 0, .int .i64 0, .int .i64 0, .int .i64 0, .int .i64 0, .int .i64 0, .int .i64 0, .int .i64 0, .bool false] := by rw [hY2]; exact (bZ1.far (p := ⟨g + 1 + 1, 3, none⟩) nZ _).far (p := ⟨g + 1 + 1, 2, none⟩) nZ _
          have hX2 : Ext w Y2 := by rw [hY2]; exact (hX1.setCell (p := ⟨g + 1 + 1, 3, none⟩) hgn _).setCell (p := ⟨g + 1 + 1, 2, none⟩) hgn _
          clear BF p0 p1 p2 p7 b1 bN bP bZ bZ1 bN1 hX1 hx1
          go_upto_region 12 with fail
          try rw [← hY2]
          clear hY2 zN zM
          have zZ := bZ2.cell
          have zF := bZ2.frozen
          have n0 : Y2.cell? ⟨g + 1 + 1, 0, none⟩ = some (.int .i64 3) := bN2.cell 0
          have n1 : Y2.cell? ⟨g + 1 + 1, 1, none⟩ = some (.int .i64 a) := bN2.cell 1
          have n2 : Y2.cell? ⟨g + 1 + 1, 2, none⟩ = some (.int .i64 bt) := bN2.cell 2
          have n3 : Y2.cell? ⟨g + 1 + 1, 3, none⟩ = some (.int .i64 0) := bN2.cell 3
          have n4 : Y2.cell? ⟨g + 1 + 1, 4, none⟩ = some (.int .i64 0) := bN2.cell 4
          have n5 : Y2.cell? ⟨g + 1 + 1, 5, none⟩ = some (.int .i64 0) := bN2.cell 5
          have n6 : Y2.cell? ⟨g + 1 + 1, 6, none⟩ = some (.int .i64 0) := bN2.cell 6
          have n7 : Y2.cell? ⟨g + 1 + 1, 7, none⟩ = some (.int .i64 d) := bN2.cell 7
          go_wp2_with fail
          refine bodyPost_ret (v := ActM ⟨v, -1, ⟨3, a, bt, 0, 0, 0, 0, d⟩, false⟩) (by simp [results, Tryz.results46, go_sem, zZ, ActM]) rfl ?_
          exact ⟨by rw [HE.out], by repeat (first | with_reducible exact hX2 | refine Ext.setCell ?_ hgz _)⟩
      · clear ab hlow
        have BF := before_c b m 2 W HWV.out hm (by omega) (by omega)
        obtain ⟨bt, hbt⟩ : ∃ q, befT m.tp 2 = q := ⟨_, rfl⟩
        rw [hbt] at BF
        have HE : Hid (actW m ⟨3, a, ((2 : Nat) : Int), 0, 0, 0, 0, d⟩ v = ⟨v, -1, ⟨3, a, bt, 0, 0, 0, 0, d⟩, false⟩) := Lib.hid (by
          have e : actW m ⟨3, a, ((2 : Nat) : Int), 0, 0, 0, 0, d⟩ v = (if m.sy ≤ v ∧ hasB d 2 = false then putP m a 2 d else ⟨v, -1, ⟨3, a, befT m.tp 2, 0, 0, 0, 0, d⟩, false⟩) := rfl
          rw [e, if_neg (fun hh => hv hh.1), hbt])
        clear hbt
        go_wp2_with fail
        refine BF.mono ?_
        rintro e w1 ⟨rfl, hx1⟩
        have hX1 := hX.trans hx1
        have bN1 := bN.ext hx1
        have zN := bN1.cell
        have zM := bN1.frozen
        have nZ : g + 1 ≠ g + 1 + 1 := by omega
        have bZ1 := bZ.ext hx1
        obtain ⟨Y2, hY2⟩ : ∃ Y2, Y2 = (w1.setCell ⟨g + 1 + 1, 3, none⟩ (.int .i64 0)).setCell ⟨g + 1 + 1, 2, none⟩ (.int .i64 bt) := ⟨_, rfl⟩
        have bN2 : Blk Y2 (g + 1 + 1) 73 #[.int .i64 3, .int .i64 a, .int .i64 bt, .int .i64 0, .int .i64 0, .int .i64 0, .int .i64 0, .int .i64 d] := by rw [hY2]; exact (bN1.set_ 3 _).set_ 2 _
        have bZ2 : Blk Y2 (g + 1) 139 #[.int .i64 0, .int .i64 0, .int .i64 0, .int .i64 0, .int .i64 0, .int .i64 0, .int .i64 0, .int .i64 0, .int .i64 0, .int .i64 0, .bool false] := by rw [hY2]; exact (bZ1.far (p := ⟨g + 1 + 1, 3, none⟩) nZ _).far (p := ⟨g + 1 + 1, 2, none⟩) nZ _
        have hX2 : Ext w Y2 := by rw [hY2]; exact (hX1.setCell (p := ⟨g + 1 + 1, 3, none⟩) hgn _).setCell (p := ⟨g + 1 + 1, 2, none⟩) hgn _
        clear BF p0 p1 p2 p7 b1 bN bP bZ bZ1 bN1 hX1 hx1
        go_upto_region 12 with fail
        try rw [← hY2]
        clear hY2 zN zM
        have zZ := bZ2.cell
        have zF := bZ2.frozen
        have n0 : Y2.cell? ⟨g + 1 + 1, 0, none⟩ = some (.int .i64 3) := bN2.cell 0
        have n1 : Y2.cell? ⟨g + 1 + 1, 1, none⟩ = some (.int .i64 a) := bN2.cell 1
        have n2 : Y2.cell? ⟨g + 1 + 1, 2, none⟩ = some (.int .i64 bt) := bN2.cell 2
        have n3 : Y2.cell? ⟨g + 1 + 1, 3, none⟩ = some (.int .i64 0) := bN2.cell 3
        have n4 : Y2.cell? ⟨g + 1 + 1, 4, none⟩ = some (.int .i64 0) := bN2.cell 4
        have n5 : Y2.cell? ⟨g + 1 + 1, 5, none⟩ = some (.int .i64 0) := bN2.cell 5
        have n6 : Y2.cell? ⟨g + 1 + 1, 6, none⟩ = some (.int .i64 0) := bN2.cell 6
        have n7 : Y2.cell? ⟨g + 1 + 1, 7, none⟩ = some (.int .i64 d) := bN2.cell 7
        go_wp2_with fail
        refine bodyPost_ret (v := ActM ⟨v, -1, ⟨3, a, bt, 0, 0, 0, 0, d⟩, false⟩) (by simp [results, Tryz.results46, go_sem, zZ, ActM]) rfl ?_
        exact ⟨by rw [HE.out], by repeat (first | with_reducible exact hX2 | refine Ext.setCell ?_ hgz _)⟩
  · obtain ⟨q, hq⟩ : ∃ q, leaveP a (c - 1) = q := ⟨_, rfl⟩
    have LV := leave_c a (c - 1) W
    rw [hq] at LV
    have HE : Hid (actW m ⟨4, a, (tn : Int), c, 0, 0, 0, 0⟩ v = ⟨v, -1, q, false⟩) := Lib.hid (by rw [← hq]; rfl)
    clear hq
    have p0 : W.cell? ⟨g, 0, none⟩ = some (.int .i64 4) := bP.cell 0
    have p1 : W.cell? ⟨g, 1, none⟩ = some (.int .i64 a) := bP.cell 1
    have p3 : W.cell? ⟨g, 3, none⟩ = some (.int .i64 c) := bP.cell 3
    clear ht
    go_wp2_with fail
    refine LV.mono ?_
    rintro e w1 ⟨rfl, hx1⟩
    have hX1 := hX.trans hx1
    have zZ := (bZ.ext hx1).cell
    have zF := (bZ.ext hx1).frozen
    clear LV p0 p1 p3 bN bP
    simp only [MP.v]
    go_wp2_with fail
    refine bodyPost_ret (v := ActM ⟨v, -1, q, false⟩) (by simp [results, Tryz.results46, go_sem, zZ, ActM]) rfl ?_
    exact ⟨by rw [HE.out], by repeat (first | with_reducible exact hX1 | refine Ext.setCell ?_ hgz _)⟩
end Go.Proofs.YtgeckhjkahnonaaGreatDoor
end
section
set_option linter.unusedVariables false
set_option linter.unusedSimpArgs false
namespace Go.Proofs.YtgeckhjkahnonaaGreatDoor
open Go Go.RowKit Go.Proofs Go.Maps
set_option maxHeartbeats 400000
/-- Tapes in memory. -/
def Tapes (w : World) (v : Value) (ts : List TapeD) : Prop :=
  ∃ A c, v = .slice A ts.length c ∧ ts.length ≤ c ∧ c ≤ 9223372036854775807 ∧ (0 < ts.length → ∃ b off, A = some ⟨b, off, none⟩ ∧ ∀ i, (h : i < ts.length) → ∃ vl vr,
    w.cell? ⟨b, off + i * 2, none⟩ = some vl ∧ w.cell? ⟨b, off + i * 2 + 1, none⟩ = some vr ∧ Ints w vl ts[i].l ∧ Ints w vr ts[i].r)
theorem Tapes.ext {w w' : World} {v : Value} {ts : List TapeD} (h : Tapes w v ts) (he : Ext w w') : Tapes w' v ts := by
  obtain ⟨A, c, rfl, h1, h2, h3⟩ := h
  refine ⟨A, c, rfl, h1, h2, fun hn => ?_⟩
  obtain ⟨b, off, e, hc⟩ := h3 hn
  refine ⟨b, off, e, fun i hi => ?_⟩
  obtain ⟨vl, vr, c0, c1, i1, i2⟩ := hc i hi
  exact ⟨vl, vr, he.cell c0, he.cell c1, i1.ext he, i2.ext he⟩
theorem Tapes.form {w : World} {v : Value} {ts : List TapeD} (h : Tapes w v ts) : ∃ A c, v = .slice A ts.length c ∧ ts.length ≤ c ∧ c ≤ 9223372036854775807 := by
  obtain ⟨A, c, e, h1, h2, _⟩ := h
  exact ⟨A, c, e, h1, h2⟩
theorem Tapes.at {w : World} {A : Option Addr} {c : Nat} {ts : List TapeD} (h : Tapes w (.slice A ts.length c) ts) {i : Nat} (hi : i < ts.length) : ∃ b off vl vr, A = some ⟨b, off, none⟩ ∧
    w.cell? ⟨b, off + i * 2, none⟩ = some vl ∧ w.cell? ⟨b, off + i * 2 + 1, none⟩ = some vr ∧ Ints w vl ts[i].l ∧ Ints w vr ts[i].r := by
  obtain ⟨A', c', e, _, _, h3⟩ := h
  injection e with e1 _ _
  subst e1
  obtain ⟨b, off, e, hc⟩ := h3 (by omega)
  obtain ⟨vl, vr, hh⟩ := hc i hi
  exact ⟨b, off, vl, vr, e, hh⟩
/-- The cells of what is read. -/
def rdC (x : KeyM) : Array Value := #[.int .i64 x.1, .int .i64 x.2.1, .int .i64 x.2.2.1, .int .i64 x.2.2.2]
theorem rdC_put (q z : Int) (xs : List Int) (h : xs.length < 3) : (rdC (key3 q xs)).setIfInBounds (1 + xs.length) (.int .i64 z) = rdC (key3 q (xs ++ [z])) := by
  match xs, h with
  | [], _ => rfl
  | [a], _ => rfl
  | [a, b], _ => rfl
  | _ :: _ :: _ :: l, h => simp at h; omega
theorem key3_zero (q : Int) (xs : List Int) : key3 q (xs ++ [0]) = key3 q xs := by
  have key : ∀ i, (xs ++ [0]).getD i 0 = xs.getD i 0 := fun i => by
    rw [List.getD_eq_getElem?_getD, List.getD_eq_getElem?_getD]
    by_cases h : i < xs.length
    · rw [List.getElem?_append_left h]
    · rw [List.getElem?_append_right (by omega), List.getElem?_eq_none (show xs.length ≤ i by omega)]
      cases i - xs.length <;> rfl
  simp only [key3, key]
set_option maxRecDepth 20000 in
set_option maxHeartbeats 4000000 in
theorem read_c (bc : Nat) (c : MConfD) (tv : Value) (w : World) (h0 : w.cell? ⟨bc, 0, none⟩ = some (.int .i64 c.q)) (h1 : w.cell? ⟨bc, 1, none⟩ = some tv) (hT : Tapes w tv c.tapes) (hn : c.tapes.length ≤ 3) :
    Calls Tryz.prog 38 #[.pointer (some ⟨bc, 0, none⟩)] w fun e w' => e = .returned (rdE (readM c)) ∧ Ext w w' := by
  obtain ⟨A, cap, rfl, hc1, hc2⟩ := hT.form
  obtain ⟨W, hW⟩ : ∃ W, W = (w.alloc (.cells #[.int .i64 0, .int .i64 0, .int .i64 0, .int .i64 0] 96)).alloc (.cells #[.int .i64 c.q, .int .i64 0, .int .i64 0, .int .i64 0] 96) := ⟨_, rfl⟩
  have hX : Ext w W := by rw [hW]; exact (Ext.alloc _ _).trans (Ext.alloc _ _)
  obtain ⟨g, hg⟩ : ∃ g, w.heap.size = g := ⟨_, rfl⟩
  have bO : Blk W g 96 #[.int .i64 0, .int .i64 0, .int .i64 0, .int .i64 0] := by rw [hW]; exact (Blk.new _ _ _ _ hg).alloc _
  have bX : Blk W (g + 1) 96 (rdC (key3 c.q ((c.tapes.take 0).map headT))) := by rw [hW]; exact Blk.new _ _ _ _ (by simp [hg])
  have hlast : Hid ((c.tapes.take c.tapes.length).map headT = c.tapes.map headT) := by unfold Hid; rw [List.take_length]
  have HRD : Hid (readM c = key3 c.q (c.tapes.map headT)) := rfl
  rw [HRD.out]
  have hbc := World.block_lt_of_cell? w _ h0
  simp only at hbc
  rw [hg] at hbc
  have h0W := hX.cell h0
  have h1W := hX.cell h1
  go_enter Tryz.func38, Tryz.ntmps38
  go_wp2_with fail
  try rw [← hW]
  try rw [hg]
  clear hW
  go_loopw [16] (fun i wr => ∃ k : Nat, k ≤ c.tapes.length ∧ i = .int .i64 (k : Int) ∧ Ext w wr ∧ Blk wr g 96 #[.int .i64 0, .int .i64 0, .int .i64 0, .int .i64 0] ∧ Blk wr (g + 1) 96 (rdC (key3 c.q ((c.tapes.take k).map headT)))) (fun i _ => c.tapes.length - (intOf i).toNat)
  case atStart => exact ⟨0, Nat.zero_le _, rfl, hX, bO, bX⟩
  case round =>
    clear bO bX hX h0W h1W
    obtain ⟨k, hk, rfl, hx, bO, bX⟩ := hrel
    by_cases hlt : k < c.tapes.length
    · obtain ⟨b, off, vl, vr, rfl, c0, c1, i1, i2⟩ := (hT.ext hx).at hlt
      have hxl : ((c.tapes.take k).map headT).length = k := by rw [List.length_map, List.length_take]; omega
      have hnx : (c.tapes.take (k + 1)).map headT = (c.tapes.take k).map headT ++ [headT c.tapes[k]] := by rw [List.take_succ_eq_append_getElem hlt, List.map_append]; rfl
      obtain ⟨t, ht⟩ : ∃ t, c.tapes[k] = t := ⟨_, rfl⟩
      rw [ht] at i1 i2 hnx
      have HNX := Lib.hid hnx
      generalize hxs : (c.tapes.take k).map headT = xs at *
      have HXL := Lib.hid hxl
      obtain ⟨A1, k1, rfl, _, _⟩ := i1.form
      obtain ⟨A2, k2, rfl, _, _⟩ := i2.form
      obtain ⟨V, hV⟩ : ∃ V, V = wr.alloc (.cells #[.slice A1 t.l.length k1, .slice A2 t.r.length k2] 91) := ⟨_, rfl⟩
      have hXV : Ext wr V := by rw [hV]; exact Ext.alloc _ _
      have hxV := hx.trans hXV
      have bOV := bO.ext hXV
      have bXV := bX.ext hXV
      have k3 : k < 3 := by omega
      have hput := rdC_put c.q (headT t) xs (by omega)
      rw [hxl] at hput
      have f0 := bXV.frozen (1 + k)
      have hgs : g + 1 < wr.heap.size := bX.lt
      clear hnx hxs hxl ht
      by_cases hr0 : 0 < t.r.length
      · obtain ⟨ga, oa, rfl, hca⟩ := i2.at hr0
        have a0 := hXV.cell (hca 0 hr0)
        have hhd : headT t = t.r[0] := by unfold headT; rw [List.getD_eq_getElem?_getD, List.getElem?_eq_getElem hr0]; rfl
        rw [← hhd] at a0
        simp only [Nat.add_zero] at a0
        have HP : Hid (Blk ((wr.setCell ⟨g + 1, 1 + k, none⟩ (.int .i64 (headT t))).alloc (.cells #[.slice A1 t.l.length k1, .slice (some ⟨ga, oa, none⟩) t.r.length k2] 91)) (g + 1) 96 (rdC (key3 c.q ((c.tapes.take (k + 1)).map headT)))) := by
          unfold Hid
          rw [HNX.out, ← hput]
          exact (bX.set_ (1 + k) _).alloc _
        have HO : Hid (Blk ((wr.setCell ⟨g + 1, 1 + k, none⟩ (.int .i64 (headT t))).alloc (.cells #[.slice A1 t.l.length k1, .slice (some ⟨ga, oa, none⟩) t.r.length k2] 91)) g 96 #[.int .i64 0, .int .i64 0, .int .i64 0, .int .i64 0]) := Lib.hid ((bO.far (by simp) _).alloc _)
        have HE : Hid (Ext w ((wr.setCell ⟨g + 1, 1 + k, none⟩ (.int .i64 (headT t))).alloc (.cells #[.slice A1 t.l.length k1, .slice (some ⟨ga, oa, none⟩) t.r.length k2] 91))) := Lib.hid ((hx.setCell (p := ⟨g + 1, 1 + k, none⟩) (by show w.heap.size ≤ g + 1; omega) _).trans (Ext.alloc _ _))
        obtain ⟨u, hu⟩ : ∃ u, wr.cell? ⟨g + 1, 1 + k, none⟩ = some u := ⟨_, by rw [bX.cell, Array.getElem?_eq_getElem (by simp [rdC]; omega)]⟩
        have f0 := bX.frozen (1 + k)
        rw [hV] at a0
        generalize headT t = z at *
        clear bXV bX hput hhd hca i2 hV hXV hxV bOV
        go_wp2_with fail
        go_roundw
        case rel => exact ⟨k + 1, by omega, by go_num, HE.out, HO.out, HP.out⟩
        case measure => simp [intOf]; omega
      · have hz : headT t = 0 := by unfold headT; rw [List.getD_eq_getElem?_getD, List.getElem?_eq_none (by omega)]; rfl
        have HP : Hid (Blk V (g + 1) 96 (rdC (key3 c.q ((c.tapes.take (k + 1)).map headT)))) := by
          unfold Hid
          rw [HNX.out, hz, key3_zero]
          exact bXV
        rw [hV] at HP hxV bOV
        have HO := Lib.hid bOV
        have HE := Lib.hid hxV
        clear hV hz hput f0 bXV bX bOV hxV
        go_wp2
        go_roundw
        case rel => exact ⟨k + 1, by omega, by go_num, HE.out, HO.out, HP.out⟩
        case measure => simp [intOf]; omega
    · obtain rfl : k = c.tapes.length := by omega
      rw [hlast.out] at bX
      obtain ⟨y, hy⟩ : ∃ y, key3 c.q (c.tapes.map headT) = y := ⟨_, rfl⟩
      rw [hy] at bX
      have HY := Lib.hid hy
      have b0 := bX.cell 0
      have b1 := bX.cell 1
      have b2 := bX.cell 2
      have b3 := bX.cell 3
      simp only [rdC, List.getElem?_toArray, List.getElem?_cons_zero, List.getElem?_cons_succ] at b0 b1 b2 b3
      have ob := bO.cell
      have of_ := bO.frozen
      clear hy
      go_wp2
      rw [HY.out]
      exact bodyPost_ret (v := rdE y) (by simp [results, Tryz.results38, go_sem, ob, rdE]) rfl ⟨rfl, ((((hx.setCell (p := ⟨g, 0, none⟩) (by show w.heap.size ≤ g; omega) _).setCell (p := ⟨g, 1, none⟩) (by show w.heap.size ≤ g; omega) _).setCell (p := ⟨g, 2, none⟩) (by show w.heap.size ≤ g; omega) _).setCell (p := ⟨g, 3, none⟩) (by show w.heap.size ≤ g; omega) _)⟩
end Go.Proofs.YtgeckhjkahnonaaGreatDoor
end
