/- Contract of the reference's tape of a configuration of the machine with one tape for several.
Contract of the reference's configuration with several tapes for one of the machine with one tape.
Contracts of the reference's decoding of a configuration of the machine with one tape that lies within a list of configurations. -/
import Derived.Test.YtfghojbbofobeaaGreatDoorW40
import Derived.Test.YtfghojbbofobeaaGreatDoorW37
import Derived.Test.YtfghojbbofobeaaGreatDoorW34
import Derived.Test.YtfghojbbofobeaaGreatDoorW39
section
set_option linter.unusedSimpArgs false
set_option linter.unusedVariables false
namespace Go.Proofs.YtfghojbbofobeaaGreatDoor
open Go Go.RowKit Go.Proofs Go.Maps
set_option maxHeartbeats 400000
def TapeResS (w : World) (r : Option TapeD) (e : Ending) (w' : World) : Prop :=
  ((r = none ∧ e = .returned (.tuple #[.agg #[.slice none 0 0, .slice none 0 0], .bool false])) ∨
    ∃ t lv rv, r = some t ∧ e = .returned (.tuple #[.agg #[lv, rv], .bool true]) ∧ OwnInts w.heap.size w' lv t.l ∧ OwnInts w.heap.size w' rv t.r) ∧ Ext w w'
end Go.Proofs.YtfghojbbofobeaaGreatDoor
end
section
set_option linter.unusedSimpArgs false
set_option linter.unusedVariables false
namespace Go.Proofs.YtfghojbbofobeaaGreatDoor
open Go Go.RowKit Go.Proofs Go.Maps
set_option maxHeartbeats 400000
/-- The reference's result. -/
def DecResS (w : World) (r : MConfD × Int) (e : Ending) (w' : World) : Prop :=
  ∃ v, e = .returned (.tuple #[.agg #[.int .i64 r.1.q, v], .int .i64 r.2]) ∧ OwnT w.heap.size w' v r.1.tapes ∧ Ext w w'
theorem OwnT.void (base : Nat) (w : World) : OwnT base w (.slice none 0 0) [] := ⟨[], World.ownsRow_nil .., TCells.nil _ _⟩
theorem OwnT.base {base base' : Nat} {w : World} {v : Value} {ts : List TapeD} (h : OwnT base w v ts) (hb : base' ≤ base) : OwnT base' w v ts := by
  obtain ⟨cl, h1, h2, h3⟩ := h
  exact ⟨cl, ownsRow_base h1 hb, h2, fun i hi => by
    obtain ⟨x, y, c0, c1, o1, o2⟩ := h3 i hi
    exact ⟨x, y, c0, c1, ownsRow_base o1 hb, ownsRow_base o2 hb⟩⟩
theorem DecResS.fail {w w1 : World} {k : Int} {b : Nat} (hb : w.heap.size ≤ b) (hX : Ext w w1) (x y : Value) :
    DecResS w (⟨0, []⟩, k) (.returned (.tuple #[.agg #[.int .i64 0, .slice none 0 0], .int .i64 k])) ((w1.setCell ⟨b, 0, none⟩ x).setCell ⟨b, 1, none⟩ y) :=
  ⟨_, rfl, OwnT.void _ _, (hX.setCell hb _).setCell hb _⟩
theorem DecResS.done {w w1 : World} {q k : Int} {ts : List TapeD} {v : Value} {b base : Nat} {cs : Array Value} (hb : w.heap.size ≤ b) (hX : Ext w w1) (h : OwnT base w1 v ts) (hbb : w.heap.size ≤ base) (hB : Blk w1 b 68 cs) (x y : Value) :
    DecResS w (⟨q, ts⟩, k) (.returned (.tuple #[.agg #[.int .i64 q, v], .int .i64 k])) ((w1.setCell ⟨b, 0, none⟩ x).setCell ⟨b, 1, none⟩ y) :=
  ⟨_, rfl, ((h.base hbb).far hB (by decide) (by decide) 0 x).far (hB.set_ 0 x) (by decide) (by decide) 1 y, (hX.setCell hb _).setCell hb _⟩
theorem encM_three {m : MultiD} {p : MP} (h : p.k = 0) : (encM m p)[1]? = some p.a ∧ (encM m p)[2]? = some p.t := by
  unfold encM
  rw [if_pos h]
  exact ⟨rfl, rfl⟩
theorem encM_fst {m : MultiD} {p : MP} (hp : WOk m p) : (encM m p)[0]? = some p.k := by
  have := encM_head hp
  rwa [List.head?_eq_getElem?] at this
end Go.Proofs.YtfghojbbofobeaaGreatDoor
end
section
set_option linter.unusedSimpArgs false
set_option linter.unusedVariables false
namespace Go.Proofs.YtfghojbbofobeaaGreatDoor
open Go Go.RowKit Go.Proofs Go.Maps
set_option maxHeartbeats 400000
/-- A configuration in memory, from a place within a block on. -/
def ConfQ (w : World) (b o : Nat) (c : ConfD) : Prop := ∃ lv rv, w.cell? ⟨b, o, none⟩ = some (.int .i64 c.q) ∧ w.cell? ⟨b, o + 1, none⟩ = some lv ∧ w.cell? ⟨b, o + 2, none⟩ = some rv ∧ Ints w lv c.l ∧ Ints w rv c.r
theorem ConfQ.ext {w w' : World} {b o : Nat} {c : ConfD} (h : ConfQ w b o c) (he : Ext w w') : ConfQ w' b o c := by
  obtain ⟨lv, rv, h1, h2, h3, h4, h5⟩ := h
  exact ⟨lv, rv, he.cell h1, he.cell h2, he.cell h3, h4.ext he, h5.ext he⟩
set_option maxRecDepth 20000 in
theorem l05GoodQ_c (b o bc oc : Nat) (m : MachD) (c : ConfD) (w : World) (hsy : w.cell? ⟨b, o, none⟩ = some (.int .i64 m.sy)) (hst : w.cell? ⟨b, o + 1, none⟩ = some (.int .i64 m.st)) (hc : ConfQ w bc oc c) (s1 : 1 ≤ m.sy) (s2 : m.sy ≤ 1000000) (s3 : 1 ≤ m.st) (s4 : m.st ≤ 1000) :
    Calls Tryz.prog 52 #[.pointer (some ⟨b, o, none⟩), .pointer (some ⟨bc, oc, none⟩)] w fun e w' => e = .returned (.bool (confB m c)) ∧ Ext w w' := by
  obtain ⟨lv, rv, p0, p1, p2, hl, hr⟩ := hc
  obtain ⟨Al, cl, rfl, _, _⟩ := hl.form
  obtain ⟨Ar, cr, rfl, _, _⟩ := hr.form
  have d0 := cellR p0
  have d1 := cellR p1
  have d2 := cellR p2
  have e0 := cellR hsy
  have e1 := cellR hst
  have CL := fun d os => l05Cells_c b o m.sy _ c.l _ (e0 d os) (hl.ext (below_regrown w d os)) s1 s2
  have CR := fun d os => l05Cells_c b o m.sy _ c.r _ (e0 d os) (hr.ext (below_regrown w d os)) s1 s2
  have IN := fun (w : World) => l00In_c c.q 0 (m.st - 1) w
  cases ha : inB c.q 0 (m.st - 1) with
  | false =>
    simp only [ha] at IN
    have HE : Hid (confB m c = false) := by unfold Hid; simp only [confB, ha]; simp
    go_enter Tryz.func52, Tryz.ntmps52
    go_wp2
    refine wp_region_ext (by kernel_rfl) (by kernel_rfl) ?_
    repeat (go_big_quiet_step (first | (go_at_call 45; exact Calls.sameR (IN _)) | (go_at_call 93; exact Calls.extR (CL _ _))))
    refine wpQuiet_nil ?_
    intro w2 hx2
    go_wp2
    go_ret
    exact ⟨by rw [HE.out]; rfl, hx2⟩
  | true =>
    simp only [ha] at IN
    cases hb : sideOk c.l m.sy 200 with
    | false =>
      have HE : Hid (confB m c = false) := by unfold Hid; simp only [confB, hb]; simp
      simp only [hb] at CL
      go_enter Tryz.func52, Tryz.ntmps52
      go_wp2
      refine wp_region_ext (by kernel_rfl) (by kernel_rfl) ?_
      repeat (go_big_quiet_step (first | (go_at_call 45; exact Calls.sameR (IN _)) | (go_at_call 93; exact Calls.extR (CL _ _))))
      refine wpQuiet_nil ?_
      intro w2 hx2
      go_wp2
      go_ret
      exact ⟨by rw [HE.out]; rfl, hx2⟩
    | true =>
      have HE : Hid (confB m c = sideOk c.r m.sy 200) := by unfold Hid; simp only [confB, hb, ha]; simp
      simp only [hb] at CL
      go_enter Tryz.func52, Tryz.ntmps52
      go_wp2
      refine wp_region_ext (by kernel_rfl) (by kernel_rfl) ?_
      repeat (go_big_quiet_step (first | (go_at_call 45; exact Calls.sameR (IN _)) | (go_at_call 93; with_reducible exact Calls.extR (CL _ _)) | (go_at_call 93; with_reducible exact Calls.extR (CR _ _))))
      refine wpQuiet_nil ?_
      intro w2 hx2
      go_wp2
      go_ret
      exact ⟨by rw [HE.out]; rfl, hx2⟩
set_option maxRecDepth 20000 in
set_option maxHeartbeats 8000000 in
theorem l13TapeQ_c (b bc oc : Nat) (m : MultiD) (c : ConfD) (t0 j : Int) (w : World) (hM : MulAt w b m) (hm : multiOk m = true) (hC : ConfQ w bc oc c) (hL : c.l.length ≤ 200) (hR : c.r.length ≤ 200)
    (ht0 : 0 ≤ t0) (ht1 : t0 < m.tp) (hj0 : 0 ≤ j) (hj1 : j < m.tp) (hB1 : ∀ z ∈ c.l, 0 ≤ z ∧ z ≤ 2 * m.sy - 1) (hB2 : ∀ z ∈ c.r, 0 ≤ z ∧ z ≤ 2 * m.sy - 1) :
    Calls Tryz.prog 53 #[.pointer (some ⟨b, 0, none⟩), .pointer (some ⟨bc, oc, none⟩), .int .i64 t0, .int .i64 j] w (TapeResS w (tapeDec m.sy (lineC m c t0 j))) := by
  obtain ⟨i0, hi, hz0, hz1, hz2⟩ := info_parts intInfo
  obtain ⟨⟨tp1, tp2⟩, ⟨y1, y2⟩, _⟩ := multi_all hm
  obtain ⟨A, cA, hb, _⟩ := hM
  obtain ⟨lv, qv, _, c1, c2, hl, hr⟩ := hC
  obtain ⟨Al, cl, rfl, _, _⟩ := hl.form
  obtain ⟨Ar, cr, rfl, _, _⟩ := hr.form
  obtain ⟨g, hg⟩ : ∃ g, w.heap.size = g := ⟨_, rfl⟩
  obtain ⟨W0, hW0⟩ : ∃ W, W = w.alloc (.cells #[.slice none 0 0, .slice none 0 0] 110) := ⟨_, rfl⟩
  have hX : Ext w W0 := by rw [hW0]; exact Ext.alloc _ _
  have hW0s : W0.heap.size = g + 1 := by rw [hW0]; simp [hg]
  have HWS := Lib.hid hW0s
  have bO : Blk W0 g 110 #[.slice none 0 0, .slice none 0 0] := by rw [hW0]; exact Blk.new _ _ _ _ hg
  have HBO := Lib.hid bO
  obtain ⟨W, hW⟩ : ∃ W, W = W0.alloc (.cells #[] 2) := ⟨_, rfl⟩
  have hXW : Ext W0 W := by rw [hW]; exact Ext.alloc _ _
  have HOWN : Hid (OwnInts (g + 1) W (.slice (some ⟨g + 1, 0, none⟩) 0 0) (plainM m.sy [])) := Lib.hid (by
    rw [hW]
    have := World.ownsRow_made (base := g + 1) (e := 2) (size := 1) W0 #[] 0 (by rw [hW0s]; exact Nat.le_refl _) (by unfold maxLen; omega) (by simp [ivs])
    rw [hW0s] at this
    exact this)
  have HC1 := Lib.hid (hX.cell c1)
  have HC2 := Lib.hid (hX.cell c2)
  have HMB := Lib.hid (hb.ext hX)
  have HL := Lib.hid (hl.ext hX)
  have HR := Lib.hid (hr.ext hX)
  have HB : Hid (∀ z ∈ lineC m c t0 j, 0 ≤ z ∧ z ≤ 2 * m.sy - 1) := Lib.hid (lineC_mem (by omega) hB1 hB2)
  obtain ⟨R, hRr⟩ : ∃ R, R = tapeDec m.sy (lineC m c t0 j) := ⟨_, rfl⟩
  rw [← hRr]
  have HRES := Lib.hid hRr
  obtain ⟨H, hH⟩ : ∃ H, c.l.length = H := ⟨_, rfl⟩
  obtain ⟨Q, hQ⟩ : ∃ Q, c.r.length = Q := ⟨_, rfl⟩
  have hN : (cellsC c).length = H + Q := by simp [cellsC, hH, hQ]
  have HLI : Hid (lineC m c t0 j = lineT m.tp.toNat (frstC m.tp t0 j H) (cellsC c) (H + Q)) := Lib.hid (by unfold lineC; rw [hN, hH])
  have HBX : Hid (∀ z ∈ cellsC c, 0 ≤ z ∧ z ≤ 2 * m.sy - 1) := Lib.hid fun z hz => by
    rcases List.mem_append.1 hz with h1 | h1
    · exact hB1 z (List.mem_reverse.1 h1)
    · exact hB2 z h1
  have HXL : Hid (∀ i, i < H → ∀ q, H = i + q + 1 → (cellsC c).getD i 0 = c.l.getD q 0) := Lib.hid fun i hi q hq => by
    unfold cellsC
    rw [List.getD_eq_getElem?_getD, List.getElem?_append_left (by rw [List.length_reverse]; omega), List.getElem?_reverse (by omega), List.getD_eq_getElem?_getD]
    congr 2
    omega
  have HXR : Hid (∀ q, (cellsC c).getD (H + q) 0 = c.r.getD q 0) := Lib.hid fun q => by
    unfold cellsC
    rw [List.getD_eq_getElem?_getD, List.getElem?_append_right (by rw [List.length_reverse]; omega), List.getD_eq_getElem?_getD, List.length_reverse, hH, Nat.add_sub_cancel_left]
  have HLn := Lib.hid hH
  have HQn := Lib.hid hQ
  have hT2 : m.tp = 2 ∨ m.tp = 3 := by omega
  rw [hH] at hL
  rw [hQ] at hR
  have hwn : IntKind.i64.wrap (-(H : Int)) = -(H : Int) := IntWalk.i64_in _ (by omega)
  have c1W := (hX.trans hXW).cell c1
  rw [hH] at c1W
  have HX := Lib.hid hX
  generalize cellsC c = xs at *
  obtain ⟨F, hF⟩ : ∃ F, frstC m.tp t0 j H = F := ⟨_, rfl⟩
  have HF : Hid (∀ i : Nat, (t0 + ((i : Int) - H)) % m.tp = j ↔ i % m.tp.toNat = F) := Lib.hid fun i => by rw [first_iff hT2 hj0 hj1, hF]
  rw [hF] at HLI
  clear hRr hH hQ hN hF hl hr hb hB1 hB2 c1 c2
  rw [hW, hW0] at c1W
  go_enter Tryz.func53, Tryz.ntmps53
  go_wp2_with fail
  try rw [← hW0]
  try rw [← hW]
  try rw [hg]
  clear hW hW0 hW0s
  go_loopw [10, 11, 12, 13] (fun l h k o wr => ∃ (i : Nat) (z hd : Int), i ≤ H + Q ∧ o = .int .i64 z ∧ h = .int .i64 hd ∧ Hid (z = (i : Int) - H) ∧ k = .int .i64 ((cntM m.sy (lineT m.tp.toNat F xs i) : Nat) : Int) ∧ Hid (LastM m.sy (lineT m.tp.toNat F xs i) hd) ∧ Ext W0 wr ∧ OwnInts (g + 1) wr l (plainM m.sy (lineT m.tp.toNat F xs i))) (fun _ _ _ o _ => ((Q : Int) - intOf o).toNat)
  case atStart => exact ⟨0, -(H : Int), -1, Nat.zero_le _, rfl, rfl, Lib.hid (by omega), rfl, Lib.hid (LastM.nil _ _), hXW, HOWN.out⟩
  case round =>
    clear c1W hX bO hXW
    obtain ⟨i, z, hd, hiN, rfl, rfl, hz, rfl, hla, hE, ho⟩ := hrel
    have hlN := lineT_len m.tp.toNat F xs i
    have hcn := cntM_le m.sy (lineT m.tp.toNat F xs i)
    have d1 := hE.cell HC1.out
    have d2 := hE.cell HC2.out
    rw [HLn.out] at d1
    rw [HQn.out] at d2
    have m0 := (HMB.out.ext hE).cell 0
    have m1 := (HMB.out.ext hE).cell 1
    simp only [List.getElem?_toArray, List.getElem?_cons_zero, List.getElem?_cons_succ] at m0 m1
    have hzi := hz.out
    have HZI := Lib.hid hz.out
    have HO := Lib.hid ho
    obtain ⟨Av, cv, hv, hv1, hv2, _⟩ := (ownsRow_row ho).form
    subst hv
    by_cases hlt : z < (Q : Int)
    · have hiN1 : i < H + Q := by omega
      have hw1 : IntKind.i64.wrap (t0 + z) = t0 + z := IntWalk.i64_in _ (by omega)
      obtain ⟨r1, hr1⟩ : ∃ r1, (t0 + z).tmod m.tp = r1 := ⟨_, rfl⟩
      have hr1b : -4 < r1 ∧ r1 < 4 := by
        have a1 := Int.lt_tmod_of_pos (t0 + z) (b := m.tp) (by omega)
        have a2 := Int.tmod_lt_of_pos (t0 + z) (b := m.tp) (by omega)
        omega
      have hw2 : IntKind.i64.wrap (r1 + m.tp) = r1 + m.tp := IntWalk.i64_in _ (by omega)
      have hr2 : (r1 + m.tp).tmod m.tp = (t0 + z) % m.tp := by rw [← hr1]; exact floor_eqA hT2
      have hr3 : ((t0 + z) % m.tp = j) ↔ i % m.tp.toNat = F := by rw [hzi]; exact HF.out i
      obtain ⟨r2, hr2'⟩ : ∃ r2, (t0 + z) % m.tp = r2 := ⟨_, rfl⟩
      rw [hr2'] at hr2 hr3
      have htp0 : ¬ m.tp = 0 := by omega
      have hw3 : IntKind.i64.wrap (z + 1) = z + 1 := IntWalk.i64_in _ (by omega)
      have hzn : z + 1 = ((i + 1 : Nat) : Int) - H := by omega
      have HZN := Lib.hid hzn
      have HLA := Lib.hid hla.out
      have hiH : (z < 0 ∧ i < H) ∨ (¬ z < 0 ∧ H ≤ i) := by omega
      have hmeas : ((Q : Int) - (z + 1)).toNat < ((Q : Int) - z).toNat := by omega
      clear hr2' hzn hla hv1 hv2 hzi
      have zD := Ext.drew wr
      go_upto_region 7 with fail
      have e0 := zD.cell m0
      refine wp_region_ordT 19 (readsT [0, 1, 2, 3, 4, 5, 6, 7, 8, 9, 10, 11, 12, 13, 14, 15, 16, 17, 18] .done) (by kernel_rfl) (by kernel_rfl) (fun _ _ _ _ _ h => h) ?_
      simp only [readsT]
      iterate 19 (refine wpOrdT_read (v := ?_) (by rfl) (Or.inl ⟨by rfl, fun x hx => ?_⟩) ?_; rotate_left; (· have u0 := hx.cell e0; go_simp; try with_reducible rfl); try simp only [Act.put, List.setIfInBounds_toArray, List.set_cons_zero, List.set_cons_succ])
      refine wpOrdT_done ?_
      try simp only [List.drop_succ_cons, List.drop_zero]
      change wpList _ _ _ _ _ wr.drew
      have hED := hE.trans zD
      have f1 := zD.cell d1
      have f2 := zD.cell d2
      have k1 := zD.cell m1
      have HOD := Lib.hid (OwnInts.ext HO.out zD)
      have LL := HL.out.ext hED
      have LR := HR.out.ext hED
      clear e0 m0 m1 d1 d2 ho HO hr1 hE
      generalize wr.drew = Y at *
      by_cases hj : r2 = j
      · have hmod : i % m.tp.toNat = F := hr3.1 hj
        have HN1 : Hid (lineT m.tp.toNat F xs (i + 1) = lineT m.tp.toNat F xs i ++ [xs.getD i 0]) := Lib.hid (lineT_hit hmod)
        obtain ⟨zs, hzs⟩ : ∃ zs, lineT m.tp.toNat F xs i = zs := ⟨_, rfl⟩
        rw [hzs] at HN1 HOD HLA hcn hlN
        rw [hzs]
        have HPL : (plainM m.sy zs).length = zs.length := by simp [plainM]
        have HPn := Lib.hid HPL
        clear hr3 hmod hzs HPL
        subst hj
        obtain ⟨y, hy⟩ : ∃ y, xs.getD i 0 = y := ⟨_, rfl⟩
        have hyb : 0 ≤ y ∧ y ≤ 2 * m.sy - 1 := by
          rw [← hy, List.getD_eq_getElem?_getD]
          cases h : xs[i]? with
          | none => exact ⟨Int.le_refl _, by show (0 : Int) ≤ _; omega⟩
          | some x => exact HBX.out x (List.mem_of_getElem? h)
        rw [hy] at HN1
        have htm : y.tmod m.sy = y % m.sy := Int.tmod_eq_emod_of_nonneg hyb.1
        obtain ⟨yr, hyr⟩ : ∃ yr, y % m.sy = yr := ⟨_, rfl⟩
        rw [hyr] at htm
        have HYR := Lib.hid hyr
        have hsy0 : ¬ m.sy = 0 := by omega
        clear hyr
        rcases hiH with ⟨hneg, hiH⟩ | ⟨hneg, hiH⟩
        · have hzi := HZI.out
          obtain ⟨q, hq⟩ : ∃ q, H = i + q + 1 := ⟨H - i - 1, by omega⟩
          have hqv : c.l.getD q 0 = y := by rw [← HXL.out i hiH q hq, hy]
          have hqH : q < H := by omega
          have hqc : q < c.l.length := by rw [HLn.out]; exact hqH
          have hqz : -z - 1 = (q : Int) := by omega
          have hn1 : IntKind.i64.wrap (-z) = -z := IntWalk.i64_in _ (by omega)
          have hn2 : IntKind.i64.wrap (-z - 1) = (q : Int) := by rw [hqz]; exact IntWalk.i64_in _ (by omega)
          have hqi : (q : Int) < (H : Int) := by omega
          obtain ⟨bl, ol, rfl, hcl⟩ := LL.at hqc
          have ck := hcl q hqc
          rw [show c.l[q] = y by rw [← hqv, List.getD_eq_getElem?_getD, List.getElem?_eq_getElem hqc]; rfl] at ck
          clear hq hqv hqz hy hqc hcl hzi
          obtain ⟨n, hn⟩ : ∃ n, (plainM m.sy zs).length = n := ⟨_, rfl⟩
          have ho : Y.ownsRow (g + 1) 2 1 (.slice Av (plainM m.sy zs).length cv) (plainM m.sy zs).length (ivs (plainM m.sy zs)) := HOD.out
          have hnz : n = zs.length := by rw [← hn]; exact HPn.out
          obtain ⟨kc, hkc⟩ : ∃ kc, cntM m.sy zs = kc := ⟨_, rfl⟩
          rw [hn] at ho ⊢
          rw [hkc] at hcn ⊢
          have hn4 : n ≤ 400 := by omega
          have hk4 : kc ≤ 400 := by omega
          have HPX : Hid (ivs (plainM m.sy (zs ++ [y])) = ivs (plainM m.sy zs) ++ [.int .i64 yr]) := Lib.hid (by rw [plain_snoc, HYR.out]; simp [ivs])
          have HPL1 : Hid ((plainM m.sy (zs ++ [y])).length = n + 1) := Lib.hid (by rw [plain_snoc, List.length_append, hn]; rfl)
          have hwk : IntKind.i64.wrap ((kc : Int) + 1) = (kc : Int) + 1 := IntWalk.i64_in _ (by omega)
          have hsz : g + 1 ≤ Y.heap.size := by have := hED.size; rw [HWS.out] at this; exact this
          have hl1 := fun (b : Nat) (hb : (Value.slice Av n cv).ownBlock = some b) => (ho.lt b hb).1
          have hlow : ∀ b, (Value.slice Av n cv).ownBlock = some b → W0.heap.size ≤ b := fun b hb => by rw [HWS.out]; exact hl1 b hb
          by_cases hmk : m.sy ≤ y
          · have hmb : markB m.sy y = true := decide_eq_true hmk
            have HLM : Hid (LastM m.sy (zs ++ [y]) (n : Int)) := Lib.hid (by rw [hnz]; exact LastM.mark hmb)
            have HCN : Hid (((cntM m.sy (zs ++ [y]) : Nat) : Int) = (kc : Int) + 1) := Lib.hid (by rw [cntM_snoc, hkc, hmb]; simp)
            clear hmb hn hnz hkc HYR HPn hl1
            go_wp2_with (at_builtin; refine wpList_append_own _ rfl _ _ 44 rfl (g + 1) 2 i0 (.int .i64 0) 1 8 Tryz.underlying44 hi hz0 hz1 hz2 rfl (by decide) _ _ _ rfl (ho.alloc _) ⟨Y.heap.size, 0, none⟩ 1 1 [.int .i64 yr] rfl rfl (cell_one_new _ _ _) ?c2 ?c3 ?c4 ?c5 ?_)
            case c2 => first | rfl | (intro u hu; simp at hu; subst hu; rfl)
            case c3 => first | omega | (unfold maxLen; omega)
            case c4 => omega
            case c5 => first | omega | (simp; omega)
            intro v' w3 hown' hgrow _
            have hX3 : Ext W0 w3 := hED.grown (grownBy_trans (World.grownBy_alloc _ _ _) hgrow) hlow
            have R3 : OwnInts (g + 1) w3 v' (plainM m.sy (zs ++ [y])) := by unfold OwnInts; rw [HPX.out, HPL1.out]; exact hown'
            clear hown' hgrow ho
            go_wp2_with fail
            go_roundw
            case rel => exact ⟨i + 1, z + 1, (n : Int), by omega, rfl, rfl, HZN.out, by rw [HN1.out, HCN.out], by rw [HN1.out]; exact HLM.out, hX3, by rw [HN1.out]; exact R3⟩
            case measure => simp [intOf]; omega
          · have hmb : markB m.sy y = false := decide_eq_false hmk
            have HLM : Hid (LastM m.sy (zs ++ [y]) hd) := Lib.hid (LastM.skip HLA.out hmb)
            have HCN : Hid (((cntM m.sy (zs ++ [y]) : Nat) : Int) = (kc : Int)) := Lib.hid (by rw [cntM_snoc, hkc, hmb]; simp)
            clear hmb hn hnz hkc HYR HPn hl1
            go_wp2_with (at_builtin; refine wpList_append_own _ rfl _ _ 44 rfl (g + 1) 2 i0 (.int .i64 0) 1 8 Tryz.underlying44 hi hz0 hz1 hz2 rfl (by decide) _ _ _ rfl (ho.alloc _) ⟨Y.heap.size, 0, none⟩ 1 1 [.int .i64 yr] rfl rfl (cell_one_new _ _ _) ?c2 ?c3 ?c4 ?c5 ?_)
            case c2 => first | rfl | (intro u hu; simp at hu; subst hu; rfl)
            case c3 => first | omega | (unfold maxLen; omega)
            case c4 => omega
            case c5 => first | omega | (simp; omega)
            intro v' w3 hown' hgrow _
            have hX3 : Ext W0 w3 := hED.grown (grownBy_trans (World.grownBy_alloc _ _ _) hgrow) hlow
            have R3 : OwnInts (g + 1) w3 v' (plainM m.sy (zs ++ [y])) := by unfold OwnInts; rw [HPX.out, HPL1.out]; exact hown'
            clear hown' hgrow ho
            go_wp2_with fail
            go_roundw
            case rel => exact ⟨i + 1, z + 1, hd, by omega, rfl, rfl, HZN.out, by rw [HN1.out, HCN.out], by rw [HN1.out]; exact HLM.out, hX3, by rw [HN1.out]; exact R3⟩
            case measure => simp [intOf]; omega
        · have hzi := HZI.out
          obtain ⟨q, hq⟩ : ∃ q : Nat, z = (q : Int) := ⟨z.toNat, by omega⟩
          have hqi0 : i = H + q := by omega
          have hqv : c.r.getD q 0 = y := by rw [← HXR.out q, ← hqi0, hy]
          have hqH : q < Q := by omega
          have hqc : q < c.r.length := by rw [HQn.out]; exact hqH
          have hqi : (q : Int) < (Q : Int) := by omega
          have hzt : z.toNat = q := by omega
          have hz00 : 0 ≤ z := by omega
          have hzq : z < (Q : Int) := by omega
          obtain ⟨bl, ol, rfl, hcl⟩ := LR.at hqc
          have ck := hcl q hqc
          rw [show c.r[q] = y by rw [← hqv, List.getD_eq_getElem?_getD, List.getElem?_eq_getElem hqc]; rfl] at ck
          clear hq hqi0 hqv hy hqc hcl hzi hqi
          obtain ⟨n, hn⟩ : ∃ n, (plainM m.sy zs).length = n := ⟨_, rfl⟩
          have ho : Y.ownsRow (g + 1) 2 1 (.slice Av (plainM m.sy zs).length cv) (plainM m.sy zs).length (ivs (plainM m.sy zs)) := HOD.out
          have hnz : n = zs.length := by rw [← hn]; exact HPn.out
          obtain ⟨kc, hkc⟩ : ∃ kc, cntM m.sy zs = kc := ⟨_, rfl⟩
          rw [hn] at ho ⊢
          rw [hkc] at hcn ⊢
          have hn4 : n ≤ 400 := by omega
          have hk4 : kc ≤ 400 := by omega
          have HPX : Hid (ivs (plainM m.sy (zs ++ [y])) = ivs (plainM m.sy zs) ++ [.int .i64 yr]) := Lib.hid (by rw [plain_snoc, HYR.out]; simp [ivs])
          have HPL1 : Hid ((plainM m.sy (zs ++ [y])).length = n + 1) := Lib.hid (by rw [plain_snoc, List.length_append, hn]; rfl)
          have hwk : IntKind.i64.wrap ((kc : Int) + 1) = (kc : Int) + 1 := IntWalk.i64_in _ (by omega)
          have hsz : g + 1 ≤ Y.heap.size := by have := hED.size; rw [HWS.out] at this; exact this
          have hl1 := fun (b : Nat) (hb : (Value.slice Av n cv).ownBlock = some b) => (ho.lt b hb).1
          have hlow : ∀ b, (Value.slice Av n cv).ownBlock = some b → W0.heap.size ≤ b := fun b hb => by rw [HWS.out]; exact hl1 b hb
          by_cases hmk : m.sy ≤ y
          · have hmb : markB m.sy y = true := decide_eq_true hmk
            have HLM : Hid (LastM m.sy (zs ++ [y]) (n : Int)) := Lib.hid (by rw [hnz]; exact LastM.mark hmb)
            have HCN : Hid (((cntM m.sy (zs ++ [y]) : Nat) : Int) = (kc : Int) + 1) := Lib.hid (by rw [cntM_snoc, hkc, hmb]; simp)
            clear hmb hn hnz hkc HYR HPn hl1
            go_wp2_with (at_builtin; refine wpList_append_own _ rfl _ _ 44 rfl (g + 1) 2 i0 (.int .i64 0) 1 8 Tryz.underlying44 hi hz0 hz1 hz2 rfl (by decide) _ _ _ rfl (ho.alloc _) ⟨Y.heap.size, 0, none⟩ 1 1 [.int .i64 yr] rfl rfl (cell_one_new _ _ _) ?c2 ?c3 ?c4 ?c5 ?_)
            case c2 => first | rfl | (intro u hu; simp at hu; subst hu; rfl)
            case c3 => first | omega | (unfold maxLen; omega)
            case c4 => omega
            case c5 => first | omega | (simp; omega)
            intro v' w3 hown' hgrow _
            have hX3 : Ext W0 w3 := hED.grown (grownBy_trans (World.grownBy_alloc _ _ _) hgrow) hlow
            have R3 : OwnInts (g + 1) w3 v' (plainM m.sy (zs ++ [y])) := by unfold OwnInts; rw [HPX.out, HPL1.out]; exact hown'
            clear hown' hgrow ho
            go_wp2_with fail
            go_roundw
            case rel => exact ⟨i + 1, z + 1, (n : Int), by omega, rfl, rfl, HZN.out, by rw [HN1.out, HCN.out], by rw [HN1.out]; exact HLM.out, hX3, by rw [HN1.out]; exact R3⟩
            case measure => simp [intOf]; omega
          · have hmb : markB m.sy y = false := decide_eq_false hmk
            have HLM : Hid (LastM m.sy (zs ++ [y]) hd) := Lib.hid (LastM.skip HLA.out hmb)
            have HCN : Hid (((cntM m.sy (zs ++ [y]) : Nat) : Int) = (kc : Int)) := Lib.hid (by rw [cntM_snoc, hkc, hmb]; simp)
            clear hmb hn hnz hkc HYR HPn hl1
            go_wp2_with (at_builtin; refine wpList_append_own _ rfl _ _ 44 rfl (g + 1) 2 i0 (.int .i64 0) 1 8 Tryz.underlying44 hi hz0 hz1 hz2 rfl (by decide) _ _ _ rfl (ho.alloc _) ⟨Y.heap.size, 0, none⟩ 1 1 [.int .i64 yr] rfl rfl (cell_one_new _ _ _) ?c2 ?c3 ?c4 ?c5 ?_)
            case c2 => first | rfl | (intro u hu; simp at hu; subst hu; rfl)
            case c3 => first | omega | (unfold maxLen; omega)
            case c4 => omega
            case c5 => first | omega | (simp; omega)
            intro v' w3 hown' hgrow _
            have hX3 : Ext W0 w3 := hED.grown (grownBy_trans (World.grownBy_alloc _ _ _) hgrow) hlow
            have R3 : OwnInts (g + 1) w3 v' (plainM m.sy (zs ++ [y])) := by unfold OwnInts; rw [HPX.out, HPL1.out]; exact hown'
            clear hown' hgrow ho
            go_wp2_with fail
            go_roundw
            case rel => exact ⟨i + 1, z + 1, hd, by omega, rfl, rfl, HZN.out, by rw [HN1.out, HCN.out], by rw [HN1.out]; exact HLM.out, hX3, by rw [HN1.out]; exact R3⟩
            case measure => simp [intOf]; omega
      · have hmod : i % m.tp.toNat ≠ F := fun h => hj (hr3.2 h)
        have HN1 : Hid (lineT m.tp.toNat F xs (i + 1) = lineT m.tp.toNat F xs i) := Lib.hid (lineT_skip hmod)
        have hrj : (r2 != j) = true := by simp [hj]
        clear hr3 hmod
        go_wp2_with fail
        go_roundw
        case rel => exact ⟨i + 1, z + 1, hd, by omega, rfl, rfl, HZN.out, by rw [HN1.out], by rw [HN1.out]; exact HLA.out, hED, by rw [HN1.out]; exact HOD.out⟩
        case measure => simp [intOf]; omega
    · have hge : ¬ z < (Q : Int) := hlt
      have hiE : i = H + Q := by omega
      have hlB : g ≤ wr.heap.size := by have := hE.size; rw [HWS.out] at this; omega
      have bO1 := HBO.out.ext hE
      have hXw := HX.out.trans hE
      have hwg : w.heap.size ≤ g := by omega
      rw [hiE, ← HLI.out] at hcn hlN
      have HLA : Hid (LastM m.sy (lineC m c t0 j) hd) := Lib.hid (by rw [HLI.out, ← hiE]; exact hla.out)
      have hoC : OwnInts (g + 1) wr (.slice Av (plainM m.sy (lineC m c t0 j)).length cv) (plainM m.sy (lineC m c t0 j)) := by rw [HLI.out, ← hiE]; exact HO.out
      have hcv : (plainM m.sy (lineC m c t0 j)).length ≤ cv := by
        obtain ⟨A', c', e, h1, _⟩ := hoC.ints.form
        injection e with e1 e2 e3
        omega
      rw [hiE, ← HLI.out]
      have HRN := Lib.hid HRES.out
      generalize lineC m c t0 j = zs at *
      obtain ⟨n, hn⟩ : ∃ n, (plainM m.sy zs).length = n := ⟨_, rfl⟩
      have hnz : zs.length = n := by rw [← hn]; simp [plainM]
      rw [hn] at hoC hcv ⊢
      have hn4 : n ≤ 400 := by omega
      have HNZ := Lib.hid hnz
      have HNP := Lib.hid hn
      by_cases hc : cntM m.sy zs = 1
      · obtain ⟨k, rfl, hk, hf, ha⟩ := dec_one HLA.out hc
        have HT := Lib.hid (tapeDec_one hf ha)
        have hkn : k < n := by omega
        have HTK := Lib.hid (plain_take HB.out hf)
        have HDK := Lib.hid (plain_drop HB.out hf ha)
        have HRT : Hid (R = some ⟨trim (zs.take k).reverse, trim ((zs.getD k 0 - m.sy) :: zs.drop (k + 1))⟩) := Lib.hid (by rw [HRN.out]; exact HT.out)
        rw [hc]
        obtain ⟨gl, rfl, hgl1, hgl2⟩ := own_at (show wr.ownsRow (g + 1) 2 1 (.slice Av n cv) n (ivs (plainM m.sy zs)) by rw [← hn]; exact (by rw [← hn] at hoC; exact hoC)) (by omega)
        have i1' : Ints wr (.slice (some ⟨gl, 0, none⟩) k cv) (zs.take k) := by
          have h1 := hoC.ints
          rw [← hn] at h1
          have h2 := h1.take k (by omega)
          rwa [HTK.out] at h2
        have i2' := ints_dropA hoC.ints hn.symm k (by omega)
        rw [HDK.out, Nat.zero_add] at i2'
        have hlt0 : (zs.take k).length ≤ 1048576 := by rw [List.length_take]; omega
        have hlt1 : (zs.take k).reverse.length ≤ 1048576 := by rw [List.length_reverse]; exact hlt0
        have hlt2 : ((zs.getD k 0 - m.sy) :: zs.drop (k + 1)).length ≤ 1048576 := by rw [List.length_cons, List.length_drop]; omega
        have zE := Ext.drew wr
        have RV := l03Reverse_c (.slice (some ⟨gl, 0, none⟩) k cv) (zs.take k) wr.drew (i1'.ext zE) hlt0
        generalize hl1 : (zs.take k).reverse = L1 at *
        generalize hl2 : (zs.getD k 0 - m.sy) :: zs.drop (k + 1) = L2 at *
        have hkc : k ≤ cv := by omega
        have hkci : (k : Int) ≤ (cv : Int) := by omega
        have hkn2 : k ≤ n := by omega
        have hkni : (k : Int) ≤ (n : Int) := by omega
        have hnck : ¬ cv = k := by omega
        clear hn hnz hc hf ha HT hoC HO hlN hcn hl1 hl2 hiE hzi hv1 hv2 ho hla
        go_upto_region 18 with fail
        refine wp_region_ordT 10 (readsT [0, 1, 2, 5, 6, 7] (.stir 3 (.stir 4 (.stir 8 (readsT [9] .done))))) (by kernel_rfl) (by kernel_rfl) (fun _ _ _ _ _ h => h) ?_
        simp only [readsT]
        iterate 6 (refine wpOrdT_read (v := ?_) (by rfl) (Or.inl ⟨by rfl, fun x hx => ?_⟩) ?_; rotate_left; (· go_simp; try with_reducible rfl); try simp only [Act.put, List.setIfInBounds_toArray, List.set_cons_zero, List.set_cons_succ])
        refine wpOrdT_stir (by rfl) (fun K hK => ?_)
        go_simp
        go_at_call 56
        refine RV.mono ?_
        rintro e w5 ⟨u5, rfl, ho5, hx5⟩
        refine hK _ _ hx5 ?_
        clear hK K RV
        try simp only [Act.put, List.setIfInBounds_toArray, List.set_cons_zero, List.set_cons_succ]
        have TR := l05Trim_c u5 L1 w5 ho5.ints hlt1
        refine wpOrdT_stir (by rfl) (fun K hK => ?_)
        go_simp
        go_at_call 89
        refine TR.mono ?_
        rintro e w6 ⟨u6, rfl, ho6, hx6⟩
        refine hK _ _ hx6 ?_
        clear hK K TR
        try simp only [Act.put, List.setIfInBounds_toArray, List.set_cons_zero, List.set_cons_succ]
        have TR := l05Trim_c _ L2 w6 (i2'.ext (zE.trans (hx5.trans hx6))) hlt2
        refine wpOrdT_stir (by rfl) (fun K hK => ?_)
        go_simp
        go_at_call 89
        refine TR.mono ?_
        rintro e w8 ⟨u8, rfl, ho8, hx8⟩
        refine hK _ _ hx8 ?_
        clear hK K TR
        try simp only [Act.put, List.setIfInBounds_toArray, List.set_cons_zero, List.set_cons_succ]
        obtain ⟨A6, c6, rfl, _, _⟩ := ho6.ints.form
        obtain ⟨A8, c8, rfl, _, _⟩ := ho8.ints.form
        iterate 1 (refine wpOrdT_read (v := ?_) (by rfl) (Or.inl ⟨by rfl, fun x hx => ?_⟩) ?_; rotate_left; (· go_simp; try with_reducible rfl); try simp only [Act.put, List.setIfInBounds_toArray, List.set_cons_zero, List.set_cons_succ])
        refine wpOrdT_done ?_
        try simp only [List.drop_succ_cons, List.drop_zero]
        have hE8 : Ext wr w8 := zE.trans (hx5.trans (hx6.trans hx8))
        have hX8 := hXw.trans hE8
        have b8 := bO1.ext hE8
        have o6 : OwnInts w.heap.size w8 (.slice A6 (trim L1).length c6) (trim L1) := OwnInts.ext (ownsRow_base ho6 (Nat.le_trans hXw.size (zE.trans hx5).size)) hx8
        have o8 : OwnInts w.heap.size w8 (.slice A8 (trim L2).length c8) (trim L2) := ownsRow_base ho8 (Nat.le_trans hXw.size (zE.trans (hx5.trans hx6)).size)
        have ob := b8.cell
        have of_ := b8.frozen
        have HO6 := Lib.hid o6
        have HO8 := Lib.hid o8
        clear o6 o8 ho6 ho8 ho5 hx5 hx6 hx8 i1' i2'
        go_wp2
        exact bodyPost_ret (v := .tuple #[.agg #[.slice A6 (trim L1).length c6, .slice A8 (trim L2).length c8], .bool true]) (by simp [results, Tryz.results53, go_sem, ob]) rfl ⟨.inr ⟨_, _, _, HRT.out, rfl, own_setM (b8.set_ 0 _) (by decide) (own_setM b8 (by decide) HO6.out 0 _) 1 _, own_setM (b8.set_ 0 _) (by decide) (own_setM b8 (by decide) HO8.out 0 _) 1 _⟩, (hX8.setCell (p := ⟨g, 0, none⟩) hwg _).setCell (p := ⟨g, 1, none⟩) hwg _⟩
      · have HRT : Hid (R = none) := Lib.hid (by rw [HRN.out]; exact dec_no hc)
        obtain ⟨kc, hkc⟩ : ∃ kc, cntM m.sy zs = kc := ⟨_, rfl⟩
        rw [hkc] at hc hcn ⊢
        have hb1 : ((kc : Int) != 1) = true := by simp; omega
        have ob := bO1.cell
        have of_ := bO1.frozen
        clear hn hnz hc hoC HO hlN hcn hiE hzi hkc ho hla
        go_wp2
        exact bodyPost_ret (v := .tuple #[.agg #[.slice none 0 0, .slice none 0 0], .bool false]) (by simp [results, Tryz.results53, go_sem, ob]) rfl ⟨.inl ⟨HRT.out, rfl⟩, (hXw.setCell (p := ⟨g, 0, none⟩) hwg _).setCell (p := ⟨g, 1, none⟩) hwg _⟩
set_option maxRecDepth 20000 in
set_option maxHeartbeats 8000000 in
theorem l13DecodeQ_c (base : Nat) (w : World) (bk b bc oc : Nat) (m : MultiD) (rs : List RuleD) (ps : List MP) (rv pv : Value) (vs : List Value) (c : ConfD)
    (h : MkM base w bk b m (2 * m.sy) ps.length rs ps rv pv vs) (hok : ∀ p ∈ ps, WOk m p) (l1 : 1 ≤ ps.length) (l2 : ps.length ≤ 1000) (hM : MulAt w b m) (hm : multiOk m = true) (hC : ConfQ w bc oc c) :
    Calls Tryz.prog 26 #[.pointer (some ⟨bk, 0, none⟩), .pointer (some ⟨bc, oc, none⟩)] w (DecResS w (if confB ⟨2 * m.sy, ps.length, rs⟩ c then decOne m (ps.getD c.q.toNat mp0) c else (⟨0, []⟩, 2))) := by
  obtain ⟨i0, hi0, hz0, hz1, hz2⟩ := info_parts tapeInfo
  obtain ⟨⟨tp1, tp2⟩, ⟨y1, y2⟩, _⟩ := multi_all hm
  obtain ⟨Ap, cp, rfl, hp1, hp2, _⟩ := (ownsRow_row h.places).form
  obtain ⟨R, hR⟩ : ∃ R, R = (if confB ⟨2 * m.sy, ps.length, rs⟩ c then decOne m (ps.getD c.q.toNat mp0) c else (⟨0, []⟩, 2)) := ⟨_, rfl⟩
  rw [← hR]
  have HR := Lib.hid hR
  obtain ⟨g, hg⟩ : ∃ g, w.heap.size = g := ⟨_, rfl⟩
  obtain ⟨W, hW⟩ : ∃ W, W = w.alloc (.cells #[.int .i64 0, .slice none 0 0] 68) := ⟨_, rfl⟩
  have hX : Ext w W := by rw [hW]; exact Ext.alloc _ _
  have bO : Blk W g 68 #[.int .i64 0, .slice none 0 0] := by rw [hW]; exact Blk.new _ _ _ _ hg
  have hwg : w.heap.size ≤ g := by omega
  have x4 := (h.blk.ext hX).cell 4
  have x5 := (h.blk.ext hX).cell 5
  simp only [List.getElem?_toArray, List.getElem?_cons_zero, List.getElem?_cons_succ] at x4 x5
  have GD := l05GoodQ_c bk 4 bc oc ⟨2 * m.sy, ps.length, rs⟩ c W x4 x5 (hC.ext hX) (by show (1 : Int) ≤ 2 * m.sy; omega) (by show 2 * m.sy ≤ 1000000; omega) (by show (1 : Int) ≤ (ps.length : Int); omega) (by show (ps.length : Int) ≤ 1000; omega)
  clear x4 x5 hR
  go_enter Tryz.func26, Tryz.ntmps26
  go_wp2_with fail
  try rw [← hW]
  try rw [hg]
  clear hW
  refine GD.mono ?_
  rintro e w1 ⟨rfl, hx1⟩
  clear GD
  have hX1 := hX.trans hx1
  have bO1 := bO.ext hx1
  cases hc : confB ⟨2 * m.sy, ps.length, rs⟩ c with
  | false =>
    have HE : Hid (R = (⟨0, []⟩, 2)) := Lib.hid (by rw [HR.out, hc]; rfl)
    have ob := bO1.cell
    have of_ := bO1.frozen
    clear hc
    go_wp2_with fail
    rw [HE.out]
    exact bodyPost_ret (v := .tuple #[.agg #[.int .i64 0, .slice none 0 0], .int .i64 2]) (by simp [results, Tryz.results26, go_sem, ob]) rfl (DecResS.fail hwg hX1 _ _)
  | true =>
    obtain ⟨⟨q0, q1⟩, ⟨b1, b2⟩, ⟨b3, b4⟩⟩ := conf_allM hc
    obtain ⟨i, hi⟩ : ∃ i : Nat, c.q = i := ⟨c.q.toNat, by omega⟩
    have hil : i < ps.length := by omega
    obtain ⟨p, hp⟩ : ∃ p, ps[i] = p := ⟨_, rfl⟩
    have hpg : ps[i]? = some p := by rw [List.getElem?_eq_getElem hil, hp]
    have HE : Hid (R = decOne m p c) := Lib.hid (by
      rw [HR.out, hc, hi, Int.toNat_natCast, List.getD_eq_getElem?_getD, hpg]
      rfl)
    have hpk : WOk m p := hok p (by rw [← hp]; exact List.getElem_mem hil)
    obtain ⟨u, hu, hou⟩ := h.rows i p hpg
    obtain ⟨lv, qv, c0, c1, c2, hl, hr⟩ := hC
    have HC : Hid (ConfQ w bc oc c) := Lib.hid ⟨lv, qv, c0, c1, c2, hl, hr⟩
    rw [hi] at c0
    have HB1 : Hid (∀ z ∈ c.l, 0 ≤ z ∧ z ≤ 2 * m.sy - 1) := Lib.hid fun z hz => by have := b2 z hz; omega
    have HB2 : Hid (∀ z ∈ c.r, 0 ≤ z ∧ z ≤ 2 * m.sy - 1) := Lib.hid fun z hz => by have := b4 z hz; omega
    have e0 := encM_fst (m := m) hpk
    have HK3 : Hid (p.k = 0 → (encM m p)[1]? = some p.a ∧ (encM m p)[2]? = some p.t) := Lib.hid encM_three
    have ht0 : 0 ≤ p.t := hpk.t0
    have ht1 : p.t < m.tp := hpk.t1
    obtain ⟨gp, rfl, _, _⟩ := own_at h.places (by omega)
    have k0 : w.cell? ⟨gp, i, none⟩ = some u := (World.ownsRow.cellAt h.places i (by have := h.places.1; omega)).trans hu
    obtain ⟨n, hn⟩ : ∃ n, (encM m p).length = n := ⟨_, rfl⟩
    obtain ⟨Au, cu, rfl, _, _⟩ := id hou.ints.form
    have hn0 : 0 < (encM m p).length := (List.getElem?_eq_some_iff.1 e0).1
    obtain ⟨gu, rfl, _, _⟩ := own_at hou hn0
    have kc : ∀ (q : Nat) (z : Int), (encM m p)[q]? = some z → w.cell? ⟨gu, q, none⟩ = some (.int .i64 z) := fun q z hz => by
      have hq := (List.getElem?_eq_some_iff.1 hz).1
      rw [World.ownsRow.cellAt hou q (by simpa using hq)]
      simp only [ivs, List.getElem?_map, hz]
      rfl
    rw [hn] at k0 hn0
    have u0 := kc 0 _ e0
    have HU1 : Hid (p.k = 0 → w.cell? ⟨gu, 1, none⟩ = some (.int .i64 p.a) ∧ w.cell? ⟨gu, 2, none⟩ = some (.int .i64 p.t) ∧ 2 < n) := Lib.hid fun hk => by
      obtain ⟨a1, a2⟩ := HK3.out hk
      exact ⟨kc 1 _ a1, kc 2 _ a2, by rw [← hn]; exact (List.getElem?_eq_some_iff.1 a2).1⟩
    have x3 := (h.blk.ext hX1).cell 3
    have x1 := (h.blk.ext hX1).cell 1
    simp only [List.getElem?_toArray, List.getElem?_cons_zero, List.getElem?_cons_succ] at x3 x1
    have HX1b := Lib.hid x1
    have HMM := Lib.hid (hM.ext hX1)
    have j1 : (0 : Int) ≤ (i : Int) := by omega
    have j2 : (i : Int) < (ps.length : Int) := by omega
    have zD := Ext.drew w1
    have d0 := zD.cell (hX1.cell c0)
    have d3 := zD.cell x3
    have dk := zD.cell (hX1.cell k0)
    have HI := Lib.hid hi
    clear hc hi hp hpg e0 hn kc x1 x3 c0 c1 c2 hl hr hou hu h q0 q1 b2 b4 k0
    go_upto_region 3 with fail
    refine wp_region_ordT 10 (readsT [0, 1, 2, 3, 4, 5, 6, 7, 8, 9] .done) (by kernel_rfl) (by kernel_rfl) (fun _ _ _ _ _ h => h) ?_
    simp only [readsT]
    iterate 10 (refine wpOrdT_read (v := ?_) (by rfl) (Or.inl ⟨by rfl, fun x hx => ?_⟩) ?_; rotate_left; (· have u0 := hx.cell d0; have u1 := hx.cell d3; have u2 := hx.cell dk; go_simp; try with_reducible rfl); try simp only [Act.put, List.setIfInBounds_toArray, List.set_cons_zero, List.set_cons_succ])
    refine wpOrdT_done ?_
    try simp only [List.drop_succ_cons, List.drop_zero]
    change wpList _ _ _ _ _ w1.drew
    have hX2 := hX1.trans zD
    have hxW := hx1.trans zD
    have bO2 := bO1.ext zD
    have v0 := hX2.cell u0
    clear d0 d3 dk
    generalize w1.drew = V at *
    obtain ⟨pk, pa, pt, pc, pf0, pf1, pf2, pd⟩ := p
    simp only at v0 ht0 ht1 HU1
    by_cases hk : pk = 0
    · obtain ⟨w1', w2', hn2⟩ := HU1.out hk
      have v1 := hX2.cell w1'
      have v2 := hX2.cell w2'
      clear HU1 w1' w2'
      subst hk
      have hn1 : 1 < n := by omega
      have hn1i : (1 : Int) < (n : Int) := by omega
      have hn2i : (2 : Int) < (n : Int) := by omega
      have hn0i : (0 : Int) < (n : Int) := by omega
      have HK : Hid (R = match decTapes m c pt m.tp.toNat with | some ts => (⟨pa, ts⟩, 0) | none => (⟨0, []⟩, 9)) := Lib.hid (by rw [HE.out]; unfold decOne; simp only [if_true]; cases decTapes m c pt m.tp.toNat <;> rfl)
      obtain ⟨gv, hgv⟩ : ∃ gv, V.heap.size = gv := ⟨_, rfl⟩
      obtain ⟨U, hU⟩ : ∃ U, U = (V.alloc (.cells #[] 110)).alloc (.cells #[.int .i64 pa, .slice (some ⟨gv, 0, none⟩) 0 0] 68) := ⟨_, rfl⟩
      have hXU : Ext V U := by rw [hU]; exact (Ext.alloc _ _).trans (Ext.alloc _ _)
      have bT : Blk U (gv + 1) 68 #[.int .i64 pa, .slice (some ⟨gv, 0, none⟩) 0 0] := by rw [hU]; exact Blk.new _ _ _ _ (by simp [hgv])
      have o0 : OwnT gv U (.slice (some ⟨gv, 0, none⟩) 0 0) [] := by
        have h1 := World.ownsRow_made (base := gv) (e := 110) (size := 2) V #[] 0 (by rw [hgv]; exact Nat.le_refl _) (by unfold maxLen; omega) (by simp)
        rw [hgv] at h1
        have h2 : OwnT gv (V.alloc (.cells #[] 110)) (.slice (some ⟨gv, 0, none⟩) 0 0) [] := ⟨[], h1, TCells.nil _ _⟩
        rw [hU]
        exact h2.ext (Ext.alloc _ _)
      have HGV := Lib.hid hgv
      have HXV := Lib.hid hX2
      have HBO := Lib.hid bO2
      have HV2 := Lib.hid v2
      have HX1V := Lib.hid (zD.cell HX1b.out)
      have HMV := Lib.hid (HMM.out.ext zD)
      have HCV := Lib.hid (HC.out.ext hX2)
      clear hX1 hX hx1 zD bO bO1 bO2 hM
      have HC := HCV
      go_wp2_with fail
      try rw [← hU]
      try rw [hgv]
      clear hU hgv
      go_loopw [8] (fun u wr => ∃ (k : Nat) (ts : List TapeD) (v : Value), (k : Int) ≤ m.tp ∧ u = .int .i64 (k : Int) ∧ decTapes m c pt k = some ts ∧ OwnT gv wr v ts ∧ Ext V wr ∧ Blk wr (gv + 1) 68 #[.int .i64 pa, v]) (fun u _ => m.tp.toNat - (intOf u).toNat)
      case atStart => exact ⟨0, [], _, by show (0 : Int) ≤ m.tp; omega, rfl, rfl, o0, hXU, bT⟩
      case round =>
        clear hXU bT o0 v0 v1 v2
        obtain ⟨k, ts, v, hk, rfl, hdt, st, hx, bT⟩ := hrel
        obtain ⟨Av, cv, rfl, _, _⟩ := st.form
        have hXwr := HXV.out.trans hx
        have HMr := HMV.out.ext hx
        obtain ⟨Am, cm, bMr, _⟩ := id HMr
        have m0 := bMr.cell 0
        have x1 := hx.cell HX1V.out
        simp only [List.getElem?_toArray, List.getElem?_cons_zero, List.getElem?_cons_succ] at m0
        have bO3 := HBO.out.ext hx
        by_cases hlt : (k : Int) < m.tp
        · have HD := Lib.hid hdt
          have hts3 : ts.length ≤ 3 := by have := decTapes_len hdt; omega
          have u2 := hx.cell HV2.out
          have HFA : Hid (tapeDec m.sy (lineC m c pt (k : Int)) = none → R = (⟨0, []⟩, 9)) := Lib.hid fun hh => by rw [HK.out, decTapes_fail hh (show k < m.tp.toNat by omega)]
          have HGO : Hid (∀ t, tapeDec m.sy (lineC m c pt (k : Int)) = some t → decTapes m c pt (k + 1) = some (ts ++ [t])) := Lib.hid fun t ht => decTapes_next HD.out ht
          have RT := fun (x : World) (hxx : Ext wr.drew x) => l13TapeQ_c b bc oc m c pt (k : Int) x (HMr.ext ((Ext.drew wr).trans hxx)) hm (HC.out.ext (hx.trans ((Ext.drew wr).trans hxx))) b1 b3 ht0 ht1 (by omega) hlt HB1.out HB2.out
          obtain ⟨D, hD⟩ : ∃ D, tapeDec m.sy (lineC m c pt (k : Int)) = D := ⟨_, rfl⟩
          rw [hD] at HFA HGO
          have RT2 : ∀ (x : World), Ext wr.drew x → Calls Tryz.prog 53 #[.pointer (some ⟨b, 0, none⟩), .pointer (some ⟨bc, oc, none⟩), .int .i64 pt, .int .i64 (k : Int)] x (TapeResS x D) := fun x hxx => by rw [← hD]; exact RT x hxx
          have hmeas : m.tp.toNat - (k + 1) < m.tp.toNat - k := by omega
          have hkw : IntKind.i64.wrap ((k : Int) + 1) = (k : Int) + 1 := IntWalk.i64_in _ (by omega)
          clear hdt hD RT
          have zD := Ext.drew wr
          have y1 := zD.cell x1
          have y2 := zD.cell u2
          go_upto_region 10 with fail
          refine wp_region_ordT 15 (readsT [0, 1, 2, 3, 4, 5, 6, 7, 8] (.fork 9 (readsT [10, 11, 12] (.stir 13 (.stir 14 .done))) 13 (.stir 9 (readsT [10, 11, 12] (.stir 14 .done))))) (by kernel_rfl) (by kernel_rfl) (fun _ _ _ _ _ h => h) ?_
          simp only [readsT]
          iterate 9 (refine wpOrdT_read (v := ?_) (by rfl) (Or.inl ⟨by rfl, fun x hx => ?_⟩) ?_; rotate_left; (· have u0 := hx.cell y1; have u1 := hx.cell y2; go_simp; try with_reducible rfl); try simp only [Act.put, List.setIfInBounds_toArray, List.set_cons_zero, List.set_cons_succ])
          have hxY := hx.trans zD
          have bTY := bT.ext zD
          have stY := st.ext zD
          have bOY := bO3.ext zD
          clear x1 u2 y1 y2 m0 bMr HMr hXwr hx bT st bO3 zD
          generalize wr.drew = Y at *
          refine wpOrdT_forks (by rfl) (by rfl) (fun K hK => ?_) (fun K hK => ?_)
          · go_simp
            go_at_call 53
            refine (RT2 _ (Ext.refl _)).mono ?_
            rintro e w5 ⟨hres, hx5⟩
            rcases hres with ⟨hnn, rfl⟩ | ⟨t, lv, rv', hss, rfl, ol, or⟩
            · obtain ⟨Z, hZ⟩ : ∃ Z, Z = w5.alloc (.cells #[.slice none 0 0, .slice none 0 0] 110) := ⟨_, rfl⟩
              have hYZ : Ext Y Z := by rw [hZ]; exact hx5.trans (Ext.alloc _ _)
              refine hK (Ext Y) _ _ (fun _ h => h) hx5 ?_
              clear hK K
              try simp only [Act.put, List.setIfInBounds_toArray, List.set_cons_zero, List.set_cons_succ]
              iterate 3 (refine wpOrdT_read (v := ?_) (by rfl) (Or.inl ⟨by rfl, fun x hx => ?_⟩) ?_; rotate_left; (· go_simp; try with_reducible rfl); try simp only [Act.put, List.setIfInBounds_toArray, List.set_cons_zero, List.set_cons_succ])
              refine wpOrdT_keep (by rfl) (fun K hK => ?_)
              go_simp
              refine hK _ _ (hx5.trans (Ext.alloc _ _)) ?_
              clear hK K
              try simp only [Act.put, List.setIfInBounds_toArray, List.set_cons_zero, List.set_cons_succ]
              refine wpOrdT_keep (by rfl) (fun K hK => ?_)
              go_simp
              try rw [← hZ]
              refine hK _ _ hYZ ?_
              clear hK K hZ
              try simp only [Act.put, List.setIfInBounds_toArray, List.set_cons_zero, List.set_cons_succ]
              refine wpOrdT_done ?_
              try simp only [List.drop_succ_cons, List.drop_zero]
              have HE9 : Hid (R = (⟨0, []⟩, 9)) := Lib.hid (HFA.out hnn)
              have bO6 := bOY.ext hYZ
              have ob := bO6.cell
              have of_ := bO6.frozen
              have hXf : Ext w Z := HXV.out.trans (hxY.trans hYZ)
              clear hnn
              go_wp2_with fail
              rw [HE9.out]
              exact bodyPost_ret (v := .tuple #[.agg #[.int .i64 0, .slice none 0 0], .int .i64 9]) (by simp [results, Tryz.results26, go_sem, ob]) rfl (DecResS.fail hwg hXf _ _)
            · obtain ⟨A5, c5, rfl, _, _⟩ := ol.ints.form
              obtain ⟨A7, c7, rfl, _, _⟩ := or.ints.form
              have hgY : gv ≤ Y.heap.size := by have := hxY.size; rw [HGV.out] at this; exact this
              obtain ⟨Z, hZ⟩ : ∃ Z, Z = w5.alloc (.cells #[.slice A5 t.l.length c5, .slice A7 t.r.length c7] 110) := ⟨_, rfl⟩
              have hYZ : Ext Y Z := by rw [hZ]; exact hx5.trans (Ext.alloc _ _)
              obtain ⟨gz, hgz⟩ : ∃ gz, w5.heap.size = gz := ⟨_, rfl⟩
              have bZ : Blk Z gz 110 #[.slice A5 t.l.length c5, .slice A7 t.r.length c7] := by rw [hZ]; exact Blk.new _ _ _ _ hgz
              have olZ : OwnInts gv Z (.slice A5 t.l.length c5) t.l := by rw [hZ]; exact OwnInts.ext (ownsRow_base ol hgY) (Ext.alloc _ _)
              have orZ : OwnInts gv Z (.slice A7 t.r.length c7) t.r := by rw [hZ]; exact OwnInts.ext (ownsRow_base or hgY) (Ext.alloc _ _)
              refine hK (Ext Y) _ _ (fun _ h => h) hx5 ?_
              clear hK K
              try simp only [Act.put, List.setIfInBounds_toArray, List.set_cons_zero, List.set_cons_succ]
              iterate 3 (refine wpOrdT_read (v := ?_) (by rfl) (Or.inl ⟨by rfl, fun x hx => ?_⟩) ?_; rotate_left; (· go_simp; try with_reducible rfl); try simp only [Act.put, List.setIfInBounds_toArray, List.set_cons_zero, List.set_cons_succ])
              refine wpOrdT_keep (by rfl) (fun K hK => ?_)
              go_simp
              refine hK _ _ (hx5.trans (Ext.alloc _ _)) ?_
              clear hK K
              try simp only [Act.put, List.setIfInBounds_toArray, List.set_cons_zero, List.set_cons_succ]
              refine wpOrdT_keep (by rfl) (fun K hK => ?_)
              go_simp
              try rw [hgz]
              clear hgz
              try rw [← hZ]
              refine hK _ _ hYZ ?_
              clear hK K hZ
              try simp only [Act.put, List.setIfInBounds_toArray, List.set_cons_zero, List.set_cons_succ]
              refine wpOrdT_done ?_
              try simp only [List.drop_succ_cons, List.drop_zero]
              have HG := Lib.hid (HGO.out _ hss)
              have hxZ := hxY.trans hYZ
              have bTZ := bTY.ext hYZ
              have stZ := stY.ext hYZ
              have z0 := bZ.cell 0
              have z1 := bZ.cell 1
              have t1 := bTZ.cell 1
              simp only [List.getElem?_toArray, List.getElem?_cons_zero, List.getElem?_cons_succ] at z0 z1 t1
              obtain ⟨cl, ho, htc⟩ := stZ
              have eA := Ext.alloc Z (.cells #[.slice A5 t.l.length c5, .slice A7 t.r.length c7] 110)
              have ho4 := ownsRow_ext ho eA
              have hNL := (TCells.snoc htc olZ orZ).ext eA
              have bT4 := bTZ.ext eA
              have hx4 := hxZ.trans eA
              have hsV : gv ≤ Z.heap.size := by have := hxZ.size; rw [HGV.out] at this; exact this
              go_wp2_with (at_builtin; refine wpList_append_own_at _ rfl _ _ 66 rfl gv 110 i0 (.agg #[.slice none 0 0, .slice none 0 0]) 2 48 Tryz.underlying66 hi0 hz0 hz1 hz2 rfl (by decide) _ _ cl rfl ho4 ⟨Z.heap.size, 0, none⟩ 1 1 [.slice A5 t.l.length c5, .slice A7 t.r.length c7] rfl rfl (World.news_of_block (heap_alloc_new Z _)) ?c2 ?c3 ?c4 ?c5 ?_)
              case c2 => first | exact ⟨rfl, rfl⟩ | (intro u hu; simp at hu; rcases hu with rfl | rfl <;> rfl)
              case c3 => unfold maxLen; omega
              case c4 => omega
              case c5 => first | omega | (simp; omega)
              intro v' w9 hown9 hg9 _ _
              obtain ⟨A9, c9, rfl, _, _, _⟩ := (ownsRow_row hown9).form
              have HS : OwnT gv w9 (.slice A9 (ts.length + 1) c9) (ts ++ [t]) := by
                refine ⟨_, ?_, hNL.same fun q cs hq => hg9.block q hq.lt (blk_ne_row hq ho4 (by decide))⟩
                rw [List.length_append, List.length_singleton]
                exact hown9
              have bT9 := Blk.apart bT4 ho4 (by decide) hg9
              have hx9 : Ext V w9 := hx4.grown hg9 (fun q hq => by rw [HGV.out]; exact (ho4.lt q hq).1)
              have q9 := bT9.cell 1
              have qf := bT9.frozen 1
              simp only [List.getElem?_toArray, List.getElem?_cons_zero, List.getElem?_cons_succ] at q9
              have HS9 := Lib.hid (HS.far bT9 (by decide) (by decide) 1 (.slice A9 (ts.length + 1) c9))
              have HX9 := Lib.hid (hx9.setCell (p := ⟨gv + 1, 1, none⟩) (by show V.heap.size ≤ gv + 1; rw [HGV.out]; omega) (.slice A9 (ts.length + 1) c9))
              have HC9 := Lib.hid (bT9.set_ 1 (.slice A9 (ts.length + 1) c9))
              clear ho4 hNL bT4 hx4 hown9 hg9 HS bT9 hx9 eA ho htc olZ orZ z0 z1 t1 bTZ hss
              go_wp2_with fail
              go_roundw
              case rel => exact ⟨k + 1, _, _, by omega, by go_num, HG.out, HS9.out, HX9.out, HC9.out⟩
              case measure => simp [intOf]; omega
          · go_simp
            refine hK (Ext Y) _ _ (fun _ h => h) (Ext.alloc _ _) ?_
            clear hK K
            try simp only [Act.put, List.setIfInBounds_toArray, List.set_cons_zero, List.set_cons_succ]
            refine wpOrdT_keep (by rfl) (fun K hK => ?_)
            go_simp
            go_at_call 53
            have hgY0 : gv ≤ Y.heap.size := by have := hxY.size; rw [HGV.out] at this; exact this
            have bz0 : Blk (Y.alloc (.cells #[.slice none 0 0, .slice none 0 0] 110)) Y.heap.size 110 #[.slice none 0 0, .slice none 0 0] := Blk.new _ _ _ _ rfl
            refine (RT2 _ (Ext.alloc _ _)).mono ?_
            rintro e w5 ⟨hres, hx5⟩
            have bz5 := bz0.ext hx5
            have zf := bz5.frozen
            have zc := bz5.cell
            have hszY : Y.heap.size ≤ (Y.alloc (.cells #[.slice none 0 0, .slice none 0 0] 110)).heap.size := (Ext.alloc _ _).size
            obtain ⟨gz, hgz⟩ : ∃ gz, Y.heap.size = gz := ⟨_, rfl⟩
            rw [hgz] at bz5 zf zc
            rcases hres with ⟨hnn, rfl⟩ | ⟨t, lv, rv', hss, rfl, ol, or⟩
            · obtain ⟨Z, hZ⟩ : ∃ Z, Z = (w5.setCell ⟨gz, 0, none⟩ (.slice none 0 0)).setCell ⟨gz, 1, none⟩ (.slice none 0 0) := ⟨_, rfl⟩
              have hgz2 : Y.heap.size ≤ gz := by omega
              have hYZ : Ext Y Z := by rw [hZ]; exact ((((Ext.alloc _ _).trans hx5).setCell (p := ⟨gz, 0, none⟩) hgz2 _).setCell (p := ⟨gz, 1, none⟩) hgz2 _)
              try rw [hgz]
              clear hgz
              refine hK _ _ ((Ext.alloc _ _).trans hx5) ?_
              clear hK K
              try simp only [Act.put, List.setIfInBounds_toArray, List.set_cons_zero, List.set_cons_succ]
              iterate 3 (refine wpOrdT_read (v := ?_) (by rfl) (Or.inl ⟨by rfl, fun x hx => ?_⟩) ?_; rotate_left; (· go_simp; try with_reducible rfl); try simp only [Act.put, List.setIfInBounds_toArray, List.set_cons_zero, List.set_cons_succ])
              refine wpOrdT_keep (by rfl) (fun K hK => ?_)
              go_simp
              try rw [← hZ]
              refine hK _ _ hYZ ?_
              clear hK K hZ
              try simp only [Act.put, List.setIfInBounds_toArray, List.set_cons_zero, List.set_cons_succ]
              refine wpOrdT_done ?_
              try simp only [List.drop_succ_cons, List.drop_zero]
              have HE9 : Hid (R = (⟨0, []⟩, 9)) := Lib.hid (HFA.out hnn)
              have bO6 := bOY.ext hYZ
              have ob := bO6.cell
              have of_ := bO6.frozen
              have hXf : Ext w Z := HXV.out.trans (hxY.trans hYZ)
              clear hnn
              go_wp2_with fail
              rw [HE9.out]
              exact bodyPost_ret (v := .tuple #[.agg #[.int .i64 0, .slice none 0 0], .int .i64 9]) (by simp [results, Tryz.results26, go_sem, ob]) rfl (DecResS.fail hwg hXf _ _)
            · obtain ⟨A5, c5, rfl, _, _⟩ := ol.ints.form
              obtain ⟨A7, c7, rfl, _, _⟩ := or.ints.form
              have hgY : gv ≤ Y.heap.size := by have := hxY.size; rw [HGV.out] at this; exact this
              have hs5 : gv ≤ (Y.alloc (.cells #[.slice none 0 0, .slice none 0 0] 110)).heap.size := Nat.le_trans hgY0 hszY
              obtain ⟨Z, hZ⟩ : ∃ Z, Z = (w5.setCell ⟨gz, 0, none⟩ (.slice A5 t.l.length c5)).setCell ⟨gz, 1, none⟩ (.slice A7 t.r.length c7) := ⟨_, rfl⟩
              have hgz2 : Y.heap.size ≤ gz := by omega
              have hYZ : Ext Y Z := by rw [hZ]; exact ((((Ext.alloc _ _).trans hx5).setCell (p := ⟨gz, 0, none⟩) hgz2 _).setCell (p := ⟨gz, 1, none⟩) hgz2 _)
              have bZ : Blk Z gz 110 #[.slice A5 t.l.length c5, .slice A7 t.r.length c7] := by rw [hZ]; exact (bz5.set_ 0 _).set_ 1 _
              have olZ : OwnInts gv Z (.slice A5 t.l.length c5) t.l := by rw [hZ]; exact own_setM (bz5.set_ 0 _) (by decide) (own_setM bz5 (by decide) (ownsRow_base ol hs5) 0 _) 1 _
              have orZ : OwnInts gv Z (.slice A7 t.r.length c7) t.r := by rw [hZ]; exact own_setM (bz5.set_ 0 _) (by decide) (own_setM bz5 (by decide) (ownsRow_base or hs5) 0 _) 1 _
              try rw [hgz]
              clear hgz
              refine hK _ _ ((Ext.alloc _ _).trans hx5) ?_
              clear hK K
              try simp only [Act.put, List.setIfInBounds_toArray, List.set_cons_zero, List.set_cons_succ]
              iterate 3 (refine wpOrdT_read (v := ?_) (by rfl) (Or.inl ⟨by rfl, fun x hx => ?_⟩) ?_; rotate_left; (· go_simp; try with_reducible rfl); try simp only [Act.put, List.setIfInBounds_toArray, List.set_cons_zero, List.set_cons_succ])
              refine wpOrdT_keep (by rfl) (fun K hK => ?_)
              go_simp
              try rw [← hZ]
              refine hK _ _ hYZ ?_
              clear hK K hZ
              try simp only [Act.put, List.setIfInBounds_toArray, List.set_cons_zero, List.set_cons_succ]
              refine wpOrdT_done ?_
              try simp only [List.drop_succ_cons, List.drop_zero]
              have HG := Lib.hid (HGO.out _ hss)
              have hxZ := hxY.trans hYZ
              have bTZ := bTY.ext hYZ
              have stZ := stY.ext hYZ
              have z0 := bZ.cell 0
              have z1 := bZ.cell 1
              have t1 := bTZ.cell 1
              simp only [List.getElem?_toArray, List.getElem?_cons_zero, List.getElem?_cons_succ] at z0 z1 t1
              obtain ⟨cl, ho, htc⟩ := stZ
              have eA := Ext.alloc Z (.cells #[.slice A5 t.l.length c5, .slice A7 t.r.length c7] 110)
              have ho4 := ownsRow_ext ho eA
              have hNL := (TCells.snoc htc olZ orZ).ext eA
              have bT4 := bTZ.ext eA
              have hx4 := hxZ.trans eA
              have hsV : gv ≤ Z.heap.size := by have := hxZ.size; rw [HGV.out] at this; exact this
              go_wp2_with (at_builtin; refine wpList_append_own_at _ rfl _ _ 66 rfl gv 110 i0 (.agg #[.slice none 0 0, .slice none 0 0]) 2 48 Tryz.underlying66 hi0 hz0 hz1 hz2 rfl (by decide) _ _ cl rfl ho4 ⟨Z.heap.size, 0, none⟩ 1 1 [.slice A5 t.l.length c5, .slice A7 t.r.length c7] rfl rfl (World.news_of_block (heap_alloc_new Z _)) ?c2 ?c3 ?c4 ?c5 ?_)
              case c2 => first | exact ⟨rfl, rfl⟩ | (intro u hu; simp at hu; rcases hu with rfl | rfl <;> rfl)
              case c3 => unfold maxLen; omega
              case c4 => omega
              case c5 => first | omega | (simp; omega)
              intro v' w9 hown9 hg9 _ _
              obtain ⟨A9, c9, rfl, _, _, _⟩ := (ownsRow_row hown9).form
              have HS : OwnT gv w9 (.slice A9 (ts.length + 1) c9) (ts ++ [t]) := by
                refine ⟨_, ?_, hNL.same fun q cs hq => hg9.block q hq.lt (blk_ne_row hq ho4 (by decide))⟩
                rw [List.length_append, List.length_singleton]
                exact hown9
              have bT9 := Blk.apart bT4 ho4 (by decide) hg9
              have hx9 : Ext V w9 := hx4.grown hg9 (fun q hq => by rw [HGV.out]; exact (ho4.lt q hq).1)
              have q9 := bT9.cell 1
              have qf := bT9.frozen 1
              simp only [List.getElem?_toArray, List.getElem?_cons_zero, List.getElem?_cons_succ] at q9
              have HS9 := Lib.hid (HS.far bT9 (by decide) (by decide) 1 (.slice A9 (ts.length + 1) c9))
              have HX9 := Lib.hid (hx9.setCell (p := ⟨gv + 1, 1, none⟩) (by show V.heap.size ≤ gv + 1; rw [HGV.out]; omega) (.slice A9 (ts.length + 1) c9))
              have HC9 := Lib.hid (bT9.set_ 1 (.slice A9 (ts.length + 1) c9))
              clear ho4 hNL bT4 hx4 hown9 hg9 HS bT9 hx9 eA ho htc olZ orZ z0 z1 t1 bTZ hss
              go_wp2_with fail
              go_roundw
              case rel => exact ⟨k + 1, _, _, by omega, by go_num, HG.out, HS9.out, HX9.out, HC9.out⟩
              case measure => simp [intOf]; omega
        · have hkt : (k : Int) = m.tp := by omega
          have hkn : m.tp.toNat = k := by omega
          have HE9 : Hid (R = (⟨pa, ts⟩, 0)) := Lib.hid (by rw [HK.out, hkn, hdt])
          have ob := bO3.cell
          have of_ := bO3.frozen
          have t0' := bT.cell 0
          have t1' := bT.cell 1
          simp only [List.getElem?_toArray, List.getElem?_cons_zero, List.getElem?_cons_succ] at t0' t1'
          have hge : ¬ (k : Int) < m.tp := by omega
          have ST := Lib.hid st
          have hgvw : w.heap.size ≤ gv := by have := HXV.out.size; rw [HGV.out] at this; exact this
          clear hkt hkn hdt st bT hlt hk
          go_wp2
          rw [HE9.out]
          exact bodyPost_ret (v := .tuple #[.agg #[.int .i64 pa, .slice Av ts.length cv], .int .i64 0]) (by simp [results, Tryz.results26, go_sem, ob]) rfl (DecResS.done hwg hXwr ST.out hgvw bO3 _ _)
    · have HN : Hid (R = (⟨0, []⟩, 6)) := Lib.hid (by rw [HE.out]; unfold decOne; simp only; rw [if_neg hk])
      have ob := bO2.cell
      have of_ := bO2.frozen
      have hn0i : (0 : Int) < (n : Int) := by omega
      go_wp2
      rw [HN.out]
      exact bodyPost_ret (v := .tuple #[.agg #[.int .i64 0, .slice none 0 0], .int .i64 6]) (by simp [results, Tryz.results26, go_sem, ob]) rfl (DecResS.fail hwg hX2 _ _)
end Go.Proofs.YtfghojbbofobeaaGreatDoor
end
