/- Contracts of the reference's test of a configuration, and of its maker of the machine on one half of the tape. The machine is valid.
Contract of the reference's copy of a configuration; words for the list of a run's configurations.
Contract: the program's run of the machine with one tape for several, and the configuration with several tapes at its end. -/
import Derived.Test.YtfghojbbofobeaaGreatQ06
import Derived.Test.YtfghojbbofobeaaGreatQ30
import Derived.Test.YtfghojbbofobeaaGreatQ34
import Derived.Test.YtfghojbbofobeaaGreatQ31
import Derived.Test.YtfghojbbofobeaaGreatQ13
import Derived.Test.YtfghojbbofobeaaGreatQ12
import Derived.Test.YtfghojbbofobeaaGreatQ32
import Derived.Test.YtfghojbbofobeaaGreatQ33
import Derived.Deep.RegionHeld3
import Derived.Deep.DeepCutAuto
section
set_option linter.unusedSimpArgs false
set_option linter.unusedVariables false
namespace Go.Proofs.YtfghojbbofobeaaGreat
open Go Go.RowKit Go.Proofs
set_option maxHeartbeats 400000
theorem sideOk_nolast {zs : List Int} {sy : Int} (h : (zs.all fun z => inB z 0 (sy - 1)) = false) : sideOk zs sy 200 = false := by simp only [sideOk, h]; simp
set_option maxRecDepth 20000 in
theorem l05Cells_c (b o : Nat) (sy : Int) (v : Value) (zs : List Int) (w : World) (hsy : w.cell? ⟨b, o, none⟩ = some (.int .i64 sy)) (h : Ints w v zs) (s1 : 1 ≤ sy) (s2 : sy ≤ 1000000) :
    Calls Tryz.prog 90 #[.pointer (some ⟨b, o, none⟩), v] w fun e w' => e = .returned (.bool (sideOk zs sy 200)) ∧ Ext w w' := by
  obtain ⟨A, c, rfl, h2, h2'⟩ := h.form
  go_enter Tryz.func90, Tryz.ntmps90
  go_wp2
  go_loopw [5] (fun i wr => ∃ k : Nat, k ≤ zs.length ∧ i = .int .i64 k ∧ Ext w wr ∧ Hid (allTo (fun z => inB z 0 (sy - 1)) zs k)) (fun i _ => zs.length - (intOf i).toNat)
  case atStart => exact ⟨0, Nat.zero_le _, rfl, Ext.refl _, by unfold Hid allTo; simp⟩
  case round =>
    obtain ⟨k, hk, rfl, hx, hall⟩ := hrel
    by_cases hlt : k < zs.length
    · obtain ⟨b', off, rfl, hc⟩ := (h.ext hx).at hlt
      have c0 := cellR (hc k hlt)
      have d0 := cellR (hx.cell hsy)
      have HY := fun he => Lib.hid (allTo_step (p := fun z => inB z 0 (sy - 1)) hall.out hlt he)
      have HN := fun he => Lib.hid (sideOk_nolast (sy := sy) (all_no (p := fun z => inB z 0 (sy - 1)) hlt he))
      generalize zs[k] = z at *
      clear hc
      go_wp2_with fail
      refine wp_region_ext (by kernel_rfl) (by kernel_rfl) ?_
      repeat (go_big_quiet_step ((go_at_call 43; exact Calls.sameR (l00In_c _ _ _ _))))
      refine wpQuiet_nil ?_
      intro w2 hx2
      have hX := hx.trans hx2
      cases hb : inB z 0 (sy - 1) with
      | true =>
        have HY2 := HY hb
        clear HY HN
        go_wp2
        go_roundw
        case rel => exact ⟨k + 1, by omega, by go_num, hX, HY2⟩
        case measure => simp [intOf]; omega
      | false =>
        have HN2 := HN hb
        clear HY HN
        go_wp2
        go_ret
        exact ⟨by rw [HN2.out]; rfl, hX⟩
    · have HA := Lib.hid (allTo_end hall.out (by omega))
      by_cases hl : (zs.length : Int) ≤ 200
      · have hld : decide ((zs.length : Int) ≤ 200) = true := by simp [hl]
        by_cases hz : zs.length = 0
        · have hzb : ((zs.length : Int) == 0) = true := by simp [hz]
          have HE : Hid (sideOk zs sy 200 = true) := by unfold Hid; simp only [sideOk, HA.out, hzb, hld]; rfl
          clear hz
          go_wp2
          go_ret
          exact ⟨by rw [HE.out]; rfl, hx⟩
        · have hzb : ((zs.length : Int) == 0) = false := by rw [beq_eq_false_iff_ne]; omega
          have hl1 : zs.length - 1 < zs.length := by omega
          obtain ⟨b', off, rfl, hc⟩ := (h.ext hx).at hl1
          have c0 := hc (zs.length - 1) hl1
          have HE : Hid (sideOk zs sy 200 = (zs[zs.length - 1] != 0)) := by unfold Hid; simp only [sideOk, HA.out, hzb, hld, lastD_get (show 0 < zs.length by omega)]; rfl
          have i1 : (0 : Int) ≤ (zs.length : Int) - 1 := by omega
          have i2 : ((zs.length : Int) - 1) < (zs.length : Int) := by omega
          have i3 : ((zs.length : Int) - 1).toNat = zs.length - 1 := by omega
          clear hc
          generalize zs[zs.length - 1] = z at *
          go_wp2
          go_ret
          exact ⟨by rw [HE.out]; rfl, hx⟩
      · have hld : decide ((zs.length : Int) ≤ 200) = false := by simp; omega
        have HE : Hid (sideOk zs sy 200 = false) := by unfold Hid; simp only [sideOk, hld]; simp
        go_wp2
        go_ret
        exact ⟨by rw [HE.out]; rfl, hx⟩
/-- A configuration behind a pointer. -/
def ConfP (w : World) (b : Nat) (c : ConfD) : Prop := ∃ lv rv, w.cell? ⟨b, 0, none⟩ = some (.int .i64 c.q) ∧ w.cell? ⟨b, 1, none⟩ = some lv ∧ w.cell? ⟨b, 2, none⟩ = some rv ∧ Ints w lv c.l ∧ Ints w rv c.r
theorem ConfP.ext {w w' : World} {b : Nat} {c : ConfD} (h : ConfP w b c) (he : Ext w w') : ConfP w' b c := by
  obtain ⟨lv, rv, h1, h2, h3, h4, h5⟩ := h
  exact ⟨lv, rv, he.cell h1, he.cell h2, he.cell h3, h4.ext he, h5.ext he⟩
set_option maxRecDepth 20000 in
theorem l05Good_c (b o bc : Nat) (m : MachD) (c : ConfD) (w : World) (hsy : w.cell? ⟨b, o, none⟩ = some (.int .i64 m.sy)) (hst : w.cell? ⟨b, o + 1, none⟩ = some (.int .i64 m.st)) (hc : ConfP w bc c) (s1 : 1 ≤ m.sy) (s2 : m.sy ≤ 1000000) (s3 : 1 ≤ m.st) (s4 : m.st ≤ 1000) :
    Calls Tryz.prog 53 #[.pointer (some ⟨b, o, none⟩), .pointer (some ⟨bc, 0, none⟩)] w fun e w' => e = .returned (.bool (confB m c)) ∧ Ext w w' := by
  obtain ⟨lv, rv, p0, p1, p2, hl, hr⟩ := hc
  obtain ⟨Al, cl, rfl, _, _⟩ := hl.form
  obtain ⟨Ar, cr, rfl, _, _⟩ := hr.form
  have d0 := cellR p0
  have d1 := cellR p1
  have d2 := cellR p2
  have e0 := cellR hsy
  have e1 := cellR hst
  have CL := fun d os => l05Cells_c b o m.sy _ c.l _ (e0 d os) (hl.ext (below_regrown w d os)) s1 s2
  have CR := fun d os => l05Cells_c b o m.sy _ c.r _ (e0 d os) (hr.ext (below_regrown w d os)) s1 s2
  have IN := fun (w : World) => l00In_c c.q 0 (m.st - 1) w
  cases ha : inB c.q 0 (m.st - 1) with
  | false =>
    simp only [ha] at IN
    have HE : Hid (confB m c = false) := by unfold Hid; simp only [confB, ha]; simp
    go_enter Tryz.func53, Tryz.ntmps53
    go_wp2
    refine wp_region_ext (by kernel_rfl) (by kernel_rfl) ?_
    repeat (go_big_quiet_step (first | (go_at_call 43; exact Calls.sameR (IN _)) | (go_at_call 90; exact Calls.extR (CL _ _))))
    refine wpQuiet_nil ?_
    intro w2 hx2
    go_wp2
    go_ret
    exact ⟨by rw [HE.out]; rfl, hx2⟩
  | true =>
    simp only [ha] at IN
    cases hb : sideOk c.l m.sy 200 with
    | false =>
      have HE : Hid (confB m c = false) := by unfold Hid; simp only [confB, hb]; simp
      simp only [hb] at CL
      go_enter Tryz.func53, Tryz.ntmps53
      go_wp2
      refine wp_region_ext (by kernel_rfl) (by kernel_rfl) ?_
      repeat (go_big_quiet_step (first | (go_at_call 43; exact Calls.sameR (IN _)) | (go_at_call 90; exact Calls.extR (CL _ _))))
      refine wpQuiet_nil ?_
      intro w2 hx2
      go_wp2
      go_ret
      exact ⟨by rw [HE.out]; rfl, hx2⟩
    | true =>
      have HE : Hid (confB m c = sideOk c.r m.sy 200) := by unfold Hid; simp only [confB, hb, ha]; simp
      simp only [hb] at CL
      go_enter Tryz.func53, Tryz.ntmps53
      go_wp2
      refine wp_region_ext (by kernel_rfl) (by kernel_rfl) ?_
      repeat (go_big_quiet_step (first | (go_at_call 43; exact Calls.sameR (IN _)) | (go_at_call 90; with_reducible exact Calls.extR (CL _ _)) | (go_at_call 90; with_reducible exact Calls.extR (CR _ _))))
      refine wpQuiet_nil ?_
      intro w2 hx2
      go_wp2
      go_ret
      exact ⟨by rw [HE.out]; rfl, hx2⟩
end Go.Proofs.YtfghojbbofobeaaGreat
end
section
set_option linter.unusedSimpArgs false
set_option linter.unusedVariables false
namespace Go.Proofs.YtfghojbbofobeaaGreat
open Go Go.RowKit Go.Proofs
set_option maxHeartbeats 400000
theorem run_confM {M : MachD} (hm : machOk M = true) {x : ConfD} (hx : confB M x = true) {i : Nat} (h : RunsTo M x i) : confB M (cfgI M x i) = true := by
  obtain ⟨hg, hf, ht⟩ := conf_good hx
  refine conf_back (cfg_good hm hg i h.no) ?_ (tidy_cfg ht i)
  have := h.fit i (Nat.le_refl _)
  simpa [fitI] using this
set_option maxRecDepth 20000 in
set_option maxHeartbeats 4000000 in
theorem ownConfig_c (bc : Nat) (c : ConfD) (w : World) (h : ConfP w bc c) (hl : c.l.length ≤ 1048576) (hr : c.r.length ≤ 1048576) :
    Calls Tryz.prog 50 #[.pointer (some ⟨bc, 0, none⟩)] w fun e w' => ∃ v, e = .returned v ∧ ConfV w' v (cR c) ∧ Ext w w' := by
  obtain ⟨lv0, rv0, p0, p1, p2, hl0, hr0⟩ := h
  obtain ⟨Al, cl, rfl, _, _⟩ := hl0.form
  obtain ⟨Ar, cr, rfl, _, _⟩ := hr0.form
  obtain ⟨W, hW⟩ : ∃ W, W = w.alloc (.cells #[.int .i64 0, .slice none 0 0, .slice none 0 0] 54) := ⟨_, rfl⟩
  have hX : Ext w W := by rw [hW]; exact Ext.alloc _ _
  have bR : Blk W w.heap.size 54 #[.int .i64 0, .slice none 0 0, .slice none 0 0] := by rw [hW]; exact Blk.new _ _ _ _ rfl
  have hXd := hX.trans (Ext.drew W)
  have c0 := hXd.cell p0
  have c1 := hXd.cell p1
  have c2 := hXd.cell p2
  have hlD := hl0.ext hXd
  have hrD := hr0.ext hXd
  clear p0 p1 p2
  go_enter Tryz.func50, Tryz.ntmps50
  go_wp2_with fail
  rw [← hW]
  clear hW
  refine wp_region_ordT 14 (readsT [0, 1, 2, 3, 4, 5, 6, 7, 9, 10, 11, 12] (.stir 8 (.stir 13 .done))) (by kernel_rfl) (by kernel_rfl) (fun _ _ _ _ _ h => h) ?_
  simp only [readsT]
  iterate 12 (refine wpOrdT_read (v := ?_) (by rfl) (Or.inl ⟨by rfl, fun x hx => ?_⟩) ?_; rotate_left; (· have a1 := hx.cell c0; have a2 := hx.cell c1; have a3 := hx.cell c2; go_simp; try with_reducible rfl); try simp only [Act.put, List.setIfInBounds_toArray, List.set_cons_zero, List.set_cons_succ])
  refine wpOrdT_keep (by rfl) (fun K hK => ?_)
  go_simp
  go_at_call 86
  refine (l00OwnA_c _ c.l W.drew hlD hl).mono ?_
  rintro e w1 ⟨u1, rfl, ho1, hx1⟩
  obtain ⟨A1, k1, rfl, _, _⟩ := ho1.ints.form
  refine hK _ _ hx1 ?_
  clear hK K
  refine wpOrdT_keep (by rfl) (fun K hK => ?_)
  go_simp
  go_at_call 86
  refine (l00OwnA_c _ c.r w1 (hrD.ext hx1) hr).mono ?_
  rintro e w2 ⟨u2, rfl, ho2, hx2⟩
  obtain ⟨A2, k2, rfl, _, _⟩ := ho2.ints.form
  refine hK _ _ (hx1.trans hx2) ?_
  clear hK K
  refine wpOrdT_done ?_
  try simp only [List.drop_succ_cons, List.drop_zero]
  have EX := (Ext.drew W).trans (hx1.trans hx2)
  have bR2 := bR.ext EX
  obtain ⟨D1, D2⟩ := conf_done (n := c.q) (hX.trans EX) (Nat.le_refl _) bR2 (ho1.ext hx2) ho2
  have HD1 := Lib.hid D1
  have HD2 := Lib.hid D2
  clear D1 D2
  have r0 := bR2.cell 0
  have r1 := bR2.cell 1
  have r2 := bR2.cell 2
  have rf0 := bR2.frozen 0
  have rf1 := bR2.frozen 1
  have rf2 := bR2.frozen 2
  simp only [List.getElem?_toArray, List.getElem?_cons_zero, List.getElem?_cons_succ] at r0 r1 r2
  have d := (((bR2.set_ 0 (.int .i64 c.q)).set_ 1 (.slice A1 c.l.length k1)).set_ 2 (.slice A2 c.r.length k2)).cell
  go_wp2
  exact bodyPost_ret (v := .agg #[.int .i64 c.q, .slice A1 c.l.length k1, .slice A2 c.r.length k2]) (by simp [results, Tryz.results50, go_sem, d]) rfl ⟨_, rfl, HD1.out, HD2.out⟩
/-- The cells of a configuration whose sides are values. -/
def triC (q : Int) (u : Value × Value) : List Value := [.int .i64 q, u.1, u.2]
theorem tri_len {α : Type} (f : Nat → List α) (h : ∀ i, (f i).length = 3) (n : Nat) : ((List.range n).flatMap f).length = n * 3 := by
  induction n with
  | zero => rfl
  | succ n ih => rw [List.range_succ, List.flatMap_append, List.length_append, ih]; simp [h]; omega
theorem tri_get {α : Type} (f : Nat → List α) (h : ∀ i, (f i).length = 3) (n i j : Nat) (hi : i < n) (hj : j < 3) : ((List.range n).flatMap f)[i * 3 + j]? = (f i)[j]? := by
  induction n with
  | zero => omega
  | succ n ih =>
    rw [List.range_succ, List.flatMap_append]
    by_cases c : i < n
    · rw [List.getElem?_append_left (by rw [tri_len f h]; omega)]; exact ih c
    · have : i = n := by omega
      subst this
      rw [List.getElem?_append_right (by rw [tri_len f h]; omega), tri_len f h]
      simp
theorem ownrow_ne {w : World} {b1 b2 s1 s2 n1 n2 : Nat} {e1 e2 : TypeId} {v1 v2 : Value} {x1 x2 : List Value} (h1 : w.ownsRow b1 e1 s1 v1 n1 x1) (h2 : w.ownsRow b2 e2 s2 v2 n2 x2) (he : e1 ≠ e2) : ∀ g, v1.ownBlock = some g → v2.ownBlock ≠ some g := by
  intro g hg1 hg2
  rcases h1.2 with ⟨rfl, _⟩ | ⟨g1, c1, cur1, rfl, _, hh1, _⟩
  · simp [Value.ownBlock] at hg1
  · rcases h2.2 with ⟨rfl, _⟩ | ⟨g2, c2, cur2, rfl, _, hh2, _⟩
    · simp [Value.ownBlock] at hg2
    · simp [Value.ownBlock] at hg1 hg2
      subst hg1
      subst hg2
      rw [hh1] at hh2
      cases hh2
      exact he rfl
/-- The list of a run's configurations. -/
structure CfL (base : Nat) (W : World) (M : MachD) (x : ConfD) (vs : Nat → Value × Value) (tv : Value) (n : Nat) : Prop where
  own : W.ownsRow base 54 3 tv n ((List.range n).flatMap fun i => triC (cfgI M x i).q (vs i))
  sides : ∀ i, i < n → ∃ bl br, OwnInts bl W (vs i).1 (cfgI M x i).l ∧ OwnInts br W (vs i).2 (cfgI M x i).r
section
variable {base : Nat} {W W' : World} {M : MachD} {x : ConfD} {vs : Nat → Value × Value} {tv : Value} {n : Nat}
theorem CfL.ext (h : CfL base W M x vs tv n) (he : Ext W W') : CfL base W' M x vs tv n :=
  ⟨ownsRow_ext h.own he, fun i hi => by obtain ⟨bl, br, h1, h2⟩ := h.sides i hi; exact ⟨bl, br, h1.ext he, h2.ext he⟩⟩
theorem CfL.set (h : CfL base W M x vs tv n) {p : Addr} {cs : Array Value} (hb : Blk W p.block 54 cs) (hn : tv.ownBlock ≠ some p.block) (u : Value) : CfL base (W.setCell p u) M x vs tv n :=
  ⟨ownsRow_far h.own (fun k hk e => hn (by rw [← e]; exact hk)) u, fun i hi => by
    obtain ⟨bl, br, h1, h2⟩ := h.sides i hi
    exact ⟨bl, br, ownsRow_far h1 (own_far_blk h1 hb (by decide)) u, ownsRow_far h2 (own_far_blk h2 hb (by decide)) u⟩⟩
theorem tri_same (M : MachD) (x : ConfD) (vs : Nat → Value × Value) (u : Value × Value) (n : Nat) : ∀ m, m ≤ n → (List.range m).flatMap (fun i => triC (cfgI M x i).q (if i = n then u else vs i)) = (List.range m).flatMap (fun i => triC (cfgI M x i).q (vs i)) := by
  intro m
  induction m with
  | zero => intro _; rfl
  | succ m ih =>
    intro hm
    rw [List.range_succ, List.flatMap_append, List.flatMap_append, ih (by omega)]
    have : m ≠ n := by omega
    simp [this]
theorem CfL.push (h : CfL base W M x vs tv n) {v' lv rv : Value} {bl br : Nat} (hg : W.grownBy W' tv.ownBlock) (ho : W'.ownsRow base 54 3 v' (n + 1) (((List.range n).flatMap fun i => triC (cfgI M x i).q (vs i)) ++ triC (cfgI M x n).q (lv, rv)))
    (hl : OwnInts bl W lv (cfgI M x n).l) (hr : OwnInts br W rv (cfgI M x n).r) : CfL base W' M x (fun i => if i = n then (lv, rv) else vs i) v' (n + 1) := by
  have hs : ∀ {b : Nat} {v : Value} {zs : List Int}, OwnInts b W v zs → OwnInts b W' v zs := fun {b v zs} o => own_same o (fun g hgl => hg.block g (o.lt g hgl).2 (fun e => ownrow_ne o h.own (by decide) g hgl e.symm))
  refine ⟨?_, fun i hi => ?_⟩
  · have e : (List.range (n + 1)).flatMap (fun i => triC (cfgI M x i).q (if i = n then (lv, rv) else vs i)) = ((List.range n).flatMap fun i => triC (cfgI M x i).q (vs i)) ++ triC (cfgI M x n).q (lv, rv) := by
      rw [List.range_succ, List.flatMap_append, tri_same M x vs (lv, rv) n n (Nat.le_refl _)]
      simp
    rw [e]
    exact ho
  · by_cases c : i = n
    · subst c
      simp only [if_pos]
      exact ⟨bl, br, hs hl, hs hr⟩
    · simp only [if_neg c]
      obtain ⟨b1, b2, h1, h2⟩ := h.sides i (by omega)
      exact ⟨b1, b2, hs h1, hs h2⟩
/-- The cells of one of them. -/
theorem CfL.at (h : CfL base W M x vs tv n) {i : Nat} (hi : i < n) : ∃ g c, tv = .slice (some ⟨g, 0, none⟩) n c ∧ W.cell? ⟨g, i * 3, none⟩ = some (.int .i64 (cfgI M x i).q) ∧ W.cell? ⟨g, i * 3 + 1, none⟩ = some (vs i).1 ∧ W.cell? ⟨g, i * 3 + 2, none⟩ = some (vs i).2 := by
  have hf : ∀ i, (triC (cfgI M x i).q (vs i)).length = 3 := fun _ => rfl
  have key : ∀ j, j < 3 → i * 3 + j < n * 3 := fun j hj => by omega
  obtain ⟨A, c, rfl, _, _, _⟩ := (ownsRow_row h.own).form
  obtain ⟨g, rfl, _, _⟩ := own_at h.own (by omega)
  refine ⟨g, c, rfl, ?_, ?_, ?_⟩
  · have := tri_get (fun i => triC (cfgI M x i).q (vs i)) hf n i 0 hi (by omega)
    rw [Nat.add_zero] at this
    rw [h.own.cellAt (i * 3) (key 0 (by omega)), this]; rfl
  · rw [h.own.cellAt (i * 3 + 1) (key 1 (by omega)), tri_get (fun i => triC (cfgI M x i).q (vs i)) hf n i 1 hi (by omega)]; rfl
  · rw [h.own.cellAt (i * 3 + 2) (key 2 (by omega)), tri_get (fun i => triC (cfgI M x i).q (vs i)) hf n i 2 hi (by omega)]; rfl
end
end Go.Proofs.YtfghojbbofobeaaGreat
end
section
set_option linter.unusedSimpArgs false
set_option linter.unusedVariables false
namespace Go.Proofs.YtfghojbbofobeaaGreat
open Go Go.RowKit Go.Proofs Go.Maps
set_option maxHeartbeats 400000
/-- What the program's run gives. -/
def RunDR (w : World) (R : ROut) (e : Ending) (w' : World) : Prop :=
  ∃ v cl, e = .returned (.tuple #[.agg #[.int .i64 R.c.q, v], .int .i64 R.n, .bool R.h, .int .i64 R.k]) ∧ CpM w R.c.tapes R.c.tapes.length v cl w' ∧ Ext w w'
def RunOutO (w : World) (m : MultiD) (ws : List (List Int)) (b : Int) (e : Ending) (w' : World) : Prop := ∃ R, RunOT m ws b R ∧ RunDR w R e w'
theorem RunDR.fail {w w1 : World} {k : Int} {b : Nat} (hb : w.heap.size ≤ b) (hX : Ext w w1) (x y : Value) :
    RunDR w (rNo k) (.returned (.tuple #[.agg #[.int .i64 0, .slice none 0 0], .int .i64 0, .bool false, .int .i64 k])) ((w1.setCell ⟨b, 0, none⟩ x).setCell ⟨b, 1, none⟩ y) :=
  ⟨_, _, rfl, CpM.void _ _, (hX.setCell hb _).setCell hb _⟩
theorem RunDR.done {w w0 w1 : World} {c : MConfD} {n : Int} {h : Bool} {v : Value} {cl : List Value} {b : Nat} {cs : Array Value} (hb : w.heap.size ≤ b) (hX0 : Ext w w0) (hX : Ext w0 w1) (hC : CpM w0 c.tapes c.tapes.length v cl w1) (hB : Blk w1 b 30 cs) (x y : Value) :
    RunDR w ⟨c, n, h, 0⟩ (.returned (.tuple #[.agg #[.int .i64 c.q, v], .int .i64 n, .bool h, .int .i64 0])) ((w1.setCell ⟨b, 0, none⟩ x).setCell ⟨b, 1, none⟩ y) :=
  ⟨_, _, rfl, ((hC.base hX0.size).set hB 0 x).set (hB.set_ 0 x) 1 y, ((hX0.trans hX).setCell hb _).setCell hb _⟩
/-- A configuration with several tapes in a block that has been made, its tapes in rows of their own, and its code. -/
def CutMD (w0 : World) (R : MConfD × Int) (s6 s7 : Value) (w : World) : Prop := ∃ g v cl, s6 = .pointer (some ⟨g, 0, none⟩) ∧ s7 = .int .i64 R.2 ∧ Blk w g 30 #[.int .i64 R.1.q, v] ∧ Ext w0 w ∧ w0.heap.size ≤ g ∧ CpM w0 R.1.tapes R.1.tapes.length v cl w
abbrev zeroMD : Obj := .cells #[.int .i64 0, .slice none 0 0] 30
theorem CutMD.late {w0 wB wC : World} {R : MConfD × Int} {v : Value} {cl : List Value} (hb : Ext w0 wB) (hx : Ext wB wC) (h1 : CpM wB R.1.tapes R.1.tapes.length v cl wC) :
    CutMD w0 R (.pointer (some ⟨wC.heap.size, 0, none⟩)) (.int .i64 R.2) (wC.alloc (.cells #[.int .i64 R.1.q, v] 30)) :=
  ⟨_, v, cl, rfl, rfl, Blk.new _ _ _ _ rfl, (hb.trans hx).trans (Ext.alloc _ _), (hb.trans hx).size, (h1.base hb.size).ext (Ext.alloc _ _)⟩
theorem CutMD.early {w0 wB wC : World} {R : MConfD × Int} {v : Value} {cl : List Value} {g : Nat} (hb' : Ext w0 wB) (hx : Ext wB wC) (h1 : CpM wB R.1.tapes R.1.tapes.length v cl wC) (hb : Blk wC g 30 #[.int .i64 0, .slice none 0 0]) (hg : w0.heap.size ≤ g) :
    CutMD w0 R (.pointer (some ⟨g, 0, none⟩)) (.int .i64 R.2) ((wC.setCell ⟨g, 0, none⟩ (.int .i64 R.1.q)).setCell ⟨g, 1, none⟩ v) :=
  ⟨g, v, cl, rfl, rfl, (hb.set_ 0 _).set_ 1 _, ((hb'.trans hx).setCell hg _).setCell hg _, hg, ((h1.base hb'.size).set hb 0 _).set (hb.set_ 0 _) 1 _⟩
theorem Ext.set2D {w0 wC : World} {g : Nat} (hx : Ext w0 wC) (hg : w0.heap.size ≤ g) (x y : Value) : Ext w0 ((wC.setCell ⟨g, 0, none⟩ x).setCell ⟨g, 1, none⟩ y) :=
  (hx.setCell hg _).setCell hg _
set_option maxRecDepth 20000 in
set_option maxHeartbeats 4000000 in
theorem RunOneTape_c (m : MultiD) (mv wv : Value) (ws : List (List Int)) (vs : List Value) (bud : Int) (w : World) (hM : Mult w mv m) (hW : Row w 1 wv ws.length vs) (hI : ∀ i, (h : i < ws.length) → ∃ u, vs[i]? = some u ∧ Ints w u ws[i] ∧ Flat u) :
    Calls Tryz.prog 9 #[mv, wv, .int .i64 bud] w (RunOutO w m ws bud) := by
  obtain ⟨rv, rfl, hR⟩ := id hM
  obtain ⟨A, cA, rfl, _, _⟩ := hR.form
  obtain ⟨B, cB, rfl, hB1, hB2, hvl⟩ := id hW.form
  obtain ⟨g, hg⟩ : ∃ g, w.heap.size = g := ⟨_, rfl⟩
  obtain ⟨V, hV⟩ : ∃ V, V = (w.alloc (.cells #[.int .i64 m.tp, .int .i64 m.sy, .int .i64 m.st, .slice A m.rules.length cA] 35)).alloc (.cells #[.int .i64 0, .slice none 0 0] 30) := ⟨_, rfl⟩
  have hX : Ext w V := by rw [hV]; exact (Ext.alloc _ _).trans (Ext.alloc _ _)
  have bM : Blk V g 35 #[.int .i64 m.tp, .int .i64 m.sy, .int .i64 m.st, .slice A m.rules.length cA] := by rw [hV]; exact (Blk.new _ _ _ _ hg).alloc _
  have bO : Blk V (g + 1) 30 #[.int .i64 0, .slice none 0 0] := by rw [hV]; exact Blk.new _ _ _ _ (by simp [hg])
  have hgb : w.heap.size ≤ g + 1 := by omega
  have VM := ValidMulti_c (.agg #[.int .i64 m.tp, .int .i64 m.sy, .int .i64 m.st, .slice A m.rules.length cA]) m V ⟨_, rfl, hR.ext hX⟩
  go_enter Tryz.func9, Tryz.ntmps9
  go_wp2_with fail
  try rw [← hV]
  try rw [hg]
  clear hV
  refine VM.mono ?_
  rintro e w1 ⟨rfl, hx1⟩
  clear VM
  have hX1 := hX.trans hx1
  have bO1 := bO.ext hx1
  have ob := bO1.cell
  have of_ := bO1.frozen
  cases hm : multiOk m with
  | false =>
    have HRO := Lib.hid (RunOT.bad (ws := ws) (b := bud) hm)
    clear hm
    go_wp2
    exact bodyPost_ret (v := .tuple #[.agg #[.int .i64 0, .slice none 0 0], .int .i64 0, .bool false, .int .i64 1]) (by simp [results, Tryz.results9, go_sem, ob]) rfl ⟨_, HRO.out, RunDR.fail hgb hX1 _ _⟩
  | true =>
    have HM := Lib.hid hm
    have BU := budgetOk_c bud w1
    cases hbu : inB bud 1 20000 with
    | false =>
      have HRO := Lib.hid (RunOT.budget (ws := ws) hm hbu)
      rw [hbu] at BU
      clear hm hbu
      go_wp2_with fail
      refine BU.mono ?_
      rintro e _ ⟨rfl, rfl⟩
      clear BU
      go_wp2
      exact bodyPost_ret (v := .tuple #[.agg #[.int .i64 0, .slice none 0 0], .int .i64 0, .bool false, .int .i64 2]) (by simp [results, Tryz.results9, go_sem, ob]) rfl ⟨_, HRO.out, RunDR.fail hgb hX1 _ _⟩
    | true =>
      rw [hbu] at BU
      have hb' := inB_iff.1 hbu
      obtain ⟨N, rfl⟩ : ∃ N : Nat, bud = N := ⟨bud.toNat, by omega⟩
      have hN : N ≤ 100000 := by omega
      have HBU := Lib.hid hbu
      have bM1 := bM.ext hx1
      have m0 := bM1.cell 0
      have m1 := bM1.cell 1
      have m2 := bM1.cell 2
      have m3 := bM1.cell 3
      simp only [List.getElem?_toArray, List.getElem?_cons_zero, List.getElem?_cons_succ] at m0 m1 m2 m3
      have OT := oneTape_c (.agg #[.int .i64 m.tp, .int .i64 m.sy, .int .i64 m.st, .slice A m.rules.length cA]) m w1 ⟨_, rfl, hR.ext hX1⟩ hm
      clear hm hbu hb'
      go_wp2_with fail
      refine BU.mono ?_
      rintro e _ ⟨rfl, rfl⟩
      clear BU
      go_wp2_with fail
      refine OT.mono ?_
      rintro e w2 ⟨hres, hx2⟩
      clear OT ob of_
      have hX2 := hX1.trans hx2
      have bO2 := bO1.ext hx2
      have bM2 := bM1.ext hx2
      have ob := bO2.cell
      have of_ := bO2.frozen
      rcases hres with ⟨hn, rfl⟩ | ⟨s, bx, bm, rvx, pvx, hs, rfl, hst, hok, l1, l2⟩
      · have HRO := Lib.hid (RunOT.big (ws := ws) HM.out HBU.out hn)
        clear hn
        go_wp2
        exact bodyPost_ret (v := .tuple #[.agg #[.int .i64 0, .slice none 0 0], .int .i64 0, .bool false, .int .i64 5]) (by simp [results, Tryz.results9, go_sem, ob]) rfl ⟨_, HRO.out, RunDR.fail hgb hX2 _ _⟩
      · have HS := Lib.hid hs
        have HOK := Lib.hid hok
        clear m0 m1 m2 m3
        have m0 := bM2.cell 0
        have m1 := bM2.cell 1
        have m2 := bM2.cell 2
        have m3 := bM2.cell 3
        simp only [List.getElem?_toArray, List.getElem?_cons_zero, List.getElem?_cons_succ] at m0 m1 m2 m3
        have SO := StartOneTape_c m (.agg #[.int .i64 m.tp, .int .i64 m.sy, .int .i64 m.st, .slice A m.rules.length cA]) (.slice B ws.length cB) ws vs w2 ⟨_, rfl, hR.ext hX2⟩ (hW.ext hX2) (fun i hi => by
          obtain ⟨u, e, iu, hf⟩ := hI i hi
          exact ⟨u, e, iu.ext hX2, hf⟩)
        clear hs hok
        go_wp2_with fail
        refine SO.mono ?_
        rintro e w3 ⟨lvs, rvs, rfl, ol3, or3, hx3⟩
        clear SO
        obtain ⟨Al, cl, rfl, _, _⟩ := id ol3.ints.form
        obtain ⟨Ar, cr, rfl, _, _⟩ := id or3.ints.form
        have hX3 := hX2.trans hx3
        by_cases hk : (startOC m ws).2 = 0
        · obtain ⟨hwok, hlen, hsc⟩ := startOC_ok HM.out hk
          have hcf := startO_conf HM.out HS.out hwok hlen
          have HK := Lib.hid hk
          rw [hsc] at ol3 or3 ⊢
          simp only at ol3 or3 ⊢
          have HMO := Lib.hid (one_ok HM.out HS.out).1
          obtain ⟨x0, hx0⟩ : ∃ q, startO m ws = q := ⟨_, rfl⟩
          rw [hx0] at hcf ol3 or3 ⊢
          have HX0 := Lib.hid hx0
          obtain ⟨hg0, hf0⟩ := conf_run hcf
          obtain ⟨_, ⟨k1, _⟩, ⟨k2, _⟩⟩ := conf_allM (sy := 2 * m.sy) (st := (s.1.length : Int)) (rs := s.2) hcf
          have HCF := Lib.hid hcf
          obtain ⟨W4, hW4⟩ : ∃ W, W = w3.alloc (.cells #[.int .i64 x0.q, .slice Al x0.l.length cl, .slice Ar x0.r.length cr] 54) := ⟨_, rfl⟩
          have hX4 : Ext w3 W4 := by rw [hW4]; exact Ext.alloc _ _
          have bC4 : Blk W4 w3.heap.size 54 #[.int .i64 x0.q, .slice Al x0.l.length cl, .slice Ar x0.r.length cr] := by rw [hW4]; exact Blk.new _ _ _ _ rfl
          obtain ⟨gc, hgc⟩ : ∃ k, w3.heap.size = k := ⟨_, rfl⟩
          rw [hgc] at bC4
          have hx34 := hx3.trans hX4
          have zD := Ext.drew W4
          have hE4 := hX2.trans hx34
          have c0 := bC4.cell 0
          have c1 := bC4.cell 1
          have c2 := bC4.cell 2
          have x0c := (hst.blk.ext hx34).cell 0
          have x1c := (hst.blk.ext hx34).cell 1
          have x2c := (hst.blk.ext hx34).cell 2
          simp only [List.getElem?_toArray, List.getElem?_cons_zero, List.getElem?_cons_succ] at c0 c1 c2 x0c x1c x2c
          have c0 := zD.cell c0
          have c1 := zD.cell c1
          have c2 := zD.cell c2
          have x0c := zD.cell x0c
          have x1c := zD.cell x1c
          have x2c := zD.cell x2c
          have fl3 := ol3.flat
          have fr3 := or3.flat
          have RO : Calls Tryz.prog 31 #[.agg #[.int .i64 (2 * m.sy), .int .i64 (s.1.length : Int), rvx], .agg #[.int .i64 x0.q, .slice Al x0.l.length cl, .slice Ar x0.r.length cr]] W4.drew (MadeRun W4.drew (oneM m s) x0 rvx) :=
            runnerOf_c W4.drew (oneM m s) x0 rvx _ _ ((hst.rules.ext (hx34.trans zD)).rules) ((ol3.ext (hX4.trans zD)).ints) ((or3.ext (hX4.trans zD)).ints) fl3 fr3 (by omega) (by omega)
          obtain ⟨Av, cv, rfl, _, _⟩ := id hst.rules.rules.form
          have stK := (hst.ext hx34).ext zD
          have bOK := (bO2.ext hx34).ext zD
          have bMK := (bM2.ext hx34).ext zD
          have hEK := hE4.trans zD
          clear hk hwok hlen hsc hx0 hcf ob of_ m0 m1 m2 m3 hst
          go_upto_region 11 with fail
          try rw [← hW4]
          try rw [hgc]
          clear hW4
          refine wp_region_ordT 6 (readsT [0, 1, 2, 3, 4] (.stir 5 .done)) (by kernel_rfl) (by kernel_rfl) (fun _ _ _ _ _ h => h) ?_
          simp only [readsT]
          generalize W4.drew = wK at *
          iterate 5 (refine wpOrdT_read (v := ?_) (by rfl) (Or.inl ⟨by rfl, fun x hx => ?_⟩) ?_; rotate_left; (· have u0 := hx.cell c0; have u1 := hx.cell c1; have u2 := hx.cell c2; have u3 := hx.cell x0c; have u4 := hx.cell x1c; have u5 := hx.cell x2c; go_simp; try with_reducible rfl); try simp only [Act.put, List.setIfInBounds_toArray, List.set_cons_zero, List.set_cons_succ])
          refine wpOrdT_stir (by rfl) (fun K hK => ?_)
          go_simp
          go_at_call 31
          refine RO.mono ?_
          rintro e w5 ⟨b5, lv5, rv5, rfl, R5⟩
          refine hK _ _ R5.ext0 ?_
          clear hK K
          try simp only [Act.put, List.setIfInBounds_toArray, List.set_cons_zero, List.set_cons_succ]
          refine wpOrdT_done ?_
          try simp only [List.drop_succ_cons, List.drop_zero]
          have RU := run_c wK w5 b5 (oneM m s) x0 _ lv5 rv5 N hN HMO.out hg0 hf0 R5
          clear RO c0 c1 c2 x0c x1c x2c
          go_wp2_with fail
          refine RU.mono ?_
          clear RU R5
          rintro e w6 (⟨T, lv6, rv6, hE, rfl, R6⟩ | ⟨⟨T, hFull⟩, rfl, hx6⟩)
          · obtain ⟨hb, hhb⟩ : ∃ q, decide (lookI (oneM m s) (cfgI (oneM m s) x0 T) = noR) = q := ⟨_, rfl⟩
            have HHB := Lib.hid hhb
            rw [hhb]
            clear hhb
            have hcy := run_confM HMO.out HCF.out hE.runs
            have HEND : Hid (RunOT m ws (N : Int) (endRO m s x0 T)) := Lib.hid (by
              have a := HX0.out
              rw [← a] at hE ⊢
              exact RunOT.ends HM.out HBU.out HS.out HK.out hE)
            obtain ⟨y, hy⟩ : ∃ y, cfgI (oneM m s) x0 T = y := ⟨_, rfl⟩
            rw [hy] at hcy R6
            have HY := Lib.hid hy
            obtain ⟨⟨q0, q1⟩, ⟨b1, b2⟩, ⟨b3, b4⟩⟩ := conf_allM (sy := 2 * m.sy) (st := (s.1.length : Int)) (rs := s.2) hcy
            obtain ⟨i, hi⟩ : ∃ i : Nat, y.q = i := ⟨y.q.toNat, by omega⟩
            have hil : i < s.1.length := by omega
            obtain ⟨p, hp⟩ : ∃ p, s.1[i]? = some p := ⟨_, List.getElem?_eq_getElem hil⟩
            have HP := Lib.hid hp
            have HI := Lib.hid hi
            have HB2 : Hid (∀ z ∈ y.l, 0 ≤ z ∧ z ≤ 2 * m.sy - 1) := fun z hz => by have := b2 z hz; omega
            have HB4 : Hid (∀ z ∈ y.r, 0 ≤ z ∧ z ≤ 2 * m.sy - 1) := fun z hz => by have := b4 z hz; omega
            have hpk : WOk m p := HOK.out p (List.mem_of_getElem? hp)
            have HEQ := Lib.hid (endRO_at (m := m) hy hi hp)
            have hx6 := R6.ext0
            have st6 := stK.ext hx6
            have bO6 := bOK.ext hx6
            have bM6 := bMK.ext hx6
            have hE6 := hEK.trans hx6
            have DO : ∀ (X : World) (u v : Value) (bs : Nat), Ext w6 X → OwnInts bs X u y.l → OwnInts bs X v y.r →
                Calls Tryz.prog 33 #[.agg #[.int .i64 m.tp, .int .i64 m.sy, .int .i64 m.st, .slice A m.rules.length cA], .pointer (some ⟨bx, 0, none⟩), .agg #[.int .i64 y.q, u, v]] X (DecRes X (decOne m p y)) := fun X u v bs hx ou ov =>
              decodeOneTape_c w1.heap.size X m _ bx (2 * m.sy) s.1.length s.2 s.1 _ pvx bm y u v i p (st6.ext hx) HM.out HI.out HP.out hpk ou.ints ov.ints ou.flat ov.flat b1 b3 HB2 HB4
            have CG := fun X (hx : Ext w6 X) => config_c wK X b5 (oneM m s) y _ lv6 rv6 (R6.ext hx) (by omega) (by omega)
            obtain ⟨⟨⟨uq, uts⟩, uk⟩, hdec⟩ : ∃ q, decOne m p y = q := ⟨_, rfl⟩
            rw [hdec] at DO HEQ
            have c0 := bM6.cell 0
            have c1 := bM6.cell 1
            have c2 := bM6.cell 2
            have c3 := bM6.cell 3
            simp only [List.getElem?_toArray, List.getElem?_cons_zero, List.getElem?_cons_succ] at c0 c1 c2 c3
            clear hcy hE hy hi hp b2 b4 hdec hpk HOK hg0 hf0 R6
            go_upto_region 15 with fail
            go_cut [17, 13] (fun s6 s7 wx => CutMD w6 (⟨uq, uts⟩, uk) s6 s7 wx)
            case first =>
              go_region_held3 (fun w' => w'.cell? ⟨g, 0, none⟩ = some (.int .i64 m.tp) ∧ w'.cell? ⟨g, 1, none⟩ = some (.int .i64 m.sy) ∧ w'.cell? ⟨g, 2, none⟩ = some (.int .i64 m.st) ∧ w'.cell? ⟨g, 3, none⟩ = some (.slice A m.rules.length cA))
                (first | go_keep | exact ⟨(hS _ _).cell c0, (hS _ _).cell c1, (hS _ _).cell c2, (hS _ _).cell c3⟩ | exact ⟨hD.cell c0, hD.cell c1, hD.cell c2, hD.cell c3⟩ | exact ⟨hC.cell c0, hC.cell c1, hC.cell c2, hC.cell c3⟩ | exact ⟨(hA.trans (Ext.alloc _ zeroMD)).cell c0, (hA.trans (Ext.alloc _ zeroMD)).cell c1, (hA.trans (Ext.alloc _ zeroMD)).cell c2, (hA.trans (Ext.alloc _ zeroMD)).cell c3⟩ | exact ⟨hA.cell c0, hA.cell c1, hA.cell c2, hA.cell c3⟩)
                (first
                  | (go_at_call 34; ((with_reducible refine (CG w6.drew (Ext.drew _)).mono ?_)); rintro e wA ⟨uA, vA, rfl, oA1, oA2, _, hxA'⟩; have hA := (Ext.drew w6).trans hxA')
                  | (go_at_call 34; ((with_reducible refine (CG (w6.alloc zeroMD).drew ((Ext.alloc _ _).trans (Ext.drew _))).mono ?_)); rintro e wA ⟨uA, vA, rfl, oA1, oA2, _, hxA'⟩; have hA := ((Ext.alloc w6 zeroMD).trans (Ext.drew _)).trans hxA'; have bZA := (Blk.drew (Blk.new w6 w6.heap.size _ _ rfl)).ext hxA'; have hgz : w6.heap.size ≤ w6.heap.size := Nat.le_refl _)
                  | (go_at_call 33; ((with_reducible refine (DO wA _ _ _ hA oA1 oA2).mono ?_)); rintro e wC ⟨vC, clC, rfl, oC, hxC⟩; have hC := hA.trans hxC; have bZC := bZA.ext hxC; have hB := hA; obtain ⟨AS, cS, rfl, _, _, _⟩ := (ownsRow_row oC.own).form; have hS := Ext.set2D hC hgz; have vc := bZC.cell; have vf := bZC.frozen)
                  | (go_at_call 33; ((with_reducible refine (DO wA _ _ _ hA oA1 oA2).mono ?_)); rintro e wC ⟨vC, clC, rfl, oC, hxC⟩; have hC := hA.trans hxC; have hB := hA; obtain ⟨AS, cS, rfl, _, _, _⟩ := (ownsRow_row oC.own).form; have hD := hC.trans (Ext.alloc wC (.cells #[.int .i64 uq, .slice AS uts.length cS] 30)))
                  | (go_at_call 33; ((with_reducible refine (DO (wA.alloc zeroMD) _ _ _ (hA.trans (Ext.alloc _ _)) (oA1.ext (Ext.alloc _ zeroMD)) (oA2.ext (Ext.alloc _ zeroMD))).mono ?_)); rintro e wC ⟨vC, clC, rfl, oC, hxC⟩; have hB := hA.trans (Ext.alloc _ zeroMD); have hC := hB.trans hxC; have bZC := (Blk.new wA wA.heap.size _ _ rfl).ext hxC; have hgz := hA.size; obtain ⟨AS, cS, rfl, _, _, _⟩ := (ownsRow_row oC.own).form; have hS := Ext.set2D hC hgz; have vc := bZC.cell; have vf := bZC.frozen))
              all_goals
                go_wp2_with fail
                go_meet
                first
                  | exact CutMD.early (R := (⟨uq, uts⟩, uk)) hB hxC oC bZC hgz
                  | exact CutMD.late (R := (⟨uq, uts⟩, uk)) hB hxC oC
            case rest =>
              rename World => w7
              obtain ⟨g7, v7, cl7, rfl, rfl, b7, hx7, hg7, o7⟩ := hcut
              simp only at b7 o7 ⊢
              obtain ⟨A7, c7, rfl, _, _, _⟩ := (ownsRow_row o7.own).form
              have bO7 := bO6.ext hx7
              have hE7 := hE6.trans hx7
              clear c0 c1 c2 c3 DO CG
              by_cases hk7 : uk = 0
              · have HR7 : Hid (RunOT m ws (N : Int) ⟨⟨uq, uts⟩, T, hb, 0⟩) := Lib.hid (by
                  have a := HEND.out
                  have e1 := HEQ.out
                  have e2 := HHB.out
                  rw [HY.out] at e2
                  rw [e1] at a
                  try simp only at a
                  rw [if_pos hk7, e2] at a
                  exact a)
                subst hk7
                have z0 := b7.cell 0
                have z1 := b7.cell 1
                simp only [List.getElem?_toArray, List.getElem?_cons_zero, List.getElem?_cons_succ] at z0 z1
                have ob := bO7.cell
                have of_ := bO7.frozen
                go_wp2
                exact bodyPost_ret (v := .tuple #[.agg #[.int .i64 uq, .slice A7 uts.length c7], .int .i64 T, .bool hb, .int .i64 0]) (by simp [results, Tryz.results9, go_sem, ob]) rfl ⟨_, HR7.out, RunDR.done (c := ⟨uq, uts⟩) hgb hE6 hx7 o7 bO7 _ _⟩
              · have HR7 : Hid (RunOT m ws (N : Int) (rNo uk)) := Lib.hid (by
                  have a := HEND.out
                  rw [HEQ.out] at a
                  try simp only at a
                  rw [if_neg hk7] at a
                  exact a)
                have hne : (uk != 0) = true := by simpa using hk7
                have ob := bO7.cell
                have of_ := bO7.frozen
                clear hk7
                go_wp2
                exact bodyPost_ret (v := .tuple #[.agg #[.int .i64 0, .slice none 0 0], .int .i64 0, .bool false, .int .i64 uk]) (by simp [results, Tryz.results9, go_sem, ob]) rfl ⟨_, HR7.out, RunDR.fail hgb hE7 _ _⟩
          · have HRO : Hid (RunOT m ws (N : Int) (rNo 5)) := Lib.hid (by
              rw [← HX0.out] at hFull
              exact RunOT.full HM.out HBU.out HS.out HK.out hFull)
            have bO6 := bOK.ext hx6
            have ob := bO6.cell
            have of_ := bO6.frozen
            clear hFull
            go_wp2
            exact bodyPost_ret (v := .tuple #[.agg #[.int .i64 0, .slice none 0 0], .int .i64 0, .bool false, .int .i64 5]) (by simp [results, Tryz.results9, go_sem, ob]) rfl ⟨_, HRO.out, RunDR.fail hgb (hEK.trans hx6) _ _⟩
        · have HRO := Lib.hid (RunOT.start HM.out HBU.out HS.out hk)
          obtain ⟨⟨⟨sq, sl, sr⟩, sk⟩, hsc⟩ : ∃ q, startOC m ws = q := ⟨_, rfl⟩
          rw [hsc] at HRO hk ol3 or3 ⊢
          simp only at HRO hk ol3 or3 ⊢
          have hne : (sk != 0) = true := by simpa using hk
          obtain ⟨W4, hW4⟩ : ∃ W, W = w3.alloc (.cells #[.int .i64 sq, .slice Al sl.length cl, .slice Ar sr.length cr] 54) := ⟨_, rfl⟩
          have hX4 : Ext w3 W4 := by rw [hW4]; exact Ext.alloc _ _
          have bO4 := (bO2.ext hx3).ext hX4
          have hXX := hX3.trans hX4
          clear hk hsc ob of_
          have ob := bO4.cell
          have of_ := bO4.frozen
          go_upto_if 41 with fail
          try rw [← hW4]
          clear hW4
          go_wp2
          exact bodyPost_ret (v := .tuple #[.agg #[.int .i64 0, .slice none 0 0], .int .i64 0, .bool false, .int .i64 sk]) (by simp [results, Tryz.results9, go_sem, ob]) rfl ⟨_, HRO.out, RunDR.fail hgb hXX _ _⟩
end Go.Proofs.YtfghojbbofobeaaGreat
end
