/- Contract of the program's judgement of a configuration with several tapes, where the machine, the state and the number of tapes are right.
Contract of the program's run of a machine with several tapes, from a configuration that is valid.
Contract of the program's text of a configuration with several tapes. The listed tables of the library hold what they should. -/
import Derived.Test.YtkbpchdncljlbaaGreatDoorV31
import Derived.Test.YtkbpchdncljlbaaGreatDoorV10
import Derived.Test.YtkbpchdncljlbaaGreatDoorV26
section
set_option linter.unusedVariables false
set_option linter.unusedSimpArgs false
namespace Go.Proofs.YtkbpchdncljlbaaGreatDoor
open Go Go.RowKit Go.Proofs Go.Maps
set_option maxHeartbeats 400000
set_option maxRecDepth 20000 in
set_option maxHeartbeats 1000000 in
theorem ValidMultiConfig_c (m : MultiD) (mv tv : Value) (c : MConfD) (w : World) (hM : Mult w mv m) (hm : multiOk m = true) (hT : Tapes w tv c.tapes) (hq : inB c.q 0 (m.st - 1) = true) (hn : (c.tapes.length : Int) = m.tp) :
    Calls Tryz.prog 19 #[mv, .agg #[.int .i64 c.q, tv]] w fun e w' => e = .returned (.bool (c.tapes.all (tapeOk m))) ∧ Ext w w' := by
  obtain ⟨rv, rfl, hR⟩ := id hM
  obtain ⟨A, cA, rfl, _, _⟩ := hR.form
  obtain ⟨At, ct, rfl, ht1, ht2⟩ := hT.form
  obtain ⟨V, hV⟩ : ∃ V, V = (w.alloc (.cells #[.int .i64 m.tp, .int .i64 m.sy, .int .i64 m.st, .slice A m.rules.length cA] 26)).alloc (.cells #[.int .i64 c.q, .slice At c.tapes.length ct] 29) := ⟨_, rfl⟩
  have hX : Ext w V := by rw [hV]; exact (Ext.alloc _ _).trans (Ext.alloc _ _)
  obtain ⟨g, hg⟩ : ∃ g, w.heap.size = g := ⟨_, rfl⟩
  have bM : Blk V g 26 #[.int .i64 m.tp, .int .i64 m.sy, .int .i64 m.st, .slice A m.rules.length cA] := by rw [hV]; exact (Blk.new _ _ _ _ hg).alloc _
  have bC : Blk V (g + 1) 29 #[.int .i64 c.q, .slice At c.tapes.length ct] := by rw [hV]; exact Blk.new _ _ _ _ (by simp [hg])
  have m0 := bM.cell 0
  have m1 := bM.cell 1
  have m2 := bM.cell 2
  have m3 := bM.cell 3
  have c0 := bC.cell 0
  have c1 := bC.cell 1
  simp only [List.getElem?_toArray, List.getElem?_cons_zero, List.getElem?_cons_succ] at m0 m1 m2 m3 c0 c1
  replace m0 := cellR m0
  replace m1 := cellR m1
  replace m2 := cellR m2
  replace m3 := cellR m3
  replace c0 := cellR c0
  replace c1 := cellR c1
  have VM' := fun d os => ValidMulti_c (.agg #[.int .i64 m.tp, .int .i64 m.sy, .int .i64 m.st, .slice A m.rules.length cA]) m (Sort.grow (redrawn V d) os) ((hM.ext hX).ext (below_regrown _ _ _))
  rw [hm] at VM'
  have WI := fun w => within_c c.q 0 (m.st - 1) w
  rw [hq] at WI
  have HALL : Hid ((!(c.tapes.any fun t => !tapeOk m t)) = c.tapes.all (tapeOk m)) := by
    unfold Hid
    rw [Bool.eq_iff_iff]
    simp
  obtain ⟨⟨tp1, tp2⟩, _, ⟨st1, st2⟩, _, _⟩ := multi_all hm
  have HQ : Hid (inB c.q 0 (m.st - 1) = true) := hq
  have HN : Hid ((c.tapes.length : Int) = m.tp) := hn
  have btp : ((c.tapes.length : Int) != m.tp) = false := by simp [hn]
  have hwq : IntKind.i64.wrap (m.st - 1) = m.st - 1 := IntWalk.i64_in _ (by omega)
  clear hq
  rw [← HALL.out]
  obtain ⟨ok, hok⟩ : ∃ ok, (c.tapes.any fun t => !tapeOk m t) = ok := ⟨_, rfl⟩
  rw [hok]
  have HOK := Lib.hid hok
  clear hok HALL
  go_enter Tryz.func19, Tryz.ntmps19
  go_wp2_with fail
  try rw [← hV]
  try rw [hg]
  clear hV hn
  refine wp_region_ext (by kernel_rfl) (by kernel_rfl) ?_
  repeat (go_big_quiet_step ((first | (go_at_call 27; exact Calls.extR (VM' _ _)) | (go_at_call 50; exact Calls.sameR (WI _)) | (go_at_call 51; exact Calls.sameR (sizeT_c _ _ _ (by assumption) (by assumption) _)))))
  refine wpQuiet_nil ?_
  intro w2 hx2
  have hX2 := hX.trans hx2
  have bM2 := bM.ext hx2
  have bC2 := bC.ext hx2
  have d1 := bC2.cell 1
  simp only [List.getElem?_toArray, List.getElem?_cons_zero, List.getElem?_cons_succ] at d1
  have CT := containsT_c m A cA g (.slice At c.tapes.length ct) c.tapes w2 bM2 (hR.ext hX2) hm (hT.ext hX2)
  rw [HOK.out] at CT
  clear m0 m1 m2 m3 c0 c1
  go_wp2_with fail
  refine CT.mono ?_
  rintro e w3 ⟨rfl, hx3⟩
  go_wp2_with fail
  go_ret
  exact ⟨rfl, hX2.trans hx3⟩
end Go.Proofs.YtkbpchdncljlbaaGreatDoor
end
section
set_option linter.unusedVariables false
set_option linter.unusedSimpArgs false
namespace Go.Proofs.YtkbpchdncljlbaaGreatDoor
open Go Go.RowKit Go.Proofs Go.Maps
set_option maxHeartbeats 400000
/-- Tapes in memory from an address on, whose sides may be copied. -/
def TapF (w : World) (b off : Nat) (ts : List TapeD) : Prop :=
  ∀ i, (h : i < ts.length) → ∃ vl vr, w.cell? ⟨b, off + i * 2, none⟩ = some vl ∧ w.cell? ⟨b, off + i * 2 + 1, none⟩ = some vr ∧ Ints w vl ts[i].l ∧ Ints w vr ts[i].r ∧ Flat vl ∧ Flat vr ∧ ts[i].l.length ≤ 1000 ∧ ts[i].r.length ≤ 1000
theorem TapF.ext {w w' : World} {b off : Nat} {ts : List TapeD} (h : TapF w b off ts) (he : Ext w w') : TapF w' b off ts := fun i hi => by
  obtain ⟨vl, vr, c0, c1, i1, i2, r⟩ := h i hi
  exact ⟨vl, vr, he.cell c0, he.cell c1, i1.ext he, i2.ext he, r⟩
theorem TapF.tapes {w : World} {b off cap : Nat} {ts : List TapeD} (h : TapF w b off ts) (h1 : ts.length ≤ cap) (h2 : cap ≤ 9223372036854775807) : Tapes w (.slice (some ⟨b, off, none⟩) ts.length cap) ts :=
  ⟨_, cap, rfl, h1, h2, fun _ => ⟨b, off, rfl, fun i hi => by
    obtain ⟨vl, vr, c0, c1, i1, i2, _⟩ := h i hi
    exact ⟨vl, vr, c0, c1, i1, i2⟩⟩⟩
/-- Tapes in a block that is known whole. -/
def TapB (w : World) (g : Nat) (ts : List TapeD) : Prop :=
  ∃ cs, Blk w g 50 cs ∧ ∀ i, (h : i < ts.length) → ∃ lv rv, cs[i * 2]? = some lv ∧ cs[i * 2 + 1]? = some rv ∧ Side 0 w lv ts[i].l ∧ Side 0 w rv ts[i].r ∧ ts[i].l.length ≤ 1000 ∧ ts[i].r.length ≤ 1000
theorem TapB.tapF {w : World} {g : Nat} {ts : List TapeD} (h : TapB w g ts) : TapF w g 0 ts := fun i hi => by
  obtain ⟨cs, hb, hc⟩ := h
  obtain ⟨lv, rv, e1, e2, s1, s2, l1, l2⟩ := hc i hi
  exact ⟨lv, rv, by rw [Nat.zero_add]; exact (hb.cell _).trans e1, by rw [Nat.zero_add]; exact (hb.cell _).trans e2, s1.ints, s2.ints, s1.flat, s2.flat, l1, l2⟩
theorem TapB.far {w : World} {g gO : Nat} {ts : List TapeD} {co : Array Value} (h : TapB w g ts) (hO : Blk w gO 29 co) (i : Nat) (u : Value) : TapB (w.setCell ⟨gO, i, none⟩ u) g ts := by
  obtain ⟨cs, hb, hc⟩ := h
  refine ⟨cs, hb.far (by exact blk_ne hb hO (by decide)) _, fun j hj => ?_⟩
  obtain ⟨lv, rv, e1, e2, s1, s2, l1, l2⟩ := hc j hj
  exact ⟨lv, rv, e1, e2, s1.far (s1.neT hO (by decide)) _, s2.far (s2.neT hO (by decide)) _, l1, l2⟩
theorem MAt.tapB {w0 w : World} {K : Nat → Prop} {bc gT cap : Nat} {cs : Array Value} {c : MConfD} (h : MAt w0 K w bc gT cap cs c) (hr : roomM c = true) : TapB w gT c.tapes := ⟨cs, h.tblk, fun i hi => by
  obtain ⟨lv, rv, e1, e2, s1, s2⟩ := h.side i hi
  have := List.all_eq_true.1 hr _ (List.getElem_mem hi)
  simp only [roomT, Bool.and_eq_true, decide_eq_true_eq] at this
  exact ⟨lv, rv, e1, e2, s1.low (Nat.zero_le _), s2.low (Nat.zero_le _), by omega, by omega⟩⟩
theorem side_len {xs : List Int} {sy : Int} (h : sideOk xs sy 200 = true) : xs.length ≤ 200 ∧ ∀ z ∈ xs, 0 ≤ z ∧ z ≤ sy - 1 := by
  simp only [sideOk, Bool.and_eq_true, decide_eq_true_eq, List.all_eq_true] at h
  exact ⟨by omega, fun z hz => inB_iff.1 (h.1.2 z hz)⟩
theorem tape_len {m : MultiD} {t : TapeD} (h : tapeOk m t = true) : roomT t = true ∧ (∀ z ∈ t.l, 0 ≤ z ∧ z ≤ m.sy - 1) ∧ ∀ z ∈ t.r, 0 ≤ z ∧ z ≤ m.sy - 1 := by
  simp only [tapeOk, Bool.and_eq_true] at h
  have h1 := side_len h.1
  have h2 := side_len h.2
  exact ⟨by simp [roomT, h1.1, h2.1], h1.2, h2.2⟩
theorem room_of_ok {m : MultiD} {c : MConfD} (h : c.tapes.all (tapeOk m) = true) : roomM c = true :=
  List.all_eq_true.2 fun t ht => (tape_len (List.all_eq_true.1 h t ht)).1
theorem good_of_ok {m : MultiD} {c : MConfD} (hm : multiOk m = true) (hq : inB c.q 0 (m.st - 1) = true) (hn : (c.tapes.length : Int) = m.tp) (h : c.tapes.all (tapeOk m) = true) : GoodM m c := by
  obtain ⟨_, ⟨s1, s2⟩, ⟨q1, q2⟩, _, _⟩ := multi_all hm
  obtain ⟨q3, q4⟩ := inB_iff.1 hq
  refine ⟨by unfold smallZ; omega, hn, fun t ht => ?_⟩
  obtain ⟨_, h1, h2⟩ := tape_len (List.all_eq_true.1 h t ht)
  exact ⟨fun z hz => by have := h1 z hz; unfold smallZ; omega, fun z hz => by have := h2 z hz; unfold smallZ; omega⟩
/-- What a run of a machine with several tapes gives. -/
def RunRM (rs : List MRuleD) (c : MConfD) (N : Nat) (e : Ending) (w' : World) : Prop :=
  (∃ i g cap, MEnd rs c N i ∧ e = .returned (.tuple #[.agg #[.int .i64 (cfgM rs c i).q, .slice (some ⟨g, 0, none⟩) c.tapes.length cap], .int .i64 (i : Int), .bool (lookM rs (cfgM rs c i)).isNone, .int .i64 0]) ∧
    c.tapes.length ≤ cap ∧ cap ≤ 9223372036854775807 ∧ TapF w' g 0 (cfgM rs c i).tapes) ∨
  (∃ i, MFull rs c N i ∧ e = .returned (.tuple #[.agg #[.int .i64 0, .slice none 0 0], .int .i64 0, .bool false, .int .i64 5]))
set_option maxRecDepth 20000 in
set_option maxHeartbeats 4000000 in
theorem RunMulti_c (m : MultiD) (mv : Value) (c : MConfD) (b off cap N : Nat) (w : World) (hM : Mult w mv m) (hm : multiOk m = true) (hq : inB c.q 0 (m.st - 1) = true) (hn : (c.tapes.length : Int) = m.tp) (hts : c.tapes.all (tapeOk m) = true)
    (hT : TapF w b off c.tapes) (h1 : c.tapes.length ≤ cap) (h2 : cap ≤ 9223372036854775807) (hN1 : 1 ≤ N) (hN2 : N ≤ 20000) :
    Calls Tryz.prog 7 #[mv, .agg #[.int .i64 c.q, .slice (some ⟨b, off, none⟩) c.tapes.length cap], .int .i64 (N : Int)] w fun e w' => RunRM m.rules c N e w' ∧ Ext w w' := by
  have hG := good_of_ok hm hq hn hts
  have hroom := room_of_ok hts
  obtain ⟨⟨tp1, tp2⟩, _⟩ := multi_all hm
  have hpos : 0 < c.tapes.length := by omega
  have hn3 : c.tapes.length ≤ 1000 := by omega
  obtain ⟨rv, rfl, hR⟩ := id hM
  obtain ⟨A, cA, rfl, _, _⟩ := hR.form
  obtain ⟨V, hV⟩ : ∃ V, V = ((w.alloc (.cells #[.int .i64 m.tp, .int .i64 m.sy, .int .i64 m.st, .slice A m.rules.length cA] 26)).alloc (.cells #[.int .i64 c.q, .slice (some ⟨b, off, none⟩) c.tapes.length cap] 29)).alloc (.cells #[.int .i64 0, .slice none 0 0] 29) := ⟨_, rfl⟩
  have hX : Ext w V := by rw [hV]; exact ((Ext.alloc _ _).trans (Ext.alloc _ _)).trans (Ext.alloc _ _)
  obtain ⟨g, hg⟩ : ∃ g, w.heap.size = g := ⟨_, rfl⟩
  have bM : Blk V g 26 #[.int .i64 m.tp, .int .i64 m.sy, .int .i64 m.st, .slice A m.rules.length cA] := by rw [hV]; exact ((Blk.new _ _ _ _ hg).alloc _).alloc _
  have bC : Blk V (g + 1) 29 #[.int .i64 c.q, .slice (some ⟨b, off, none⟩) c.tapes.length cap] := by rw [hV]; exact (Blk.new _ _ _ _ (by simp [hg])).alloc _
  have bO : Blk V (g + 1 + 1) 29 #[.int .i64 0, .slice none 0 0] := by rw [hV]; exact Blk.new _ _ _ _ (by simp [hg])
  have m0 := bM.cell 0
  have m1 := bM.cell 1
  have m2 := bM.cell 2
  have m3 := bM.cell 3
  have c0 := bC.cell 0
  have c1 := bC.cell 1
  simp only [List.getElem?_toArray, List.getElem?_cons_zero, List.getElem?_cons_succ] at m0 m1 m2 m3 c0 c1
  have VC := ValidMultiConfig_c m _ _ c V (hM.ext hX) hm (TapF.tapes (hT.ext hX) h1 h2) hq hn
  rw [hts] at VC
  have BO := fun w => budgetOk_c (N : Int) w
  have hb : inB (N : Int) 1 20000 = true := inB_iff.2 ⟨by omega, by omega⟩
  rw [hb] at BO
  have HT := Lib.hid hT
  clear hT hts
  go_enter Tryz.func7, Tryz.ntmps7
  go_wp2_with fail
  try rw [← hV]
  try rw [hg]
  clear hV
  refine VC.mono ?_
  rintro e w1 ⟨rfl, hx1⟩
  go_wp2_with fail
  refine (BO w1).mono ?_
  rintro e _ ⟨rfl, rfl⟩
  have hX1 := hX.trans hx1
  have d0 := (bC.ext hx1).cell 0
  have d1 := (bC.ext hx1).cell 1
  simp only [List.getElem?_toArray, List.getElem?_cons_zero, List.getElem?_cons_succ] at d0 d1
  have CM := copyMultiConfig_c w1 c b off cap h1 h2 hn3 (HT.out.ext hX1)
  clear m0 m1 m2 m3 c0 c1 VC BO
  go_wp2_with fail
  refine CM.mono ?_
  rintro e w2 ⟨v, cl, rfl, hC, hx2⟩
  obtain ⟨gT, cp, cs, rfl, hAt⟩ := hC.at hx2 hpos
  obtain ⟨W, hW⟩ : ∃ W, W = w2.alloc (.cells #[.int .i64 c.q, .slice (some ⟨gT, 0, none⟩) c.tapes.length cp] 29) := ⟨_, rfl⟩
  have hXW : Ext w2 W := by rw [hW]; exact Ext.alloc _ _
  rw [← hW] at hAt
  obtain ⟨bc, hbc⟩ : ∃ bc, w2.heap.size = bc := ⟨_, rfl⟩
  rw [hbc] at hAt
  have hx12 := hx1.trans (hx2.trans hXW)
  have bM2 := bM.ext hx12
  have bO2 := bO.ext hx12
  have bM3 := bM.ext (hx1.trans hx2)
  have m0 := bM3.cell 0
  have m1 := bM3.cell 1
  have m2 := bM3.cell 2
  have m3 := bM3.cell 3
  have hgl : g < w2.heap.size := bM3.lt
  have hgl2 : g < bc := by rw [← hbc]; exact hgl
  simp only [List.getElem?_toArray, List.getElem?_cons_zero, List.getElem?_cons_succ] at m0 m1 m2 m3
  have RM := runMulti_c w1 W (fun k => k < w1.heap.size) m (.agg #[.int .i64 m.tp, .int .i64 m.sy, .int .i64 m.st, .slice A m.rules.length cA]) c bc gT cp N cs #[] (fun _ _ _ _ => True) ⟨_, rfl, (hR.ext hX1)⟩ hm hG hroom hAt (by omega)
    (fun _ _ _ _ _ => trivial) (fun _ _ _ _ _ _ _ => trivial) (fun hi => visNone _ _ _ _ _ _ _ _)
  have hXall := hX.trans hx12
  have hgO : w.heap.size ≤ g + 1 + 1 := by omega
  have hO1 : g + 1 + 1 < w1.heap.size := (bO.ext hx1).lt
  have HX1 := Lib.hid hX1
  have HBO := Lib.hid (bO.ext hx1)
  clear hC hAt CM d0 d1 HT hx1 hx2 hX bM bC bO hM hR hG hroom hXW bO2
  go_wp2_with fail
  try rw [← hW]
  try rw [hbc]
  clear hW
  refine RM.mono ?_
  rintro e w3 ⟨hi, ⟨i, K', cs', hE, rfl, hA3, _⟩ | ⟨i, K', hF, rfl, hx3, _⟩⟩
  · have hT3 := hA3.tapB (hE.runs.room i (Nat.le_refl _))
    have hx3 := hA3.ext0
    have hcp := hA3.cap1
    have hcp2 := hA3.cap2
    have bO3 := HBO.out.ext hx3
    have d0 := hA3.blk.cell 0
    have d1 := hA3.blk.cell 1
    simp only [List.getElem?_toArray, List.getElem?_cons_zero, List.getElem?_cons_succ] at d0 d1
    have hne : bc ≠ g + 1 + 1 := by have := hA3.blo; omega
    rw [cfgM_tapes] at d1 hcp
    have ob := bO3.cell
    have of_ := bO3.frozen
    have HE := Lib.hid hE
    have ht0 := hT3
    obtain ⟨cc, hcc⟩ : ∃ cc, cfgM m.rules c i = cc := ⟨_, rfl⟩
    rw [hcc] at d0 hT3
    have HCC := Lib.hid hcc
    have hX3 : Ext w w3 := HX1.out.trans hx3
    obtain ⟨q, hqq⟩ : ∃ q, cc.q = q := ⟨_, rfl⟩
    rw [hqq] at d0
    have HQQ := Lib.hid hqq
    obtain ⟨n, hnn⟩ : ∃ n, c.tapes.length = n := ⟨_, rfl⟩
    have HNN := Lib.hid hnn
    rw [hnn] at d1 hcp
    obtain ⟨hl, hhl⟩ : ∃ b, (lookM m.rules (cfgM m.rules c i)).isNone = b := ⟨_, rfl⟩
    have HHL := Lib.hid hhl
    rw [hhl]
    have HT : Hid (TapF ((w3.setCell ⟨g + 1 + 1, 0, none⟩ (.int .i64 q)).setCell ⟨g + 1 + 1, 1, none⟩ (.slice (some ⟨gT, 0, none⟩) n cp)) gT 0 cc.tapes) := Lib.hid (by
      exact ((hT3.far bO3 0 _).far (bO3.set_ 0 _) 1 _).tapF)
    have HXX := Lib.hid ((hX3.setCell (p := ⟨g + 1 + 1, 0, none⟩) hgO (.int .i64 q)).setCell (p := ⟨g + 1 + 1, 1, none⟩) hgO (.slice (some ⟨gT, 0, none⟩) n cp))
    clear hE hA3 hT3 hcc ht0 hqq hnn hhl RM HBO hx3 hX3
    go_wp2_with fail
    refine bodyPost_ret (v := .tuple #[.agg #[.int .i64 q, .slice (some ⟨gT, 0, none⟩) n cp], .int .i64 (i : Int), .bool hl, .int .i64 0]) (by simp [results, Tryz.results7, go_sem, ob]) rfl ⟨.inl ⟨i, gT, cp, HE.out, ?_, by rw [HNN.out]; exact hcp, hcp2, by rw [HCC.out]; exact HT.out⟩, HXX.out⟩
    rw [HCC.out, HQQ.out, HNN.out, ← HCC.out, HHL.out]
  · have bO3 := HBO.out.ext hx3
    have ob := bO3.cell
    have of_ := bO3.frozen
    have HXX := Lib.hid (((HX1.out.trans hx3).setCell (p := ⟨g + 1 + 1, 0, none⟩) hgO (.int .i64 0)).setCell (p := ⟨g + 1 + 1, 1, none⟩) hgO (.slice none 0 0))
    have HF := Lib.hid hF
    clear hF RM HBO hx3
    go_wp2_with fail
    exact bodyPost_ret (v := .tuple #[.agg #[.int .i64 0, .slice none 0 0], .int .i64 0, .bool false, .int .i64 5]) (by simp [results, Tryz.results7, go_sem, ob]) rfl ⟨.inr ⟨i, HF.out, rfl⟩, HXX.out⟩
end Go.Proofs.YtkbpchdncljlbaaGreatDoor
end
section
set_option linter.unusedSimpArgs false
set_option linter.unusedVariables false
namespace Go.Proofs.YtkbpchdncljlbaaGreatDoor
open Go Go.RowKit Go.Proofs
set_option maxHeartbeats 400000
theorem Bldr.ext {B b : Nat} {l : List UInt8} {w w' : World} (h : Bldr B b l w) (he : Ext w w') : Bldr B b l w' := by
  rcases h with ⟨hB, v, hbk, hown, hne⟩ | ⟨hB, v, hbk, hown, hne⟩
  · exact .inl ⟨hB, v, he.block hbk, ownsRow_ext hown he, hne⟩
  · exact .inr ⟨hB, v, he.block hbk, ownsRow_ext hown he, hne⟩
/-- The text of a tape. -/
def tapT (t : TapeD) : List UInt8 := [124] ++ digB t.l.reverse ++ [94] ++ digB t.r
/-- The text of a configuration with several tapes. -/
def mconT (c : MConfD) : List UInt8 := [40] ++ Lib.itoa c.q ++ [41] ++ c.tapes.flatMap tapT
/-- What a configuration must be for its text. -/
structure MDig (c : MConfD) : Prop where
  q0 : 0 ≤ c.q
  q9 : c.q ≤ 999
  n : c.tapes.length ≤ 3
  t : ∀ t ∈ c.tapes, t.l.length ≤ 200 ∧ t.r.length ≤ 200 ∧ (∀ z ∈ t.l, 0 ≤ z ∧ z ≤ 9) ∧ ∀ z ∈ t.r, 0 ≤ z ∧ z ≤ 9
theorem tapT_len (t : TapeD) (h1 : t.l.length ≤ 200) (h2 : t.r.length ≤ 200) : (tapT t).length ≤ 402 := by simp [tapT, digB]; omega
theorem flatT_len : ∀ (ts : List TapeD), (∀ t ∈ ts, t.l.length ≤ 200 ∧ t.r.length ≤ 200) → (ts.flatMap tapT).length ≤ 402 * ts.length
  | [], _ => by simp
  | t :: ts, h => by
    have ih := flatT_len ts (fun x hx => h x (by simp [hx]))
    have h0 := h t (by simp)
    have := tapT_len t h0.1 h0.2
    simp only [List.flatMap_cons, List.length_append, List.length_cons]
    omega
theorem tapT_app (t : TapeD) : (((⟨#[124]⟩ : ByteArray) ++ bsS (digB t.l.reverse) ++ ⟨#[94]⟩ ++ bsS (digB t.r)).data.toList) = tapT t := by
  simp [tapT, ByteArray.data_append]
theorem headQ_app (q : Int) : (((⟨#[40]⟩ : ByteArray) ++ itoaS q ++ ⟨#[41]⟩).data.toList) = [40] ++ Lib.itoa q ++ [41] := by
  simp [itoaS, ByteArray.data_append]
end Go.Proofs.YtkbpchdncljlbaaGreatDoor
end
