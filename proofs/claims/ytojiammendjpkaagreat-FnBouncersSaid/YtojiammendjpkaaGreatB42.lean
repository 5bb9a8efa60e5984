/- Contract: one step of a machine, where it does not halt.
What a bouncer's proof that is in order says of the run; plain.
The contract of the laws' r8Long. -/
import Derived.Test.YtojiammendjpkaaGreatB33
import Derived.Test.YtojiammendjpkaaGreatB06
import Derived.Test.YtojiammendjpkaaGreatB36
import Derived.Test.YtojiammendjpkaaGreatB09
import Derived.Test.YtojiammendjpkaaGreatB02
section
set_option linter.unusedSimpArgs false
set_option linter.unusedVariables false
namespace Go.Proofs.YtojiammendjpkaaGreat
open Go Go.RowKit Go.Proofs
set_option maxHeartbeats 400000
/-- What a step returns. -/
def StpM (w : World) (c : ConfD) (e : Ending) (w' : World) : Prop :=
  Ext w w' ∧ ((e = .returned (.tuple #[.agg #[.int .i64 0, .slice none 0 0, .slice none 0 0], .int .i64 5])) ∨ (fitI c = true ∧ ∃ lv rv, e = .returned (.tuple #[.agg #[.int .i64 c.q, lv, rv], .int .i64 0]) ∧ OwnInts w.heap.size w' lv c.l ∧ OwnInts w.heap.size w' rv c.r))
set_option maxRecDepth 20000 in
set_option maxHeartbeats 4000000 in
theorem StepMachine_c (rvm : Value) (m : MachD) (c : ConfD) (lv qv : Value) (w : World) (hr : Rules w rvm m.rules) (hl : Ints w lv c.l) (hq : Ints w qv c.r) (fl : Flat lv) (fr : Flat qv) (hm : machOk m = true) (hc : confB m c = true) (hno : ¬ lookI m c = noR) :
    Calls Tryz.prog 12 #[.agg #[.int .i64 m.sy, .int .i64 m.st, rvm], .agg #[.int .i64 c.q, lv, qv]] w (StpM w (stepI (lookI m c) c)) := by
  obtain ⟨Am, cm, rfl, _, _⟩ := hr.form
  obtain ⟨Al, cl, rfl, _, _⟩ := hl.form
  obtain ⟨Ar, cr, rfl, _, _⟩ := hq.form
  obtain ⟨gm, hgm⟩ : ∃ g, w.heap.size = g := ⟨_, rfl⟩
  obtain ⟨W, hW⟩ : ∃ W, W = ((w.alloc (.cells #[.int .i64 m.sy, .int .i64 m.st, .slice Am m.rules.length cm] 26)).alloc (.cells #[.int .i64 c.q, .slice Al c.l.length cl, .slice Ar c.r.length cr] 29)).alloc (.cells #[.int .i64 0, .slice none 0 0, .slice none 0 0] 29) := ⟨_, rfl⟩
  have hXW : Ext w W := by rw [hW]; exact ((Ext.alloc _ _).trans (Ext.alloc _ _)).trans (Ext.alloc _ _)
  have bM : Blk W gm 26 #[.int .i64 m.sy, .int .i64 m.st, .slice Am m.rules.length cm] := by rw [hW]; exact ((Blk.new _ _ _ _ hgm).alloc _).alloc _
  have bC : Blk W (gm + 1) 29 #[.int .i64 c.q, .slice Al c.l.length cl, .slice Ar c.r.length cr] := by rw [hW]; exact (Blk.new _ _ _ _ (by simp [hgm])).alloc _
  have bO : Blk W (gm + 1 + 1) 29 #[.int .i64 0, .slice none 0 0, .slice none 0 0] := by rw [hW]; exact Blk.new _ _ _ _ (by simp [hgm])
  have hlo : Hid (w.heap.size ≤ gm + 1 + 1) := Lib.hid (by omega)
  obtain ⟨hg, hf⟩ := conf_run hc
  have hfl : c.l.length ≤ 200 ∧ c.r.length ≤ 200 := by simpa [fitI] using hf
  have HC := Lib.hid (And.intro (hr.ext hXW) (And.intro (hl.ext hXW) (And.intro (hq.ext hXW) (And.intro fl (And.intro fr (And.intro hm (And.intro hc (And.intro hno (And.intro hg (And.intro bO hXW))))))))))
  have m0 := bM.cell 0
  have m1 := bM.cell 1
  have m2 := bM.cell 2
  have q0 := bC.cell 0
  have q1 := bC.cell 1
  have q2 := bC.cell 2
  simp only [List.getElem?_toArray, List.getElem?_cons_zero, List.getElem?_cons_succ] at m0 m1 m2 q0 q1 q2
  have VC := ValidConfig_c (.agg #[.int .i64 m.sy, .int .i64 m.st, .slice Am m.rules.length cm]) (.agg #[.int .i64 c.q, .slice Al c.l.length cl, .slice Ar c.r.length cr]) m c W ⟨_, rfl, hr.ext hXW⟩ ⟨_, _, rfl, hl.ext hXW, hq.ext hXW⟩
  rw [hm, hc] at VC
  simp only [Bool.and_true] at VC
  clear hr hl hq fl fr hm hc hno hg hf bM bC bO hXW
  go_enter Tryz.func12, Tryz.ntmps12
  go_wp2_with fail
  try rw [← hW]
  try rw [hgm]
  clear hW hgm
  refine VC.mono ?_
  rintro e w1 ⟨rfl, hx1⟩
  clear VC
  replace m0 := hx1.cell m0
  replace m1 := hx1.cell m1
  replace m2 := hx1.cell m2
  replace q0 := hx1.cell q0
  replace q1 := hx1.cell q1
  replace q2 := hx1.cell q2
  obtain ⟨hr, hl, hq, fl, fr, hm, hc, hno, hg, bO, hXW⟩ := HC.out
  have RO := runnerOf_c w1 m c _ _ _ (hr.ext hx1) (hl.ext hx1) (hq.ext hx1) fl fr (by omega) (by omega)
  have HX1 := Lib.hid hx1
  clear hr hl hq fl fr hm hc hno hg bO hXW hx1
  go_wp2_with fail
  refine RO.mono ?_
  rintro e w2 ⟨b, lv1, rv1, rfl, hR2⟩
  have hh := halts_c w1 w2 b m c _ lv1 rv1 hR2 (by omega) HC.out.2.2.2.2.2.1 HC.out.2.2.2.2.2.2.2.2.1
  rw [decide_eq_false HC.out.2.2.2.2.2.2.2.1] at hh
  clear RO m0 m1 m2 q0 q1 q2
  have HR2 := Lib.hid hR2
  clear hR2
  go_wp2_with fail
  refine hh.mono ?_
  rintro e w3 ⟨rfl, hx3⟩
  have hR3 := HR2.out.ext hx3
  have hs := step_c w1 w3 b m c _ lv1 rv1 hR3 (by omega) (by omega) HC.out.2.2.2.2.2.1 HC.out.2.2.2.2.2.2.2.2.1
  obtain ⟨c', hc'⟩ : ∃ x, stepI (lookI m c) c = x := ⟨_, rfl⟩
  rw [hc'] at hs
  have HCC := Lib.hid hc'
  clear hh hR3 hx3 hc'
  go_wp2_with fail
  refine hs.mono ?_
  rintro e w4 ⟨lv', rv', rfl, hR4, _⟩
  clear hs
  have hx4 : Ext w w4 := (HC.out.2.2.2.2.2.2.2.2.2.2.trans HX1.out).trans hR4.ext0
  have bO4 := (HC.out.2.2.2.2.2.2.2.2.2.1.ext HX1.out).ext hR4.ext0
  have r0 := bO4.cell 0
  have r1 := bO4.cell 1
  have r2 := bO4.cell 2
  have z0 := bO4.frozen 0
  have z1 := bO4.frozen 1
  have z2 := bO4.frozen 2
  simp only [List.getElem?_toArray, List.getElem?_cons_zero, List.getElem?_cons_succ] at r0 r1 r2
  have HO := Lib.hid (And.intro bO4 hx4)
  cases hf : fitI c' with
  | false =>
    clear hf hR4 bO4 hx4
    go_wp2
    refine bodyPost_ret (v := .tuple #[.agg #[.int .i64 0, .slice none 0 0, .slice none 0 0], .int .i64 5]) (by simp [results, Tryz.results12, go_sem, r0, r1, r2]) rfl ⟨((HO.out.2.setCell hlo.out _).setCell hlo.out _).setCell hlo.out _, .inl rfl⟩
  | true =>
    have hf2 : c'.l.length ≤ 200 ∧ c'.r.length ≤ 200 := by simpa [fitI] using hf
    have HF := Lib.hid hf
    have CG := config_c w1 w4 b m c' _ lv' rv' hR4 (by omega) (by omega)
    clear hf hR4 bO4 hx4 r0 r1 r2 z0 z1 z2
    go_wp2_with fail
    refine CG.mono ?_
    rintro e w5 ⟨l2, r2, rfl, o1, o2, _, hx5⟩
    obtain ⟨A2, k2, rfl, _, _⟩ := id o1.ints.form
    obtain ⟨B2, j2, rfl, _, _⟩ := id o2.ints.form
    have bO5 := HO.out.1.ext hx5
    have r0 := bO5.cell 0
    have r1 := bO5.cell 1
    have r2 := bO5.cell 2
    have z0 := bO5.frozen 0
    have z1 := bO5.frozen 1
    have z2 := bO5.frozen 2
    simp only [List.getElem?_toArray, List.getElem?_cons_zero, List.getElem?_cons_succ] at r0 r1 r2
    have n1 := own_far_blk o1 bO5 (by decide)
    have n2 := own_far_blk o2 bO5 (by decide)
    have HO1 := Lib.hid (And.intro o1 (And.intro o2 (And.intro n1 (And.intro n2 hx5))))
    clear CG o1 o2 n1 n2 hx5 bO5
    go_wp2
    obtain ⟨o1, o2, n1, n2, hx5⟩ := HO1.out
    refine bodyPost_ret (v := .tuple #[.agg #[.int .i64 c'.q, .slice A2 c'.l.length k2, .slice B2 c'.r.length j2], .int .i64 0]) (by simp [results, Tryz.results12, go_sem, r0, r1, r2]) rfl ⟨(((HO.out.2.trans hx5).setCell hlo.out _).setCell hlo.out _).setCell hlo.out _, .inr (by rw [HCC.out]; exact ⟨HF.out, _, _, rfl, ownsRow_base (ownsRow_far (ownsRow_far (ownsRow_far o1 n1 _) n1 _) n1 _) HO.out.2.size, ownsRow_base (ownsRow_far (ownsRow_far (ownsRow_far o2 n2 _) n2 _) n2 _) HO.out.2.size⟩)⟩
end Go.Proofs.YtojiammendjpkaaGreat
end
section
set_option linter.unusedSimpArgs false
set_option linter.unusedVariables false
namespace Go.Proofs.YtojiammendjpkaaGreat
open Go Go.RowKit Go.Proofs
set_option maxHeartbeats 400000
/-- What follows from a bouncer's proof. -/
structure B24 (m : MachD) (n0 n : Nat) (f : FoD) (cs : List Int) (g : FoD) (l : List Int) : Prop where
  room : roomR (foCfg f.q (tapeO f cs) (headO f cs)) = (cfgI m blankC n0, 0)
  no : ∀ i, ¬ lookI m (cfgI m (cfgI m blankC n0) i) = noR
  run : runF m n f = some g
  ok : foOk m g = true
  grow : growF m f g = some l
  len : l.length = cs.length
  low : ∀ z ∈ l, 0 ≤ z ∧ z ≤ 2000
  sh : ∀ cs', cs'.length = cs.length → (∀ z ∈ cs', 2 ≤ z) → ShapeF f cs' ∧ ∀ k, k < f.rs.length → 1 ≤ cs'.getD k 0 + f.os.getD k 0
theorem BncOk.b24 {m : MachD} (hm : machOk m = true) {n0 n : Nat} {f : FoD} {cs : List Int} {ws : List (List Int)} (h : BncOk m n0 n f cs ws) : ∃ g l, B24 m n0 n f cs g l := by
  obtain ⟨hrl, hc1, hc3, hwl⟩ := h.rl
  obtain ⟨hr3, hws, hos, _, hrr, _, hat⟩ := foOk_parts h.hok
  have hh := foOk_hd h.hok
  have ho0 : ∀ k, f.os.getD k 0 = 0 := fun k => by
    rw [h.hos, List.getD_eq_getElem?_getD]
    cases e : (List.replicate cs.length (0 : Int))[k]? with
    | none => rfl
    | some z => exact List.eq_of_mem_replicate (List.mem_of_getElem? e)
  have sh : ∀ cs', cs'.length = cs.length → (∀ z ∈ cs', 2 ≤ z) → ShapeF f cs' ∧ ∀ k, k < f.rs.length → 1 ≤ cs'.getD k 0 + f.os.getD k 0 := fun cs' e hz => by
    have hp : ∀ k, k < f.rs.length → 2 ≤ cs'.getD k 0 := fun k hk => by
      have hk' : k < cs'.length := by omega
      rw [List.getD_eq_getElem?_getD, List.getElem?_eq_getElem hk']
      exact hz _ (List.getElem_mem hk')
    exact ⟨⟨hr3.1, hws, hos, by omega, hh.1, hh.2, fun k hk => by have := hp k hk; have := ho0 k; omega⟩, fun k hk => by have := hp k hk; have := ho0 k; omega⟩
  have s0 := sh cs rfl (fun z hz => by rw [h.hcs z hz]; exact Int.le_refl _)
  obtain ⟨l0, hl0⟩ := h.first
  have hn : n ∈ accR m f cs 400 1 f false := by rw [hl0]; exact List.mem_cons_self
  obtain ⟨g, d, e1, _, _, hrun, hgr, hokg, hgl, hposg, _⟩ := acc_means hm f cs 400 1 f false n hn h.hok (by omega) (fun j hj => by have := s0.2 j (by omega); omega)
  obtain ⟨l, hl⟩ := Option.isSome_iff_exists.1 hgr
  obtain ⟨hr3', hws', hos', _, hrl', _, hat'⟩ := foOk_parts hokg
  have hh' := foOk_hd hokg
  have hfn : ∀ r ∈ f.rs, r ≠ [] := fun r hr => List.length_pos_iff.1 (hrr r hr).1
  have hgn : ∀ r ∈ g.rs, r ≠ [] := fun r hr => List.length_pos_iff.1 (hrl' r hr).1
  have sG : ShapeF g cs := ⟨hr3'.1, hws', hos', by omega, hh'.1, hh'.2, fun j hj => hposg j (by omega)⟩
  have gl := grow_line s0.1 sG hfn hgn hl 0
  have hst := h.st
  unfold startB at hst
  simp only [Bool.and_eq_true, decide_eq_true_eq] at hst
  obtain ⟨_, hr0, hce⟩ := hst
  have hc := cfgEq_iff.1 hce
  have hroom : roomR (foCfg f.q (tapeO f cs) (headO f cs)) = (cfgI m blankC n0, 0) := by rw [← hc, ← hr0]
  have hcfg : foCfg f.q (tapeO f cs) (headO f cs) = cfgI m blankC n0 := by
    have e := hroom
    unfold roomR at e
    split at e
    · exact congrArg Prod.fst e
    · exact absurd (congrArg Prod.snd e) (by simp)
  have hno := bounce_never hm h.hok (by omega) (fun j hj => s0.2 j hj) hn
  rw [hcfg] at hno
  have hl2 : ∀ z ∈ l, 0 ≤ z ∧ z ≤ 2000 := by
    have e := hl
    unfold growF at e
    split at e
    · rename_i hcond
      injection e with e
      simp only [Bool.and_eq_true, List.all_eq_true] at hcond
      intro z hz
      rw [← e] at hz
      have := inB_iff.1 (hcond.2 z hz)
      omega
    · cases e
  exact ⟨g, l, hroom, hno, by rw [show n = d by omega]; exact hrun, hokg, hl, by have := gl.1; omega, hl2, sh⟩
/-- A configuration on the run from the blank tape. -/
theorem conf_run_blank {m : MachD} (hm : machOk m = true) {n : Nat} (h : RunsTo m blankC n) : confB m (cfgI m blankC n) = true :=
  conf_back (cfg_good hm (blank_good hm) n h.no) (by simpa [fitI] using h.fit n (Nat.le_refl _)) (tidy_cfg ⟨.inl rfl, .inl rfl⟩ n)
theorem conf_next {m : MachD} (hm : machOk m = true) {c : ConfD} (hc : confB m c = true) (hno : ¬ lookI m c = noR) (hf : fitI (stepI (lookI m c) c) = true) : confB m (stepI (lookI m c) c) = true := by
  obtain ⟨hg, _, ht⟩ := conf_good hc
  exact conf_back (hg.step hm hno) (by simpa [fitI] using hf) (tidy_step ht)
end Go.Proofs.YtojiammendjpkaaGreat
end
section
namespace Go.Proofs.YtojiammendjpkaaGreat
open Go Go.RowKit Go.Proofs
set_option maxHeartbeats 400000
theorem r8Longs_c (w : World) (A B : Option Addr) (n c k d : Nat) :
    Calls Tryz.prog 6 #[.slice A n c, .slice B k d] w fun e w' => e = .returned (.bool (decide (1048576 < n) || decide (1048576 < k))) ∧ w = w' := by
  by_cases h1 : 1048576 < n
  · have e1 : decide ((n : Int) > 1048576) = true := by simp; omega
    have HH := Lib.hid h1
    clear h1
    go_enter Tryz.func6, Tryz.ntmps6
    go_wp2
    go_ret
    exact ⟨by simp [HH.out], rfl⟩
  · have e1 : decide ((n : Int) > 1048576) = false := by simp; omega
    have HH := Lib.hid h1
    clear h1
    by_cases h2 : 1048576 < k
    · have e2 : decide ((k : Int) > 1048576) = true := by simp; omega
      have HK := Lib.hid h2
      clear h2
      go_enter Tryz.func6, Tryz.ntmps6
      go_wp2
      go_ret
      exact ⟨by simp [HH.out, HK.out], rfl⟩
    · have e2 : decide ((k : Int) > 1048576) = false := by simp; omega
      have HK := Lib.hid h2
      clear h2
      go_enter Tryz.func6, Tryz.ntmps6
      go_wp2
      go_ret
      exact ⟨by simp [HH.out, HK.out], rfl⟩
end Go.Proofs.YtojiammendjpkaaGreat
end
