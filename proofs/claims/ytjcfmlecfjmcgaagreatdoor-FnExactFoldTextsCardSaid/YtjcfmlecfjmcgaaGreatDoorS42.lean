/- Contracts: the program's configuration in a place of the machine on one half of the tape, and the beginning of its run.
Contract of the reference's decoding of a tape that is folded on one half. The tape is short. -/
import Derived.Test.YtjcfmlecfjmcgaaGreatDoorS30
import Derived.Test.YtjcfmlecfjmcgaaGreatDoorS36
import Derived.Test.YtjcfmlecfjmcgaaGreatDoorS38
import Derived.Test.YtjcfmlecfjmcgaaGreatDoorS26
import Derived.Test.YtjcfmlecfjmcgaaGreatDoorS22
import Derived.Test.YtjcfmlecfjmcgaaGreatDoorS04
import Derived.Test.YtjcfmlecfjmcgaaGreatDoorS09
import Derived.Test.YtjcfmlecfjmcgaaGreatDoorS18
section
set_option linter.unusedSimpArgs false
set_option linter.unusedVariables false
namespace Go.Proofs.YtjcfmlecfjmcgaaGreatDoor
open Go Go.RowKit Go.Proofs Go.Maps
set_option maxHeartbeats 400000
/-- A configuration and a code that a call gives; the sides are in memory of its own, from base on. -/
def PlaRes (base : Nat) (w : World) (r : ConfD × Int) (e : Ending) (w' : World) : Prop :=
  ∃ lv rv, e = .returned (.tuple #[.agg #[.int .i64 r.1.q, lv, rv], .int .i64 r.2]) ∧ OwnInts base w' lv r.1.l ∧ OwnInts base w' rv r.1.r ∧ (∀ g, lv.ownBlock = some g → rv.ownBlock ≠ some g) ∧ Ext w w'
/-- The configuration in a place. -/
def plaR (sy st : Int) (rs : List RuleD) (ps : List FP) (x : FP) (L R : List Int) : ConfD × Int :=
  if x ∈ ps then (if confB ⟨sy, st, rs⟩ ⟨(ps.idxOf x : Nat), trim L, trim R⟩ then (⟨(ps.idxOf x : Nat), trim L, trim R⟩, 0) else (blankC, 5)) else (blankC, 6)
theorem startF_pla {m : MachD} (c : ConfD) (hs : m.sy ≠ 0) : startF m c = match foldOf m with
  | none => (blankC, 5)
  | some s => plaR (m.sy + 1) s.1.length s.2 s.1 ⟨0, c.q, 0⟩ [m.sy] (interN c.r c.l (max c.l.length c.r.length)) := by
  unfold startF
  cases foldOf m with
  | none => rfl
  | some s =>
    have e : trim [m.sy] = [m.sy] := by
      unfold trim
      simp only [List.length_cons, List.length_nil, trimN]
      rw [if_neg (by simpa using hs)]
      rfl
    show _ = plaR _ _ _ _ _ _ _
    unfold plaR
    rw [e]
    rfl
theorem OwnInts.trimmed {base : Nat} {w : World} {A : Option Addr} {c : Nat} {zs : List Int} (h : OwnInts base w (.slice A zs.length c) zs) : OwnInts base w (.slice A (trimN zs zs.length) c) (trim zs) := by
  have hk := trimN_le zs zs.length
  by_cases hA : A = none
  · subst hA
    have : zs.length = 0 ∧ c = 0 := by
      rcases h.2 with ⟨e, _⟩ | ⟨g, cap, cur, e, _⟩
      · injection e with e1 e2 e3; exact ⟨e2, e3⟩
      · injection e with e1 e2 e3; cases e1
    have hz : zs = [] := List.length_eq_zero_iff.1 this.1
    subst hz
    rw [this.2]
    exact World.ownsRow_nil ..
  · exact h.take _ hk hA
theorem slice_own {A : Option Addr} {n k c g : Nat} (h : (Value.slice A k c).ownBlock = some g) : (Value.slice A n c).ownBlock = some g := by
  cases A with
  | none => simp [Value.ownBlock] at h
  | some p => simpa [Value.ownBlock] using h
set_option maxRecDepth 20000 in
set_option maxHeartbeats 4000000 in
theorem placedConfig_c (base base0 : Nat) (w : World) (bx : Nat) (sy st : Int) (rs : List RuleD) (ps : List FP) (x : FP) (rv pv : Value) (bm : Nat) (L R : List Int) (lv qv : Value)
    (h : PlSt base0 w bx sy st rs ps rv pv bm) (hl : OwnInts base w lv L) (hq : OwnInts base w qv R) (hap : ∀ g, lv.ownBlock = some g → qv.ownBlock ≠ some g) (hL : L.length ≤ 1048576) (hR : R.length ≤ 1048576)
    (x1 : small x.k) (x2 : small x.q) (x3 : small x.h) (s1 : 2 ≤ sy) (s2 : sy ≤ 6) (t1 : 1 ≤ st) (t2 : st ≤ 1000) :
    Calls Tryz.prog 59 #[.pointer (some ⟨bx, 0, none⟩), x.v, lv, qv] w (PlaRes base w (plaR sy st rs ps x L R)) := by
  have hk := fpKey x x1 x2 x3
  obtain ⟨Al, cl, rfl, _, _⟩ := hl.ints.form
  obtain ⟨Aq, cq, rfl, _, _⟩ := hq.ints.form
  obtain ⟨W, hW⟩ : ∃ W, (w.alloc (.cells #[.int .i64 x.k, .int .i64 x.q, .int .i64 x.h] 102)).alloc (.cells #[.int .i64 0, .slice none 0 0, .slice none 0 0] 37) = W := ⟨_, rfl⟩
  have hXW : Ext w W := by rw [← hW]; exact (Ext.alloc _ _).trans (Ext.alloc _ _)
  have bX : Blk W w.heap.size 102 #[.int .i64 x.k, .int .i64 x.q, .int .i64 x.h] := by rw [← hW]; exact (Blk.new _ _ _ _ rfl).alloc _
  have bO : Blk W (w.heap.size + 1) 37 #[.int .i64 0, .slice none 0 0, .slice none 0 0] := by rw [← hW]; exact Blk.new _ _ _ _ (by simp)
  have H := h.ext hXW
  have hlook := fun d os => (H.ext (below_regrown W d os)).tbl.lookup2 fpTy x hk
  simp only [FP.v] at hlook ⊢
  have k2 := H.blk.cell 4
  have y0 := bX.cell 0
  have y1 := bX.cell 1
  have y2 := bX.cell 2
  simp only [List.getElem?_toArray, List.getElem?_cons_zero, List.getElem?_cons_succ] at k2 y0 y1 y2
  have d4 := cellR k2
  have z0 := cellR y0
  have z1 := cellR y1
  have z2 := cellR y2
  have hb1 : w.heap.size ≤ w.heap.size + 1 := by omega
  obtain ⟨nL, hnL⟩ : ∃ n, trimN L L.length = n := ⟨_, rfl⟩
  obtain ⟨nR, hnR⟩ : ∃ n, trimN R R.length = n := ⟨_, rfl⟩
  have hlO : OwnInts base w (.slice Al nL cl) (trim L) := by rw [← hnL]; exact hl.trimmed
  have hqO : OwnInts base w (.slice Aq nR cq) (trim R) := by rw [← hnR]; exact hq.trimmed
  have ap2 : ∀ g, (Value.slice Al nL cl).ownBlock = some g → (Value.slice Aq nR cq).ownBlock ≠ some g := fun g h1 h2 => hap g (slice_own h1) (slice_own h2)
  have nl : ∀ g, (Value.slice Al nL cl).ownBlock = some g → g ≠ w.heap.size + 1 := fun g hg => by have := (hlO.lt g hg).2; omega
  have nr : ∀ g, (Value.slice Aq nR cq).ownBlock = some g → g ≠ w.heap.size + 1 := fun g hg => by have := (hqO.lt g hg).2; omega
  have done : ∀ (w1 : World) (r : ConfD × Int) (lv rv : Value), Ext w w1 → OwnInts base w1 lv r.1.l → OwnInts base w1 rv r.1.r → (∀ g, lv.ownBlock = some g → rv.ownBlock ≠ some g) →
      (∀ g, lv.ownBlock = some g → g ≠ w.heap.size + 1) → (∀ g, rv.ownBlock = some g → g ≠ w.heap.size + 1) → ∀ x y z : Value,
      PlaRes base w r (.returned (.tuple #[.agg #[.int .i64 r.1.q, lv, rv], .int .i64 r.2])) (((w1.setCell ⟨w.heap.size + 1, 0, none⟩ x).setCell ⟨w.heap.size + 1, 1, none⟩ y).setCell ⟨w.heap.size + 1, 2, none⟩ z) :=
    fun _ _ _ _ hX h1 h2 h3 n1 n2 x y z => ⟨_, _, rfl, ownsRow_far (ownsRow_far (ownsRow_far h1 n1 _) n1 _) n1 _, ownsRow_far (ownsRow_far (ownsRow_far h2 n2 _) n2 _) n2 _, h3, ((hX.setCell hb1 _).setCell hb1 _).setCell hb1 _⟩
  have none_ : ∀ (w1 : World) (k : Int), Ext w w1 → ∀ x y z : Value, PlaRes base w (blankC, k) (.returned (.tuple #[.agg #[.int .i64 0, .slice none 0 0, .slice none 0 0], .int .i64 k])) (((w1.setCell ⟨w.heap.size + 1, 0, none⟩ x).setCell ⟨w.heap.size + 1, 1, none⟩ y).setCell ⟨w.heap.size + 1, 2, none⟩ z) :=
    fun _ k hX x y z => done _ (blankC, k) _ _ hX (World.ownsRow_nil ..) (World.ownsRow_nil ..) (fun g hg => by simp [Value.ownBlock] at hg) (fun g hg => by simp [Value.ownBlock] at hg) (fun g hg => by simp [Value.ownBlock] at hg) x y z
  have DN := Lib.hid done
  have NN := Lib.hid none_
  clear done none_
  obtain ⟨E, hE⟩ : ∃ E, E = plaR sy st rs ps x L R := ⟨_, rfl⟩
  rw [← hE]
  have HE := Lib.hid hE
  clear hE
  by_cases hin : x ∈ ps
  · have hs : (numOf ps x).isSome = true := by simp [numOf, hin]
    rw [hs, idx_old hin] at hlook
    have HE2 : Hid (E = if confB ⟨sy, st, rs⟩ ⟨((ps.idxOf x : Nat) : Int), trim L, trim R⟩ then (⟨((ps.idxOf x : Nat) : Int), trim L, trim R⟩, 0) else (blankC, 5)) := by unfold Hid; rw [HE.out]; unfold plaR; rw [if_pos hin]
    obtain ⟨q, hq0⟩ : ∃ q : Int, ((ps.idxOf x : Nat) : Int) = q := ⟨_, rfl⟩
    have eq2 : ((addP ps x).idxOf x : Int) = q := by rw [addP_old hin]; exact hq0
    rw [hq0] at HE2
    try rw [eq2] at hlook
    try rw [hq0] at hlook
    clear hq0 hin hs eq2
    go_enter Tryz.func59, Tryz.ntmps59
    go_wp2_with fail
    try rw [hW]
    clear hW
    refine wp_region_ext (by kernel_rfl) (by kernel_rfl) ?_
    repeat (go_big_quiet_step (fail))
    refine wpQuiet_nil ?_
    intro w1 hx1
    have hX1 := hXW.trans hx1
    go_wp2_with fail
    refine (trimmed_c _ L w1 (hl.ints.ext hX1) hL).mono ?_
    rw [hnL]
    rintro e w' ⟨⟨A1, c1, ea, rfl⟩, rfl⟩
    injection ea with ea1 ea2 ea3
    subst ea1 ea3
    go_wp2_with fail
    refine (trimmed_c _ R w1 (hq.ints.ext hX1) hR).mono ?_
    rw [hnR]
    rintro e w' ⟨⟨A2, c2, eb, rfl⟩, rfl⟩
    injection eb with eb1 eb2 eb3
    subst eb1 eb3
    obtain ⟨V, hV⟩ : ∃ V, w1.alloc (.cells #[.int .i64 q, .slice Al nL cl, .slice Aq nR cq] 37) = V := ⟨_, rfl⟩
    have hXV : Ext w1 V := by rw [← hV]; exact Ext.alloc _ _
    have bC : Blk V w1.heap.size 37 #[.int .i64 q, .slice Al nL cl, .slice Aq nR cq] := by rw [← hV]; exact Blk.new _ _ _ _ rfl
    obtain ⟨g, hg⟩ : ∃ g, w1.heap.size = g := ⟨_, rfl⟩
    rw [hg] at bC
    have hX2 := hX1.trans hXV
    have H2 := h.ext hX2
    obtain ⟨Av, cv, rfl, _, _⟩ := H2.rules.rules.form
    have e0 := bC.cell 0
    have e1 := bC.cell 1
    have e2 := bC.cell 2
    have m0 := H2.blk.cell 0
    have m1 := H2.blk.cell 1
    have m2 := H2.blk.cell 2
    simp only [List.getElem?_toArray, List.getElem?_cons_zero, List.getElem?_cons_succ] at e0 e1 e2 m0 m1 m2
    have hlI := hlO.ints
    have hqI := hqO.ints
    have CC := fun d os => configOf_c (.agg #[.int .i64 sy, .int .i64 st, .slice Av rs.length cv]) (.agg #[.int .i64 q, .slice Al nL cl, .slice Aq nR cq]) ⟨sy, st, rs⟩ ⟨q, trim L, trim R⟩ _ ⟨_, rfl, H2.rules.rules.ext (below_regrown V d os)⟩ ⟨_, _, rfl, (hlI.ext hX2).ext (below_regrown V d os), (hqI.ext hX2).ext (below_regrown V d os)⟩ s1 s2 t1 t2
    have d0 := cellR m0
    have d1 := cellR m1
    have d2 := cellR m2
    have f0 := cellR e0
    have f1 := cellR e1
    have f2 := cellR e2
    have bO2 := (bO.ext hx1).ext hXV
    have oL2 := hlO.ext hX2
    have oR2 := hqO.ext hX2
    clear m0 m1 m2 d4 z0 z1 z2 y0 y1 y2 k2 hlook hlO hqO hlI hqI
    cases hc : confB ⟨sy, st, rs⟩ ⟨q, trim L, trim R⟩ with
    | false =>
      have HE3 : Hid (E = (blankC, 5)) := by unfold Hid; rw [HE2.out, hc]; rfl
      simp only [hc] at CC
      clear hc hnL hnR
      go_wp2_with fail
      try rw [hV]
      clear hV
      refine wp_region_ext (by kernel_rfl) (by kernel_rfl) ?_
      repeat (go_big_quiet_step ((go_at_call 57; exact Calls.extR (CC _ _))))
      refine wpQuiet_nil ?_
      intro w3 hx3
      have ob := (bO2.ext hx3).cell
      have of_ := (bO2.ext hx3).frozen
      go_wp2
      rw [HE3.out]
      exact bodyPost_ret (v := .tuple #[.agg #[.int .i64 0, .slice none 0 0, .slice none 0 0], .int .i64 5]) (by simp [results, Tryz.results59, go_sem, ob]) rfl (NN.out _ 5 (hX2.trans hx3) _ _ _)
    | true =>
      have HE3 : Hid (E = (⟨q, trim L, trim R⟩, 0)) := by unfold Hid; rw [HE2.out, hc]; rfl
      simp only [hc] at CC
      clear hc hnL hnR
      go_wp2_with fail
      try rw [hV]
      clear hV
      refine wp_region_ext (by kernel_rfl) (by kernel_rfl) ?_
      repeat (go_big_quiet_step ((go_at_call 57; exact Calls.extR (CC _ _))))
      refine wpQuiet_nil ?_
      intro w3 hx3
      have ob := (bO2.ext hx3).cell
      have of_ := (bO2.ext hx3).frozen
      have e0 := hx3.cell e0
      have e1 := hx3.cell e1
      have e2 := hx3.cell e2
      go_wp2
      rw [HE3.out]
      exact bodyPost_ret (v := .tuple #[.agg #[.int .i64 q, .slice Al nL cl, .slice Aq nR cq], .int .i64 0]) (by simp [results, Tryz.results59, go_sem, ob]) rfl (DN.out _ (⟨q, trim L, trim R⟩, 0) _ _ (hX2.trans hx3) (oL2.ext hx3) (oR2.ext hx3) ap2 nl nr _ _ _)
  · have hs : (numOf ps x).isSome = false := by simp [numOf, hin]
    have hs0 : (numOf ps x).getD 0 = 0 := by simp [numOf, hin]
    rw [hs, hs0] at hlook
    have HE2 : Hid (E = (blankC, 6)) := by unfold Hid; rw [HE.out]; unfold plaR; rw [if_neg hin]
    clear hs hs0 hin
    go_enter Tryz.func59, Tryz.ntmps59
    go_wp2_with fail
    try rw [hW]
    clear hW
    refine wp_region_ext (by kernel_rfl) (by kernel_rfl) ?_
    repeat (go_big_quiet_step (fail))
    refine wpQuiet_nil ?_
    intro w1 hx1
    have ob := (bO.ext hx1).cell
    have of_ := (bO.ext hx1).frozen
    go_wp2
    rw [HE2.out]
    exact bodyPost_ret (v := .tuple #[.agg #[.int .i64 0, .slice none 0 0, .slice none 0 0], .int .i64 6]) (by simp [results, Tryz.results59, go_sem, ob]) rfl (NN.out _ 6 (hXW.trans hx1) _ _ _)
end Go.Proofs.YtjcfmlecfjmcgaaGreatDoor
end
section
set_option linter.unusedSimpArgs false
set_option linter.unusedVariables false
namespace Go.Proofs.YtjcfmlecfjmcgaaGreatDoor
open Go Go.RowKit Go.Proofs
set_option maxHeartbeats 400000
theorem l13CellZ_c (v : Value) (zs : List Int) (z : Int) (w : World) (h : Ints w v zs) (h0 : 0 ≤ z) :
    Calls Tryz.prog 44 #[v, .int .i64 z] w fun e w' => e = .returned (.int .i64 (zs.getD z.toNat 0)) ∧ w = w' := by
  obtain ⟨k, rfl⟩ : ∃ k : Nat, z = k := ⟨z.toNat, by omega⟩
  exact l13Cell_c v zs k w h
theorem pl_even (k : Nat) (h : ((k : Int) % 2 == 0) = true) : plZ k = -((k : Int) / 2) := by
  unfold plZ
  simp only [beq_iff_eq] at h
  rw [if_pos (by omega)]
theorem pl_odd (k : Nat) (h : ((k : Int) % 2 == 0) = false) : plZ k = ((k : Int) - 1) / 2 := by
  unfold plZ
  simp only [beq_eq_false_iff_ne] at h
  rw [if_neg (by omega)]
theorem idx_neg (D : List Int) (z : Int) (h : z < 0) : symZ D z = D.getD (-2 * z - 1).toNat 0 := by
  unfold symZ idxZ
  rw [if_pos h]
  congr 1
  omega
theorem idx_nonneg (D : List Int) (z : Int) (h : ¬ z < 0) : symZ D z = D.getD (2 * z).toNat 0 := by
  unfold symZ idxZ
  rw [if_neg h]
  congr 1
  omega
set_option maxRecDepth 20000 in
set_option maxHeartbeats 2000000 in
theorem l13Unfold_c (v : Value) (D : List Int) (k : Nat) (q : Int) (w : World) (h : Ints w v D) (hn : D.length ≤ 10000) (k1 : 1 ≤ k) (k2 : k ≤ D.length + 1) :
    Calls Tryz.prog 51 #[v, .int .i64 k, .int .i64 q] w fun e w' => ∃ lv rv, e = .returned (.agg #[.int .i64 q, lv, rv]) ∧ OwnInts w.heap.size w' lv (unfL D (plZ k)) ∧ OwnInts w.heap.size w' rv (unfR D (plZ k)) ∧ Ext w w' := by
  obtain ⟨A, c, rfl, h2, h2'⟩ := h.form
  obtain ⟨i0, hi, hz0, hz1, hz2⟩ := info_parts intInfo
  obtain ⟨W, hW⟩ : ∃ W, W = w.alloc (.cells #[.int .i64 0, .slice none 0 0, .slice none 0 0] 37) := ⟨_, rfl⟩
  have hXW : Ext w W := by rw [hW]; exact Ext.alloc _ _
  have bO : Blk W w.heap.size 37 #[.int .i64 0, .slice none 0 0, .slice none 0 0] := by rw [hW]; exact Blk.new _ _ _ _ rfl
  have hown0 : (W.alloc (.cells #[] 2)).ownsRow W.heap.size 2 1 (.slice (some ⟨W.heap.size, 0, none⟩) 0 0) 0 [] :=
    World.ownsRow_made (base := W.heap.size) (e := 2) (size := 1) W #[] 0 (Nat.le_refl _) (by unfold maxLen; omega) (by simp)
  have hpl := pl_le k k1
  obtain ⟨most, hm⟩ : ∃ most, most = D.length / 2 + 2 := ⟨_, rfl⟩
  have hmc : (D.length : Int) / 2 + 2 = most := by omega
  have hm1 : most ≤ 5002 := by omega
  have hm2 : (D.length : Int) + 1 ≤ 2 * most := by omega
  have HM := Lib.hid hm
  have HMC := Lib.hid hmc
  have HL := Lib.hid hpl
  clear hm
  have hk2 : ((k : Int) / 2) ≤ 10000 := by omega
  have hWs : W.heap.size = w.heap.size + 1 := by rw [hW]; simp
  have HWS := Lib.hid hWs
  clear hWs
  obtain ⟨L0, hL0⟩ : ∃ L, unfL D (plZ k) = L := ⟨_, rfl⟩
  obtain ⟨R0, hR0⟩ : ∃ L, unfR D (plZ k) = L := ⟨_, rfl⟩
  rw [hL0, hR0]
  have HL0 := Lib.hid hL0
  have HR0 := Lib.hid hR0
  clear hL0 hR0
  cases hpe : ((k : Int) % 2 == 0)
  focus
    have HP := Lib.hid (pl_odd k hpe)
    go_enter Tryz.func51, Tryz.ntmps51
    go_wp2
    generalize ((k : Int) - 1) / 2 = x at *
  rotate_left
  focus
    have HP := Lib.hid (pl_even k hpe)
    go_enter Tryz.func51, Tryz.ntmps51
    go_wp2
    generalize -((k : Int) / 2) = x at *
  all_goals
    clear hpe
    have hx1 : -10000 ≤ x := by have := HP.out; omega
    have hx2 : x ≤ 10000 := by have := HP.out; omega
    go_loopw [8, 9, 11] (fun u hd n wr => ∃ (j : Nat) (hv : Int), j ≤ 2 * most + 1 ∧ n = .int .i64 ((j : Int) - most) ∧ hd = .int .i64 hv ∧ OwnInts W.heap.size wr u (fnL (fun i => symZ D ((i : Int) - most)) j) ∧ Hid ((plZ k + most < j → hv = plZ k + most)) ∧ Ext W wr) (fun _ _ n _ => (most + 1 - intOf n).toNat)
    case atStart => exact ⟨0, 0, by omega, by simp, rfl, by rw [hW] at hown0 ⊢; simpa [OwnInts, ivs, fnL] using hown0, by unfold Hid; omega, by rw [hW]; exact Ext.alloc _ _⟩
    case round =>
      obtain ⟨j, hv, hj, rfl, rfl, ho, hhd, hx⟩ := hrel
      by_cases hlt : j < 2 * most + 1
      · have HS : Hid (fnL (fun i => symZ D ((i : Int) - most)) (j + 1) = fnL (fun i => symZ D ((i : Int) - most)) j ++ [symZ D ((j : Int) - most)]) := Lib.hid (fnL_succ (fun i => symZ D ((i : Int) - most)) j)
        have hl : (fnL (fun i => symZ D ((i : Int) - most)) j).length = j := fnL_length _ _
        have HN := Lib.hid (idx_neg D ((j : Int) - most))
        have HP' := Lib.hid (idx_nonneg D ((j : Int) - most))
        generalize symZ D ((j : Int) - most) = s at *
        generalize fnL (fun i => symZ D ((i : Int) - most)) j = ys at *
        subst hl
        have hyl : ys.length ≤ 20000 := by omega
        obtain ⟨z, hz⟩ : ∃ z, z = (ys.length : Int) - most := ⟨_, rfl⟩
        have HZ := Lib.hid hz
        rw [← hz] at HN HP' ⊢
        have z1 : -5002 ≤ z := by omega
        have z2 : z ≤ most := by omega
        clear hz
        obtain ⟨Au, cu, rfl, _, _⟩ := ho.ints.form
        have ho1 : wr.ownsRow W.heap.size 2 1 (.slice Au ys.length cu) ys.length (ivs ys) := ho
        have ho' := fun s => ho1.alloc (.cells #[.int .i64 s] 2)
        have hD := h.ext (hXW.trans hx)
        have hs := hx.size
        by_cases hneg : z < 0
        · have hcell : Hid (D.getD (-2 * z - 1).toNat 0 = s) := Lib.hid (HN.out hneg).symm
          have hdd : decide (z < 0) = true := by simp [hneg]
          have hb1 : 0 ≤ -2 * z - 1 := by omega
          by_cases hz : z = x
          · have HZX := Lib.hid hz
            have hzb : (z == x) = true := by simp [hz]
            clear hneg hz
            go_wp2_with fail
            refine (l13CellZ_c _ D _ _ hD (by omega)).mono ?_
            rintro e w' ⟨rfl, rfl⟩
            rw [hcell.out]
            go_wp2_with (at_builtin; refine wpList_append_own_at _ rfl _ _ 25 rfl W.heap.size 2 i0 (.int .i64 0) 1 8 Tryz.underlying25 hi hz0 hz1 hz2 rfl (by decide) _ _ _ rfl (ho' s) ⟨wr.heap.size, 0, none⟩ 1 1 [.int .i64 s] rfl rfl (cell_one_new _ _ _) ?c2 ?c3 ?c4 ?c5 ?_)
            case c2 => intro u hu; simp at hu; subst hu; rfl
            case c3 => unfold maxLen; omega
            case c4 => omega
            case c5 => simp; omega
            intro v' w4 hown4 hg4 _ hloc
            obtain ⟨A', c', rfl, _, _, _⟩ := (ownsRow_row hown4).form
            have hx4 : Ext W w4 := (hx.trans (Ext.alloc _ _)).grown hg4 (fun k hk => ((ho' s).lt k hk).1)
            go_wp2
            go_roundw
            case rel => exact ⟨ys.length + 1, ys.length, by omega, by have := HZ.out; congr 1; omega, rfl, by rw [HS.out, HWS.out]; simpa [OwnInts, ivs_append, ivs] using hown4, by unfold Hid; intro _; have := HZ.out; have := HP.out; have := HZX.out; omega, hx4⟩
            case measure => simp [intOf]; omega
          · have HZX := Lib.hid hz
            have hzb : (z == x) = false := by simp [hz]
            clear hneg hz
            go_wp2_with fail
            refine (l13CellZ_c _ D _ _ hD (by omega)).mono ?_
            rintro e w' ⟨rfl, rfl⟩
            rw [hcell.out]
            go_wp2_with (at_builtin; refine wpList_append_own_at _ rfl _ _ 25 rfl W.heap.size 2 i0 (.int .i64 0) 1 8 Tryz.underlying25 hi hz0 hz1 hz2 rfl (by decide) _ _ _ rfl (ho' s) ⟨wr.heap.size, 0, none⟩ 1 1 [.int .i64 s] rfl rfl (cell_one_new _ _ _) ?c2 ?c3 ?c4 ?c5 ?_)
            case c2 => intro u hu; simp at hu; subst hu; rfl
            case c3 => unfold maxLen; omega
            case c4 => omega
            case c5 => simp; omega
            intro v' w4 hown4 hg4 _ hloc
            obtain ⟨A', c', rfl, _, _, _⟩ := (ownsRow_row hown4).form
            have hx4 : Ext W w4 := (hx.trans (Ext.alloc _ _)).grown hg4 (fun k hk => ((ho' s).lt k hk).1)
            go_wp2
            go_roundw
            case rel => exact ⟨ys.length + 1, hv, by omega, by have := HZ.out; congr 1; omega, rfl, by rw [HS.out, HWS.out]; simpa [OwnInts, ivs_append, ivs] using hown4, by unfold Hid; intro _; have := HZ.out; have := HP.out; have := HZX.out; exact hhd.out (by omega), hx4⟩
            case measure => simp [intOf]; omega
        · have hcell : Hid (D.getD (2 * z).toNat 0 = s) := Lib.hid (HP'.out hneg).symm
          have hdd : decide (z < 0) = false := by simp [hneg]
          have hb1 : 0 ≤ 2 * z := by omega
          by_cases hz : z = x
          · have HZX := Lib.hid hz
            have hzb : (z == x) = true := by simp [hz]
            clear hneg hz
            go_wp2_with fail
            refine (l13CellZ_c _ D _ _ hD (by omega)).mono ?_
            rintro e w' ⟨rfl, rfl⟩
            rw [hcell.out]
            go_wp2_with (at_builtin; refine wpList_append_own_at _ rfl _ _ 25 rfl W.heap.size 2 i0 (.int .i64 0) 1 8 Tryz.underlying25 hi hz0 hz1 hz2 rfl (by decide) _ _ _ rfl (ho' s) ⟨wr.heap.size, 0, none⟩ 1 1 [.int .i64 s] rfl rfl (cell_one_new _ _ _) ?c2 ?c3 ?c4 ?c5 ?_)
            case c2 => intro u hu; simp at hu; subst hu; rfl
            case c3 => unfold maxLen; omega
            case c4 => omega
            case c5 => simp; omega
            intro v' w4 hown4 hg4 _ hloc
            obtain ⟨A', c', rfl, _, _, _⟩ := (ownsRow_row hown4).form
            have hx4 : Ext W w4 := (hx.trans (Ext.alloc _ _)).grown hg4 (fun k hk => ((ho' s).lt k hk).1)
            go_wp2
            go_roundw
            case rel => exact ⟨ys.length + 1, ys.length, by omega, by have := HZ.out; congr 1; omega, rfl, by rw [HS.out, HWS.out]; simpa [OwnInts, ivs_append, ivs] using hown4, by unfold Hid; intro _; have := HZ.out; have := HP.out; have := HZX.out; omega, hx4⟩
            case measure => simp [intOf]; omega
          · have HZX := Lib.hid hz
            have hzb : (z == x) = false := by simp [hz]
            clear hneg hz
            go_wp2_with fail
            refine (l13CellZ_c _ D _ _ hD (by omega)).mono ?_
            rintro e w' ⟨rfl, rfl⟩
            rw [hcell.out]
            go_wp2_with (at_builtin; refine wpList_append_own_at _ rfl _ _ 25 rfl W.heap.size 2 i0 (.int .i64 0) 1 8 Tryz.underlying25 hi hz0 hz1 hz2 rfl (by decide) _ _ _ rfl (ho' s) ⟨wr.heap.size, 0, none⟩ 1 1 [.int .i64 s] rfl rfl (cell_one_new _ _ _) ?c2 ?c3 ?c4 ?c5 ?_)
            case c2 => intro u hu; simp at hu; subst hu; rfl
            case c3 => unfold maxLen; omega
            case c4 => omega
            case c5 => simp; omega
            intro v' w4 hown4 hg4 _ hloc
            obtain ⟨A', c', rfl, _, _, _⟩ := (ownsRow_row hown4).form
            have hx4 : Ext W w4 := (hx.trans (Ext.alloc _ _)).grown hg4 (fun k hk => ((ho' s).lt k hk).1)
            go_wp2
            go_roundw
            case rel => exact ⟨ys.length + 1, hv, by omega, by have := HZ.out; congr 1; omega, rfl, by rw [HS.out, HWS.out]; simpa [OwnInts, ivs_append, ivs] using hown4, by unfold Hid; intro _; have := HZ.out; have := HP.out; have := HZX.out; exact hhd.out (by omega), hx4⟩
            case measure => simp [intOf]; omega
      · have hje : j = 2 * most + 1 := by omega
        subst hje
        have HV : hv = plZ k + most := by have := HL.out; exact hhd.out (by omega)
        obtain ⟨hd, rfl⟩ : ∃ hd : Nat, hv = hd := ⟨hv.toNat, by have := HL.out; omega⟩
        have HLL := Lib.hid (line_left D most k hd k1 k2 HM.out HV)
        have HRR := Lib.hid (line_right D most k hd k1 k2 HM.out HV)
        have hl : (lineF D most).length = 2 * most + 1 := fnL_length _ _
        change OwnInts _ _ _ (lineF D most) at ho
        have hdl : hd ≤ 2 * most := by have := HL.out; omega
        clear HV hhd
        generalize lineF D most = ys at *
        have hll : hd < ys.length := by omega
        have hyl : ys.length ≤ 20000 := by omega
        obtain ⟨Au, cu, rfl, hcu, hcu'⟩ := ho.ints.form
        obtain ⟨b, off, rfl, _⟩ := ho.ints.at (k := 0) (by omega)
        have t1 : Ints wr (.slice (some ⟨b, off, none⟩) hd cu) (ys.take hd) := ho.ints.take hd (by omega)
        have t2 : Ints wr (.slice (some ⟨b, off + hd, none⟩) (ys.length - hd) (cu - hd)) (ys.drop hd) := ho.ints.drop hd (by omega)
        have hne : ¬ cu = hd := by omega
        have HY := Lib.hid hl
        clear hl
        have hc1 : hd ≤ cu := by omega
        have hc2 : hd ≤ ys.length := by omega
        have hlt1 : (ys.take hd).length ≤ 1048576 := by simp; omega
        have hlt2 : (ys.drop hd).length ≤ 1048576 := by simp; omega
        have hxd : Ext wr wr.drew := Ext.drew _
        have hsw := hx.size
        generalize (ys.take hd) = ya at *
        generalize (ys.drop hd) = yb at *
        go_wp2
        go_region_law
          (first
            | (go_simp; go_at_call 50; ((with_reducible refine (l03Reverse_c _ ya _ (t1.ext hxd) hlt1).mono ?_)); rintro e w5 ⟨u5, rfl, ho5, hx5⟩; have hlr : ya.reverse.length ≤ 1048576 := by rw [List.length_reverse]; exact hlt1)
            | (go_simp; go_at_call 45; ((with_reducible refine (l05Trim_c _ ya.reverse _ ho5.ints hlr).mono ?_)); rintro e w6 ⟨u6, rfl, ho6, hx6⟩; rw [HLL.out, HL0.out] at ho6; obtain ⟨A6, c6, rfl, _, _⟩ := ho6.ints.form)
            | (go_simp; go_at_call 45; ((with_reducible refine (l05Trim_c _ yb _ (t2.ext (hxd.trans (hx5.trans hx6))) hlt2).mono ?_)); rintro e w7 ⟨u7, rfl, ho7, hx7⟩; rw [HRR.out, HR0.out] at ho7; obtain ⟨A7, c7, rfl, _, _⟩ := ho7.ints.form; have hX7 : Ext W w7 := (((hx.trans hxd).trans hx5).trans hx6).trans hx7; have bO7 := bO.ext hX7; have z0 := bO7.cell; have z1 := bO7.frozen)
            | (trace_state; fail))
        go_wp2
        have hw5 := hx5.size
        have hw6 := hx6.size
        have hws : w.heap.size < W.heap.size := by have := bO.lt; omega
        have hwd : (wr.drew).heap.size = wr.heap.size := rfl
        have o6 := ho6.ext hx7
        have f6 : ∀ g, (Value.slice A6 L0.length c6).ownBlock = some g → g ≠ w.heap.size := fun g hg => by have := (o6.lt g hg).1; omega
        have f7 : ∀ g, (Value.slice A7 R0.length c7).ownBlock = some g → g ≠ w.heap.size := fun g hg => by have := (ho7.lt g hg).1; omega
        refine bodyPost_ret (v := .agg #[.int .i64 q, .slice A6 L0.length c6, .slice A7 R0.length c7]) (by simp [results, Tryz.results51, go_sem, z0]) rfl ⟨_, _, rfl, ?_, ?_, ?_⟩
        · exact ownsRow_base (ownsRow_far (ownsRow_far (ownsRow_far o6 f6 _) f6 _) f6 _) (by omega)
        · exact ownsRow_base (ownsRow_far (ownsRow_far (ownsRow_far ho7 f7 _) f7 _) f7 _) (by omega)
        · exact (((hXW.trans hX7).setCell (Nat.le_refl _) _).setCell (Nat.le_refl _) _).setCell (Nat.le_refl _) _
end Go.Proofs.YtjcfmlecfjmcgaaGreatDoor
end
